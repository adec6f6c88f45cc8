/- Contracts of strings.Builder: copyCheck, Len, WriteString, String of one that holds bytes. The layings of the library's contracts (written by the kit's lay-shelf and lay-plain). Contracts of strings.Join and of writing words, for the abstract machine. Contracts of strings.Builder, for the abstract machine. Contracts of trace: a line. Contracts of trace: Print. The fixed run that each law begins with. Contracts of the reference of trace: Events, SameEvents; the law Events. Contracts of the reference of trace: Of, Steps, Check; the comparisons. Contracts of the reference of trace: Steps, Check; the comparisons. Contracts of trace that hand out new memory. The law Runs. Contract of the reference's Same, of an object and itself. -/
import Derived.Test.YtcpolpbeimhgfaaGreatQ7
import Derived.Lib.Builder
import Derived.Lib.UnsafeStr
import Derived.Lib.Walk
import Derived.Laws.Externs
import Derived.WalkLawsBesides
import Derived.Deep.WholeRow
import Derived.Shelf.RegionOpenPlain
import Derived.Shelf.Strings.Builder1
import Derived.Shelf.Strings.Builder2
import Derived.Shelf.Strings.OnBuilder
import Derived.Shelf.Strings.Builder2Cap
import Derived.Ground.SlgnProg
import Derived.Shelf.SlicesE.Clone
import Derived.Test.YtcpolpbeimhgfaaGreatProg
import Derived.Test.YtcpolpbeimhgfaaGreatQ9
import Derived.Lib.ItoaLen
import Derived.Test.YtcpolpbeimhgfaaGreatQ8
set_option linter.all false

namespace Go.Proofs.YtcpolpbeimhgfaaGreat.am
open Go Go.Proofs Go.RowKit
section
set_option maxHeartbeats 1000000
set_option maxRecDepth 100000
theorem bt_u : Tryz.prog.underlying 100 = some (.pointer 103) := by kernel_rfl
theorem bt_p : Tryz.prog.underlying 172 = some .unsafePointer := by kernel_rfl
theorem bt_j : ∃ j, Tryz.prog.info? 103 = some j ∧ j.size = 2 := by
  obtain ⟨j, hj⟩ : ∃ j, Tryz.prog.info? 103 = some j := Option.isSome_iff_exists.1 (by kernel_rfl)
  have e : (Tryz.prog.info? 103).map (·.size) = some 2 := by kernel_rfl
  rw [hj] at e
  exact ⟨j, hj, by simpa using e⟩
theorem cc_used (b : Nat) (w : World) (h0 : w.cell? ⟨b, 0, none⟩ = some (.pointer (some ⟨b, 0, none⟩))) :
    Calls Tryz.prog 69 #[.pointer (some ⟨b, 0, none⟩)] w fun e w' => e = .returned (.tuple #[]) ∧ w' = w := by
  obtain ⟨j, hj, _⟩ := bt_j
  go_enter Tryz.func69, Tryz.ntmps69
  go_wp2
  rw [Lib.run_neq_ptr_same w _ bt_u hj]
  go_wp2
  go_end0
  exact ⟨rfl, rfl⟩
theorem cc_fresh (b : Nat) (w : World) (h0 : w.cell? ⟨b, 0, none⟩ = some (.pointer none)) (hsh : w.shape? b = some (103, 2)) (hfz : w.frozen? ⟨b, 0, none⟩ = false) :
    Calls Tryz.prog 69 #[.pointer (some ⟨b, 0, none⟩)] w fun e w' => e = .returned (.tuple #[]) ∧ w' = w.setCell ⟨b, 0, none⟩ (.pointer (some ⟨b, 0, none⟩)) := by
  obtain ⟨j, hj, hjs⟩ := bt_j
  go_enter Tryz.func69, Tryz.ntmps69
  go_wp2
  rw [Lib.run_to_unsafe w ⟨b, 0, none⟩ bt_u bt_p hj (by rw [hjs]; decide) hsh (Nat.zero_lt_succ 1)]
  simp only [Result.andThen]
  rw [Oper.upon_value]
  go_wp2
  rw [run_callFunc_extern Tryz.func91 (by kernel_rfl) (by kernel_rfl) (by kernel_rfl) (e := Extern.AbiNoEscape.same) (by kernel_rfl)]
  rw [Lib.run_noEscape]
  simp only [Result.andThen]
  rw [Oper.upon_value]
  go_wp2
  rw [Lib.run_from_unsafe w ⟨b, 0, none⟩ bt_p bt_u hj hsh (by kernel_rfl)]
  simp only [Result.andThen]
  rw [Oper.upon_value]
  go_wp2
  go_end0
  exact ⟨rfl, rfl⟩
theorem bs_run (b g cap : Nat) (p : Value) (cur : Array Value) (l : List UInt8) (w : World) (hb : w.heap[b]? = some (.cells #[p, .slice (some ⟨g, 0, none⟩) l.length cap] 103 (0, 0))) (hg : w.heap[g]? = some (.cells cur 5 (0, 0))) (hne : l ≠ []) (hcap : l.length ≤ cap) (hsz : cur.size = cap) (hcm : cap ≤ 9223372036854775807)
    (hcell : ∀ (j : Nat) (x : UInt8), l[j]? = some x → w.cell? ⟨g, j, none⟩ = some (.int .u8 x.toNat)) :
    Calls Tryz.prog 45 #[.pointer (some ⟨b, 0, none⟩)] w fun e w' => e = .returned (.string ⟨l.toArray⟩) ∧ w' = w.drew.freeze ⟨g, 0, none⟩ l.length := by
  have hl0 : l.length ≠ 0 := by simpa using hne
  have c1 : w.drew.cell? ⟨b, 1, none⟩ = some (.slice (some ⟨g, 0, none⟩) l.length cap) := by
    have : w.drew.heap[b]? = some (.cells #[p, .slice (some ⟨g, 0, none⟩) l.length cap] 103 (0, 0)) := hb
    rw [Lib.cell_of_heap this]; rfl
  have hSD : (Builtin.unsafeSliceData_ #[101] 135 #[.slice (some ⟨g, 0, none⟩) l.length cap]).run Tryz.prog w.drew = .ok (.pointer (some ⟨g, 0, none⟩)) w.drew :=
    Lib.run_unsafeSliceData_row _ _ _ _ _ _ (by omega)
  have hUS : (Builtin.unsafeString_ #[135, 3] 9 #[.pointer (some ⟨g, 0, none⟩), .int .i64 l.length]).run Tryz.prog w.drew = .ok (.string ⟨l.toArray⟩) (w.drew.freeze ⟨g, 0, none⟩ l.length) := by
    refine Lib.run_unsafeString_row w.drew 135 3 9 5 (by kernel_rfl) (by kernel_rfl) g cur.size (by have hg' : w.drew.heap[g]? = some (.cells cur 5 (0, 0)) := hg; simp [World.shape?, hg']) l hne (by omega) (by omega) ?_
    intro j x hx
    rw [add_mk, Nat.zero_add]
    exact hcell j x hx
  have mixed : Tryz.prog.follows .mixedOrders = true := hmix
  go_enter Tryz.func45, Tryz.ntmps45
  go_wp2
  go_region_o
  all_goals (go_wp2; go_ret; exact ⟨rfl, rfl⟩)
end
end Go.Proofs.YtcpolpbeimhgfaaGreat.am

set_option linter.all false
namespace Go.Proofs
open Go.Shelf
def Tryz.lays156_ren : Go.Shelf.Ren := ⟨fun | 156 => 68 | 165 => 90 | 166 => 44 | 169 => 45 | 240 => 69 | 241 => 106 | 276 => 91 | 277 => 109 | n => n, fun | 31 => 132 | 9 => 9 | 3 => 3 | 4 => 4 | 0 => 0 | 20 => 20 | 72 => 103 | 76 => 108 | 70 => 100 | 37 => 101 | 75 => 107 | 127 => 135 | 164 => 172 | 5 => 5 | 80 => 110 | n => n, fun | n => n⟩
theorem Tryz.lays156 : Go.Proofs.Lays.n156 Tryz.prog Tryz.lays156_ren := {
  mixed := by kernel_rfl
  f156 := Tryz.func68.trans (congrArg some (by kernel_rfl))
  f165 := Tryz.func90.trans (congrArg some (by kernel_rfl))
  f166 := Tryz.func44.trans (congrArg some (by kernel_rfl))
  f169 := Tryz.func45.trans (congrArg some (by kernel_rfl))
  f240 := Tryz.func69.trans (congrArg some (by kernel_rfl))
  f241 := Tryz.func106.trans (congrArg some (by kernel_rfl))
  f276 := Tryz.func91.trans (congrArg some (by kernel_rfl))
  f277 := Tryz.func109.trans (congrArg some (by kernel_rfl))
  t0 := Tryz.underlying0
  a0 := Tryz.isAgg0
  z0 := Tryz.sizeOf0
  v0 := Tryz.zeroValue0
  t3 := Tryz.underlying3
  a3 := Tryz.isAgg3
  z3 := Tryz.sizeOf3
  v3 := Tryz.zeroValue3
  t4 := Tryz.underlying4
  a4 := Tryz.isAgg4
  z4 := Tryz.sizeOf4
  v4 := Tryz.zeroValue4
  t9 := Tryz.underlying9
  a9 := Tryz.isAgg9
  z9 := Tryz.sizeOf9
  v9 := Tryz.zeroValue9
  t20 := Tryz.underlying20
  a20 := Tryz.isAgg20
  z20 := Tryz.sizeOf20
  v20 := Tryz.zeroValue20
  t31 := Tryz.underlying132
  a31 := Tryz.isAgg132
  z31 := Tryz.sizeOf132
  v31 := Tryz.zeroValue132
  t37 := Tryz.underlying101
  a37 := Tryz.isAgg101
  z37 := Tryz.sizeOf101
  v37 := Tryz.zeroValue101
  t70 := Tryz.underlying100
  a70 := Tryz.isAgg100
  z70 := Tryz.sizeOf100
  v70 := Tryz.zeroValue100
  t72 := Tryz.underlying103
  a72 := Tryz.isAgg103
  z72 := Tryz.sizeOf103
  v72 := Tryz.zeroValue103
  t75 := Tryz.underlying107
  a75 := Tryz.isAgg107
  z75 := Tryz.sizeOf107
  v75 := Tryz.zeroValue107
  t76 := Tryz.underlying108
  a76 := Tryz.isAgg108
  z76 := Tryz.sizeOf108
  v76 := Tryz.zeroValue108
  t127 := Tryz.underlying135
  a127 := Tryz.isAgg135
  z127 := Tryz.sizeOf135
  v127 := Tryz.zeroValue135
  t164 := Tryz.underlying172
  a164 := Tryz.isAgg172
  z164 := Tryz.sizeOf172
  v164 := Tryz.zeroValue172 }
theorem Tryz.Builder_Extra_156 : Builder.Extra Tryz.prog Tryz.lays156_ren := {
  sizeBuilder := by kernel_rfl
  liesBuilder := by kernel_rfl
  t5 := Tryz.underlying5
  a5 := Tryz.isAgg5
  z5 := Tryz.sizeOf5
  v5 := Tryz.zeroValue5
  infoByte := by kernel_rfl
  cellsByte := by kernel_rfl
  sizeByte := by kernel_rfl
  neB5 := by decide }

end Go.Proofs

namespace Go.Proofs.YtcpolpbeimhgfaaGreat.am
open Go Go.Proofs Go.RowKit

/-- a contract out of a law on calls: a function that only makes blocks of its own -/
theorem Ctr.ofCalls {f : Nat} {args : List AV} {a : AV} (hc : Callable Tryz.prog f) (h : ∀ (g : Gh) (w : World) (vs : Array Value), MSt g w (ofL []) → vs.size = args.length → (∀ (i : Nat) (v : Value) (a : AV), vs[i]? = some v → args[i]? = some a → Rep g w v a) →
    Calls Tryz.prog f vs w fun e w' => ∃ v, e = .returned v ∧ Below w.heap.size w w' ∧ (Grow g w g w' → MSt g w' (ofLO []) → Rep g w' v a)) : K f args [] (.ret a) [] := by
  refine ⟨hc, fun g w vs hun hm hsz hv => (h g w vs hm hsz hv).mono ?_⟩
  rintro e w' ⟨v, rfl, hb, hR⟩
  have hG : Grow g w g w' := ⟨hb.os, hb.tape, hb.output, hb.size, fun b hk => hb.block b hk.1, fun b hk => hb.block b (hm.xlt b hk), rfl, fun _ h => h, fun _ _ h => .inl h, fun k b e => .inl ⟨k, e⟩⟩
  have hM : MSt g w' (ofLO []) := ⟨fun h b e => (by simp [ofLO] at e), hm.inj, fun k b e => Nat.lt_of_lt_of_le (hm.lt k b e) hb.size, fun b hk => Nat.lt_of_lt_of_le (hm.xlt b hk) hb.size, hm.xl, hm.gl.grow hG⟩
  exact ⟨g, hG, hM, fun k _ l hl => (by have := hun k (Nat.zero_le _); rw [this] at hl; cases hl), hR hG hM⟩
theorem one_arg {vs : Array Value} (h : vs.size = 1) : ∃ v, vs = #[v] := by
  obtain ⟨l⟩ := vs
  match l, h with
  | [v], _ => exact ⟨v, rfl⟩
theorem two_arg {vs : Array Value} (h : vs.size = 2) : ∃ v u, vs = #[v, u] := by
  obtain ⟨l⟩ := vs
  match l, h with
  | [v, u], _ => exact ⟨v, u, rfl⟩
def prnB (n : Int) : ByteArray := ⟨(ws.prn n).toArray⟩
theorem decDigits_dig (u : Nat) : Lib.decDigits u = ws.dig u := by
  induction u using Nat.strongRecOn with
  | _ u ih =>
    by_cases h : u < 10
    · rw [Lib.decDigits, dif_pos h, ws.dig_small h]; rfl
    · rw [Lib.decDigits, dif_neg h, ws.dig_big h, ih (u / 10) (by omega)]; rfl
theorem itoa_prn (n : Int) : Lib.itoa n = ws.prn n := by
  unfold Lib.itoa ws.prn
  split
  · rw [decDigits_dig, show n.natAbs = (-n).toNat by omega]
  · rw [decDigits_dig]
theorem prn_len {n : Int} (h1 : -9223372036854775808 ≤ n) (h2 : n ≤ 9223372036854775807) : (prnB n).size ≤ 21 := by
  show (ws.prn n).toArray.size ≤ 21
  rw [List.size_toArray, ← itoa_prn]
  exact Lib.itoa_length_le n h1 h2
theorem k_print (n : Int) : K 67 [.tr (ti n)] [] (.ret (.tr (ts (prnB n)))) [] := by
  refine Ctr.ofCalls (fun _ _ => by kernel_rfl) fun g w vs hm hsz hv => ?_
  obtain ⟨v, rfl⟩ := one_arg hsz
  obtain ⟨rfl, h1, h2⟩ := val_inv (hv 0 v (.tr (ti n)) rfl rfl)
  refine (ws.print_any n w h1 h2).mono ?_
  rintro e w' ⟨rfl, hb⟩
  exact ⟨_, rfl, hb, fun _ _ => .tr (.v (Nat.le_trans (prn_len h1 h2) (by omega)))⟩
def srow (s : ByteArray) : List Tr := [ts s]
abbrev strsT (l : List ByteArray) : Tr := .lst 1 16 (l.map srow)
def blank : ByteArray := ⟨#[32]⟩
def joinL (l : List ByteArray) : List UInt8 := Lib.join (l.map (·.data.toList)) [32]
def joinB (l : List ByteArray) : ByteArray := ⟨(joinL l).toArray⟩
theorem strs_inv {ok : Nat → Prop} {w : World} {v : Value} {l : List ByteArray} (h : RepT ok w v (strsT l)) :
    ∃ ao cap, v = .slice ao l.length cap ∧ l.length ≤ cap ∧ (0 < l.length → ∃ b o, ao = some ⟨b, o, none⟩ ∧ ok b ∧ ∀ j x, l[j]? = some x → w.cell? ⟨b, o + j, none⟩ = some (.string x)) ∧ l.length * 16 ≤ 150000000000000 ∧ ∀ x ∈ l, x.size ≤ 9223372036854775807 := by
  obtain ⟨ao, cap, f, rfl, q1, q2, q3, q4, q5, q6⟩ := lst_inv h
  simp only [List.length_map] at q1 q3 ⊢
  have get : ∀ j x, l[j]? = some x → (l.map srow)[j]? = some [ts x] := fun j x hj => by rw [List.getElem?_map, hj]; rfl
  refine ⟨ao, cap, rfl, q1, fun h0 => ?_, q3, fun x hx => ?_⟩
  · obtain ⟨_, b, o, e, hb, _⟩ := q5 0 [ts l[0]] (get 0 _ (by simp [h0]))
    refine ⟨b, o, e, hb, fun j x hj => ?_⟩
    obtain ⟨_, b', o', e', _, hc⟩ := q5 j [ts x] (get j x hj)
    rw [e] at e'; cases e'
    have := hc 0 (by decide)
    rw [Nat.mul_one, Nat.add_zero] at this
    rw [this]
    have := q6 j [ts x] 0 (ts x) (get j x hj) rfl
    generalize f j 0 = fv at this
    cases this with
    | v hg => rfl
  · obtain ⟨j, hj⟩ := List.mem_iff_getElem?.1 hx
    have := q6 j [ts x] 0 (ts x) (get j x hj) rfl
    generalize f j 0 = fv at this
    cases this with
    | v hg => exact hg
theorem k_join (l : List ByteArray) (hlen : (joinL l).length ≤ 140737488355328) : K 68 [.tr (strsT l), .tr (ts blank)] [] (.ret (.tr (ts (joinB l)))) [] := by
  refine Ctr.ofCalls (fun _ _ => by kernel_rfl) fun g w vs hm hsz hv => ?_
  obtain ⟨v, u, rfl⟩ := two_arg hsz
  have hr := (hv 0 v (.tr (strsT l)) rfl rfl).tr_inv
  obtain ⟨rfl, _⟩ := val_inv (hv 1 u (.tr (ts blank)) rfl rfl)
  obtain ⟨ao, cap, rfl, q1, q2, q3, q4⟩ := strs_inv hr
  have hjs : (joinB l).size ≤ 9223372036854775807 := by show (joinL l).toArray.size ≤ _; rw [List.size_toArray]; omega
  by_cases h0 : 0 < l.length
  · obtain ⟨b, o, rfl, hb, hc⟩ := q2 h0
    refine (Any.strings_Join Tryz.lays156 Tryz.Builder_Extra_156 b o cap l blank w hc hb.1 (by omega) q1 hlen).mono ?_
    rintro e w' ⟨rfl, hb⟩
    exact ⟨_, rfl, hb, fun _ _ => .tr (.v hjs)⟩
  · have : l = [] := List.eq_nil_of_length_eq_zero (by omega)
    subst this
    refine (Any.strings_Join_none Tryz.lays156 Tryz.Builder_Extra_156 ao cap blank w).mono ?_
    rintro e w' ⟨rfl, rfl⟩
    exact ⟨_, rfl, Below.refl _ _, fun _ _ => .tr (.v hjs)⟩
end Go.Proofs.YtcpolpbeimhgfaaGreat.am

namespace Go.Proofs.YtcpolpbeimhgfaaGreat.am
open Go Go.Proofs Go.RowKit
abbrev nilP : AV := .tr (.v (.pointer none))
abbrev bldC (p : AV) (h n : Nat) : Blk := .cells 103 [p, .sl h n]
abbrev byV (l : List UInt8) : Blk := .vec 5 1 1 (brows l)
/-- a contract by hand: what the blocks are -/
theorem bld_parts {g : Gh} {w : World} {p : AV} {n : Nat} {l : List UInt8} (hm : MSt g w (ofL [bldC p 1 n, byV l])) : ∃ b c0 c1, g 0 = .live (.blk b) ∧ w.heap[b]? = some (.cells #[c0, c1] 103 (0, 0)) ∧ Rep g w c0 p ∧ Rep g w c1 (.sl 1 n) := by
  obtain ⟨l0, g0, b, cs, rfl, hb, hs, h1, h2⟩ := hm.blk 0 _ rfl
  obtain ⟨L⟩ := cs
  match L, hs with
  | [c0, c1], _ => exact ⟨b, c0, c1, g0, hb, h2 0 c0 p rfl rfl, h2 1 c1 (.sl 1 n) rfl rfl⟩
theorem mst_LO {g : Gh} {w : World} {bl : List Blk} (h : MSt g w (ofL bl)) : MSt g w (ofLO (bl.map some)) := by
  have e : ofLO (bl.map some) = ofL bl := by
    funext i
    unfold ofLO ofL
    rw [List.getElem?_map]
    cases bl[i]? <;> rfl
  rw [e]
  exact h
theorem k_ccU (n : Nat) (l : List UInt8) : K 69 [.ptr 0 0] [bldC (.ptr 0 0) 1 n, byV l] (.ret (.tup [])) [some (bldC (.ptr 0 0) 1 n), some (byV l)] := by
  refine ⟨fun _ _ => by kernel_rfl, fun g w vs hun hm hsz hv => ?_⟩
  obtain ⟨v, rfl⟩ := one_arg hsz
  obtain ⟨b, c0, c1, g0, hb, r0, r1⟩ := bld_parts hm
  obtain rfl := (hv 0 v _ rfl rfl).ptr_inv g0
  obtain rfl := r0.ptr_inv g0
  refine (cc_used b w (by rw [Lib.cell_of_heap hb]; rfl)).mono ?_
  rintro e w' ⟨rfl, rfl⟩
  exact ⟨g, Grow.refl _ _, mst_LO hm, fun h hh l hl => (by rw [hun h hh] at hl; cases hl), .tup rfl fun i c a h => by simp at h⟩
theorem k_ccF (n : Nat) (l : List UInt8) : K 69 [.ptr 0 0] [bldC nilP 1 n, byV l] (.ret (.tup [])) [some (bldC (.ptr 0 0) 1 n), some (byV l)] := by
  refine ⟨fun _ _ => by kernel_rfl, fun g w vs hun hm hsz hv => ?_⟩
  obtain ⟨v, rfl⟩ := one_arg hsz
  obtain ⟨b, c0, c1, g0, hb, r0, r1⟩ := bld_parts hm
  obtain rfl := (hv 0 v _ rfl rfl).ptr_inv g0
  obtain ⟨rfl, _⟩ := val_inv r0
  have hlt : b < w.heap.size := (Array.getElem?_eq_some_iff.1 hb).1
  refine (cc_fresh b w (by rw [Lib.cell_of_heap hb]; rfl) (by simp [World.shape?, hb]) (by simp [World.frozen?, hb])).mono ?_
  rintro e w' ⟨rfl, rfl⟩
  have hk : ∀ k, k ≠ b → (w.setCell ⟨b, 0, none⟩ (.pointer (some ⟨b, 0, none⟩))).heap[k]? = w.heap[k]? := fun k hk => Below.heap_setCell _ _ _ _ (fun e => hk (by simp [e]))
  have hsz2 : (w.setCell ⟨b, 0, none⟩ (.pointer (some ⟨b, 0, none⟩))).heap.size = w.heap.size := by simp [World.setCell]
  have hnew : (w.setCell ⟨b, 0, none⟩ (.pointer (some ⟨b, 0, none⟩))).heap[b]? = some (.cells #[.pointer (some ⟨b, 0, none⟩), c1] 103 (0, 0)) := by
    simp [World.setCell, Array.getElem?_modify, hb]
  have hg := grow_write (b := b) (hm.xl 0 b (.root g0 rfl)) (.root g0 rfl) (w := w) (w' := w.setCell ⟨b, 0, none⟩ (.pointer (some ⟨b, 0, none⟩))) rfl rfl rfl hsz2 hk
  generalize w.setCell ⟨b, 0, none⟩ (.pointer (some ⟨b, 0, none⟩)) = w2 at *
  have hm2 := mst_write hm g0 (.inl rfl) hg hsz2 hk (bl := bldC (.ptr 0 0) 1 n) ⟨b, _, rfl, hnew, rfl, fun a ha => (by simp at ha; rcases ha with rfl | rfl <;> rfl), fun i c a h1 h2 => ?_⟩
  · refine ⟨g, hg, ?_, fun h hh l hl => (by rw [hun h hh] at hl; cases hl), .tup rfl fun i c a h => by simp at h⟩
    refine ⟨fun h bk hbk => hm2.blk h bk ?_, hm2.inj, hm2.lt, hm2.xlt, hm2.xl, hm2.gl⟩
    match h, hbk with
    | 0, e => exact e
    | 1, e => exact e
    | k + 2, e => simp [ofLO] at e
  · match i, h1, h2 with
    | 0, h1, h2 => cases h1; cases h2; exact .ptr g0
    | 1, h1, h2 => cases h1; cases h2; exact r1.grow hg
    | i + 2, h1, h2 => simp at h2
set_option maxRecDepth 100000 in
theorem k_bLenF (n : Nat) (l : List UInt8) : K 43 [.ptr 0 0] [bldC nilP 1 n, byV l] (.ret (.tr (ti n))) [some (bldC nilP 1 n), some (byV l)] := by
  refine Ctr.of hT hmix Tryz.func43 rfl (fun _ _ => by kernel_rfl) rfl fun hok => ?_
  clear hok
  conv => whnf
  exact ⟨.inl rfl, ⟨rfl, .inl rfl, ⟨rfl, rfl⟩, trivial⟩, ⟨rfl, rfl, rfl, rfl⟩, trivial⟩
set_option maxRecDepth 100000 in
theorem k_bLenU (n : Nat) (l : List UInt8) : K 43 [.ptr 0 0] [bldC (.ptr 0 0) 1 n, byV l] (.ret (.tr (ti n))) [some (bldC (.ptr 0 0) 1 n), some (byV l)] := by
  refine Ctr.of hT hmix Tryz.func43 rfl (fun _ _ => by kernel_rfl) rfl fun hok => ?_
  clear hok
  conv => whnf
  exact ⟨.inl rfl, ⟨rfl, ⟨rfl, rfl⟩, ⟨rfl, rfl⟩, trivial⟩, ⟨rfl, rfl, rfl, rfl⟩, trivial⟩
theorem brows_app (a b : List UInt8) : (brows a).take a.length ++ brows b = brows (a ++ b) := by
  rw [List.take_of_length_le (by simp [brows])]
  simp [brows]
abbrev wsRes (s : ByteArray) : AE := .ret (.tup [.tr (ti s.size), .tr (.v .nilIface)])
set_option maxRecDepth 100000 in
theorem k_wsF (l : List UInt8) (s : ByteArray) (hl : l.length + s.size ≤ 140737488351232) : K 44 [.ptr 0 0, .tr (ts s)] [bldC nilP 1 l.length, byV l] (wsRes s) [some (bldC (.ptr 0 0) 2 (l.length + s.size)), none, some (byV (l ++ s.data.toList))] := by
  have hc := k_ccF l.length l
  refine Ctr.new [] hT hmix Tryz.func44 rfl (fun _ _ => by kernel_rfl) rfl fun hok => ?_
  clear hok
  conv => whnf
  refine acall.au [0, 1] [] (hc) ?_
  intro _
  conv => whnf
  refine ⟨rfl, rfl, rfl, (by simp [brows]), hl, ?_⟩
  conv => whnf
  exact ⟨[0, 1, _], rfl, rfl, ⟨.inl rfl, .inl rfl, trivial⟩, ⟨rfl, ⟨rfl, rfl⟩, ⟨rfl, rfl⟩, trivial⟩, ⟨rfl, rfl, rfl, brows_app l s.data.toList⟩, trivial⟩
set_option maxRecDepth 100000 in
theorem k_wsU (l : List UInt8) (s : ByteArray) (hl : l.length + s.size ≤ 140737488351232) : K 44 [.ptr 0 0, .tr (ts s)] [bldC (.ptr 0 0) 1 l.length, byV l] (wsRes s) [some (bldC (.ptr 0 0) 2 (l.length + s.size)), none, some (byV (l ++ s.data.toList))] := by
  have hc := k_ccU l.length l
  refine Ctr.new [] hT hmix Tryz.func44 rfl (fun _ _ => by kernel_rfl) rfl fun hok => ?_
  clear hok
  conv => whnf
  refine acall.au [0, 1] [] (hc) ?_
  intro _
  conv => whnf
  refine ⟨rfl, rfl, rfl, (by simp [brows]), hl, ?_⟩
  conv => whnf
  exact ⟨[0, 1, _], rfl, rfl, ⟨.inl rfl, .inl rfl, trivial⟩, ⟨rfl, ⟨rfl, rfl⟩, ⟨rfl, rfl⟩, trivial⟩, ⟨rfl, rfl, rfl, brows_app l s.data.toList⟩, trivial⟩
theorem fr_parts (w : World) (b n : Nat) : (w.drew.freeze ⟨b, 0, none⟩ n).os = w.os ∧ (w.drew.freeze ⟨b, 0, none⟩ n).tape = w.tape ∧ (w.drew.freeze ⟨b, 0, none⟩ n).output = w.output ∧ (w.drew.freeze ⟨b, 0, none⟩ n).heap.size = w.heap.size ∧ ∀ k, k ≠ b → (w.drew.freeze ⟨b, 0, none⟩ n).heap[k]? = w.heap[k]? := by
  unfold World.freeze
  split
  · exact ⟨rfl, rfl, rfl, rfl, fun _ _ => rfl⟩
  · refine ⟨rfl, rfl, rfl, by rw [Array.size_modify]; rfl, fun k hk => ?_⟩
    simp only [Array.getElem?_modify]
    rw [if_neg (fun e => hk e.symm)]
    rfl
/-- the builder and its bytes are given up -/
theorem k_bStr (p : AV) (l : List UInt8) (hne : l ≠ []) : K 45 [.ptr 0 0] [bldC p 1 l.length, byV l] (.ret (.tr (ts ⟨l.toArray⟩))) [none, none] := by
  refine ⟨fun _ _ => by kernel_rfl, fun g w vs hun hm hsz hv => ?_⟩
  obtain ⟨v, rfl⟩ := one_arg hsz
  obtain ⟨b, c0, c1, g0, hb, r0, r1⟩ := bld_parts hm
  obtain rfl := (hv 0 v _ rfl rfl).ptr_inv g0
  obtain ⟨l1, g1, hB, hn, hv1⟩ := hm.blk 1 _ rfl
  have hll : (brows l).length = l.length := by simp [brows]
  have hl0 : 0 < l.length := List.length_pos_iff.2 hne
  rcases hv1 with ⟨_, hz⟩ | ⟨bg, cap, cur, rfl, hbg, hle, hcm, hcz, hrow, hcell⟩
  · rw [hz] at hll; simp at hll; omega
  rcases r1.sl_inv g1 with ⟨b', cap', e1, hle', rfl⟩ | ⟨e1, _, _⟩
  case inr => cases e1
  cases e1
  have hcells : ∀ (j : Nat) (x : UInt8), l[j]? = some x → w.cell? ⟨bg, j, none⟩ = some (.int .u8 x.toNat) := fun j x hj => by
    have : (brows l).flatten[j]? = some (.v (.int .u8 x.toNat)) := by
      rw [brows_flat, List.getElem?_map, hj]; rfl
    obtain ⟨c, q1, q2⟩ := hcell j _ this
    rw [Lib.cell_of_heap hbg, q1]
    cases q2 with
    | v _ => rfl
  refine (bs_run b bg cap c0 cur l w hb hbg hne hle' (by rw [hcz, Nat.mul_one]) hcm hcells).mono ?_
  rintro e w' ⟨rfl, rfl⟩
  obtain ⟨f1, f2, f3, f4, hk⟩ := fr_parts w bg l.length
  have hg : Grow g w g (w.drew.freeze ⟨bg, 0, none⟩ l.length) :=
    ⟨f1, f2, f3, Nat.le_of_eq f4.symm, fun k h => hk k fun e => h.2.2 1 (e ▸ .root g1 rfl), fun k h => hk k fun e => hm.xl 1 bg (.root g1 rfl) (e ▸ h), rfl, fun _ h => h, fun _ _ h => .inl h, fun h b e => .inl ⟨h, e⟩⟩
  refine ⟨g, hg, ⟨fun h b e => (by match h, e with | 0, e => cases e | 1, e => cases e | k + 2, e => simp [ofLO] at e), hm.inj, fun h b e => Nat.lt_of_lt_of_le (hm.lt h b e) hg.size, fun b hb => Nat.lt_of_lt_of_le (hm.xlt b hb) hg.size, hm.xl, hm.gl.grow hg⟩, fun h hh l hl => (by rw [hun h hh] at hl; cases hl), .tr (.v ?_)⟩
  show l.toArray.size ≤ _
  rw [List.size_toArray]; omega
end Go.Proofs.YtcpolpbeimhgfaaGreat.am

namespace Go.Proofs.YtcpolpbeimhgfaaGreat.am
open Go Go.Proofs
/-- a call that is shown a slice of one's own, as its first argument -/
theorem acall.sn1 {P : Program} {m : Mem} {nh f h n : Nat} {xs : List AV} {K : EE} (ars : List AV) (res : AE) (hc : Ctr P f ars [] res [])
    (h5 : cvL m [] [] (seenS [] [h]) (.sl h n :: xs) ars) (h7 : (m h).isSome = true) (h8 : res.lowH 0 = true)
    (hK : K (res.out []) (rdOf m [h]) (callUp [] [h] res [])) : acall P m nh f (.sl h n :: xs) K :=
  acall.gen [] [h] ars [] res [] hc rfl rfl rfl rfl h5 trivial (by simp [h7]) h8 hK
def dwords : List ByteArray := [⟨#[]⟩, ⟨#[99, 111, 109, 112, 117, 116, 101]⟩, ⟨#[108, 111, 97, 100]⟩, ⟨#[115, 116, 111, 114, 101]⟩, ⟨#[115, 119, 97, 112]⟩, ⟨#[102, 101, 110, 99, 101]⟩, ⟨#[112, 114, 105, 110, 116]⟩, ⟨#[104, 97, 108, 116]⟩, ⟨#[100, 114, 97, 105, 110]⟩]
def dword (k : Int) : ByteArray := dwords.getD k.toNat ⟨#[]⟩
def wordK (k : Int) : Bool := addrK k || k == 6
def ownB : ByteArray := ⟨#[111, 119, 110]⟩
def nlB : ByteArray := ⟨#[10]⟩
/-- the words of a line -/
def lineW (d : Did) : List ByteArray := [prnB d.core, prnB d.at_, dword d.kind] ++ (bif addrK d.kind then [prnB d.addr] else []) ++ (bif wordK d.kind then [prnB d.word] else []) ++ (bif d.kind == 4 then [prnB d.put] else []) ++ (bif d.own then [ownB] else [])
def lineB (d : Did) : ByteArray := joinB (lineW d) ++ nlB
theorem joinL_le {l : List ByteArray} {m : Nat} (h : ∀ x ∈ l, x.size ≤ m) : (joinL l).length ≤ l.length * (m + 1) := by
  induction l with
  | nil => simp [joinL, Lib.join]
  | cons a r ih =>
    have ha := h a (.head _)
    have hr := ih (fun x hx => h x (.tail _ hx))
    have hd : a.data.toList.length = a.size := by simp
    cases r with
    | nil => simp [joinL, Lib.join]; omega
    | cons b r' =>
      have e : joinL (a :: b :: r') = a.data.toList ++ ([32] ++ joinL (b :: r')) := by simp [joinL, Lib.join]
      rw [e]
      simp only [List.length_append, List.length_cons, List.length_nil] at hr ⊢
      rw [Nat.succ_mul]
      omega
theorem k_tnumber (n : Int) : K 66 [.tr (ti n)] [] (.ret (.tr (ts (prnB n)))) [] := by
  have h := k_print n
  refine Ctr.of hT hmix Tryz.func66 rfl (fun _ _ => by kernel_rfl) rfl fun hok => ?_
  clear hok
  conv => whnf
  refine acall.pure _ (h) rfl rfl fun _ => ?_
  conv => whnf
  exact ⟨.inl rfl, trivial⟩
set_option maxRecDepth 100000 in
set_option maxHeartbeats 1000000 in
theorem t_line1 (dc da dd dw dp : Int) (dn : Bool) (hc1 : -9223372036854775808 ≤ dc ∧ dc ≤ 9223372036854775807) (ha1 : -9223372036854775808 ≤ da ∧ da ≤ 9223372036854775807) (hd1 : -9223372036854775808 ≤ dd ∧ dd ≤ 9223372036854775807) (hw1 : -9223372036854775808 ≤ dw ∧ dw ≤ 9223372036854775807) (hp1 : -9223372036854775808 ≤ dp ∧ dp ≤ 9223372036854775807) :
    K 42 [didA 1 dc da dd dw dp dn] [] (.ret (.tr (ts (lineB ⟨1, dc, da, dd, dw, dp, dn⟩)))) [] := by
  have hf := t_formOf1 dc da dd dw dp dn
  have hc := k_tnumber dc
  have ha := k_tnumber da
  have hd := k_tnumber dd
  have hw := k_print dw
  have hp := k_print dp
  have sc : (prnB dc).size ≤ 30 := Nat.le_trans (prn_len hc1.1 hc1.2) (by decide)
  have sa : (prnB da).size ≤ 30 := Nat.le_trans (prn_len ha1.1 ha1.2) (by decide)
  have sd : (prnB dd).size ≤ 30 := Nat.le_trans (prn_len hd1.1 hd1.2) (by decide)
  have sw : (prnB dw).size ≤ 30 := Nat.le_trans (prn_len hw1.1 hw1.2) (by decide)
  have sp : (prnB dp).size ≤ 30 := Nat.le_trans (prn_len hp1.1 hp1.2) (by decide)
  have hnl : (⟨#[10]⟩ : ByteArray).size = 1 := rfl
  refine Ctr.of hT hmix Tryz.func42 rfl (fun _ _ => by kernel_rfl) rfl fun hok => ?_
  clear hok
  generalize rightD ⟨1, dc, da, dd, dw, dp, dn⟩ = R at hf
  conv => whnf
  refine acall.pure _ (hf) rfl rfl fun _ => ?_
  conv => whnf
  refine acall.pure _ (hc) rfl rfl ?_
  conv => whnf
  refine acall.pure _ (ha) rfl rfl ?_
  conv => whnf
  refine ⟨by kernel_rfl, fun _ => ?_⟩
  conv => whnf
  refine csplit (fun ho => ?_) (fun ho => ?_)
  · subst ho
    conv => whnf
    refine ⟨rfl, rfl, rfl, (by simp), (show 4 * 16 ≤ 150000000000000 by decide), fun q hq => ?_, ?_⟩
    · cases hq with
      | head => exact Nat.ne_of_beq_eq_false rfl
      | tail _ h => cases h
    conv => whnf
    have hj := k_join [prnB dc, prnB da, ⟨#[99, 111, 109, 112, 117, 116, 101]⟩, ownB] (Nat.le_trans (joinL_le (m := 30) (fun x hx => by
        simp only [List.mem_cons, List.not_mem_nil, or_false] at hx
        rcases hx with rfl | rfl | rfl | rfl <;> first | assumption | exact Nat.le_of_ble_eq_true rfl)) (by simp))
    refine acall.sn1 _ _ hj ⟨⟨rfl, Nat.le_refl _, rfl⟩, .inl rfl, trivial⟩ rfl rfl fun _ => ?_
    conv => whnf
    have hjz : (joinB [prnB dc, prnB da, ⟨#[99, 111, 109, 112, 117, 116, 101]⟩, ownB]).size ≤ 1000 := by
      show (joinL _).toArray.size ≤ 1000
      rw [List.size_toArray]
      refine Nat.le_trans (joinL_le (m := 30) (fun x hx => by
        simp only [List.mem_cons, List.not_mem_nil, or_false] at hx
        rcases hx with rfl | rfl | rfl | rfl <;> first | assumption | exact Nat.le_of_ble_eq_true rfl)) (by simp)
    refine ⟨(by rw [hnl]; exact Nat.le_trans (Nat.add_le_add_right hjz 1) (by decide)), ?_⟩
    conv => whnf
    exact ⟨.inl rfl, trivial⟩
  · subst ho
    conv => whnf
    have hj := k_join [prnB dc, prnB da, ⟨#[99, 111, 109, 112, 117, 116, 101]⟩] (Nat.le_trans (joinL_le (m := 30) (fun x hx => by
        simp only [List.mem_cons, List.not_mem_nil, or_false] at hx
        rcases hx with rfl | rfl | rfl <;> first | assumption | exact Nat.le_of_ble_eq_true rfl)) (by simp))
    refine acall.sn1 _ _ hj ⟨⟨rfl, Nat.le_refl _, rfl⟩, .inl rfl, trivial⟩ rfl rfl fun _ => ?_
    conv => whnf
    have hjz : (joinB [prnB dc, prnB da, ⟨#[99, 111, 109, 112, 117, 116, 101]⟩]).size ≤ 1000 := by
      show (joinL _).toArray.size ≤ 1000
      rw [List.size_toArray]
      refine Nat.le_trans (joinL_le (m := 30) (fun x hx => by
        simp only [List.mem_cons, List.not_mem_nil, or_false] at hx
        rcases hx with rfl | rfl | rfl <;> first | assumption | exact Nat.le_of_ble_eq_true rfl)) (by simp)
    refine ⟨(by rw [hnl]; exact Nat.le_trans (Nat.add_le_add_right hjz 1) (by decide)), ?_⟩
    conv => whnf
    exact ⟨.inl rfl, trivial⟩
set_option maxRecDepth 100000 in
set_option maxHeartbeats 1000000 in
theorem t_line2 (dc da dd dw dp : Int) (dn : Bool) (hc1 : -9223372036854775808 ≤ dc ∧ dc ≤ 9223372036854775807) (ha1 : -9223372036854775808 ≤ da ∧ da ≤ 9223372036854775807) (hd1 : -9223372036854775808 ≤ dd ∧ dd ≤ 9223372036854775807) (hw1 : -9223372036854775808 ≤ dw ∧ dw ≤ 9223372036854775807) (hp1 : -9223372036854775808 ≤ dp ∧ dp ≤ 9223372036854775807) :
    K 42 [didA 2 dc da dd dw dp dn] [] (.ret (.tr (ts (lineB ⟨2, dc, da, dd, dw, dp, dn⟩)))) [] := by
  have hf := t_formOf2 dc da dd dw dp dn
  have hc := k_tnumber dc
  have ha := k_tnumber da
  have hd := k_tnumber dd
  have hw := k_print dw
  have hp := k_print dp
  have sc : (prnB dc).size ≤ 30 := Nat.le_trans (prn_len hc1.1 hc1.2) (by decide)
  have sa : (prnB da).size ≤ 30 := Nat.le_trans (prn_len ha1.1 ha1.2) (by decide)
  have sd : (prnB dd).size ≤ 30 := Nat.le_trans (prn_len hd1.1 hd1.2) (by decide)
  have sw : (prnB dw).size ≤ 30 := Nat.le_trans (prn_len hw1.1 hw1.2) (by decide)
  have sp : (prnB dp).size ≤ 30 := Nat.le_trans (prn_len hp1.1 hp1.2) (by decide)
  have hnl : (⟨#[10]⟩ : ByteArray).size = 1 := rfl
  refine Ctr.of hT hmix Tryz.func42 rfl (fun _ _ => by kernel_rfl) rfl fun hok => ?_
  clear hok
  generalize rightD ⟨2, dc, da, dd, dw, dp, dn⟩ = R at hf
  conv => whnf
  refine acall.pure _ (hf) rfl rfl fun _ => ?_
  conv => whnf
  refine acall.pure _ (hc) rfl rfl ?_
  conv => whnf
  refine acall.pure _ (ha) rfl rfl ?_
  conv => whnf
  refine ⟨by kernel_rfl, fun _ => ?_⟩
  conv => whnf
  refine acall.pure _ (hd) rfl rfl fun _ => ?_
  conv => whnf
  refine ⟨rfl, rfl, rfl, (by simp), (show 4 * 16 ≤ 150000000000000 by decide), fun q hq => ?_, ?_⟩
  · cases hq with
    | head => exact Nat.ne_of_beq_eq_false rfl
    | tail _ h => cases h
  conv => whnf
  refine acall.pure _ (hw) rfl rfl fun _ => ?_
  conv => whnf
  refine ⟨rfl, rfl, rfl, (by simp), (show 5 * 16 ≤ 150000000000000 by decide), fun q hq => ?_, ?_⟩
  · cases hq with
    | head => exact Nat.ne_of_beq_eq_false rfl
    | tail _ h => cases h
  conv => whnf
  refine csplit (fun ho => ?_) (fun ho => ?_)
  · subst ho
    conv => whnf
    refine ⟨rfl, rfl, rfl, (by simp), (show 6 * 16 ≤ 150000000000000 by decide), fun q hq => ?_, ?_⟩
    · cases hq with
      | head => exact Nat.ne_of_beq_eq_false rfl
      | tail _ h => cases h
    conv => whnf
    have hj := k_join [prnB dc, prnB da, ⟨#[108, 111, 97, 100]⟩, prnB dd, prnB dw, ownB] (Nat.le_trans (joinL_le (m := 30) (fun x hx => by
        simp only [List.mem_cons, List.not_mem_nil, or_false] at hx
        rcases hx with rfl | rfl | rfl | rfl | rfl | rfl <;> first | assumption | exact Nat.le_of_ble_eq_true rfl)) (by simp))
    refine acall.sn1 _ _ hj ⟨⟨rfl, Nat.le_refl _, rfl⟩, .inl rfl, trivial⟩ rfl rfl fun _ => ?_
    conv => whnf
    have hjz : (joinB [prnB dc, prnB da, ⟨#[108, 111, 97, 100]⟩, prnB dd, prnB dw, ownB]).size ≤ 1000 := by
      show (joinL _).toArray.size ≤ 1000
      rw [List.size_toArray]
      refine Nat.le_trans (joinL_le (m := 30) (fun x hx => by
        simp only [List.mem_cons, List.not_mem_nil, or_false] at hx
        rcases hx with rfl | rfl | rfl | rfl | rfl | rfl <;> first | assumption | exact Nat.le_of_ble_eq_true rfl)) (by simp)
    refine ⟨(by rw [hnl]; exact Nat.le_trans (Nat.add_le_add_right hjz 1) (by decide)), ?_⟩
    conv => whnf
    exact ⟨.inl rfl, trivial⟩
  · subst ho
    conv => whnf
    have hj := k_join [prnB dc, prnB da, ⟨#[108, 111, 97, 100]⟩, prnB dd, prnB dw] (Nat.le_trans (joinL_le (m := 30) (fun x hx => by
        simp only [List.mem_cons, List.not_mem_nil, or_false] at hx
        rcases hx with rfl | rfl | rfl | rfl | rfl <;> first | assumption | exact Nat.le_of_ble_eq_true rfl)) (by simp))
    refine acall.sn1 _ _ hj ⟨⟨rfl, Nat.le_refl _, rfl⟩, .inl rfl, trivial⟩ rfl rfl fun _ => ?_
    conv => whnf
    have hjz : (joinB [prnB dc, prnB da, ⟨#[108, 111, 97, 100]⟩, prnB dd, prnB dw]).size ≤ 1000 := by
      show (joinL _).toArray.size ≤ 1000
      rw [List.size_toArray]
      refine Nat.le_trans (joinL_le (m := 30) (fun x hx => by
        simp only [List.mem_cons, List.not_mem_nil, or_false] at hx
        rcases hx with rfl | rfl | rfl | rfl | rfl <;> first | assumption | exact Nat.le_of_ble_eq_true rfl)) (by simp)
    refine ⟨(by rw [hnl]; exact Nat.le_trans (Nat.add_le_add_right hjz 1) (by decide)), ?_⟩
    conv => whnf
    exact ⟨.inl rfl, trivial⟩
set_option maxRecDepth 100000 in
set_option maxHeartbeats 1000000 in
theorem t_line3 (dc da dd dw dp : Int) (dn : Bool) (hc1 : -9223372036854775808 ≤ dc ∧ dc ≤ 9223372036854775807) (ha1 : -9223372036854775808 ≤ da ∧ da ≤ 9223372036854775807) (hd1 : -9223372036854775808 ≤ dd ∧ dd ≤ 9223372036854775807) (hw1 : -9223372036854775808 ≤ dw ∧ dw ≤ 9223372036854775807) (hp1 : -9223372036854775808 ≤ dp ∧ dp ≤ 9223372036854775807) :
    K 42 [didA 3 dc da dd dw dp dn] [] (.ret (.tr (ts (lineB ⟨3, dc, da, dd, dw, dp, dn⟩)))) [] := by
  have hf := t_formOf3 dc da dd dw dp dn
  have hc := k_tnumber dc
  have ha := k_tnumber da
  have hd := k_tnumber dd
  have hw := k_print dw
  have hp := k_print dp
  have sc : (prnB dc).size ≤ 30 := Nat.le_trans (prn_len hc1.1 hc1.2) (by decide)
  have sa : (prnB da).size ≤ 30 := Nat.le_trans (prn_len ha1.1 ha1.2) (by decide)
  have sd : (prnB dd).size ≤ 30 := Nat.le_trans (prn_len hd1.1 hd1.2) (by decide)
  have sw : (prnB dw).size ≤ 30 := Nat.le_trans (prn_len hw1.1 hw1.2) (by decide)
  have sp : (prnB dp).size ≤ 30 := Nat.le_trans (prn_len hp1.1 hp1.2) (by decide)
  have hnl : (⟨#[10]⟩ : ByteArray).size = 1 := rfl
  refine Ctr.of hT hmix Tryz.func42 rfl (fun _ _ => by kernel_rfl) rfl fun hok => ?_
  clear hok
  generalize rightD ⟨3, dc, da, dd, dw, dp, dn⟩ = R at hf
  conv => whnf
  refine acall.pure _ (hf) rfl rfl fun _ => ?_
  conv => whnf
  refine acall.pure _ (hc) rfl rfl ?_
  conv => whnf
  refine acall.pure _ (ha) rfl rfl ?_
  conv => whnf
  refine ⟨by kernel_rfl, fun _ => ?_⟩
  conv => whnf
  refine acall.pure _ (hd) rfl rfl fun _ => ?_
  conv => whnf
  refine ⟨rfl, rfl, rfl, (by simp), (show 4 * 16 ≤ 150000000000000 by decide), fun q hq => ?_, ?_⟩
  · cases hq with
    | head => exact Nat.ne_of_beq_eq_false rfl
    | tail _ h => cases h
  conv => whnf
  refine acall.pure _ (hw) rfl rfl fun _ => ?_
  conv => whnf
  refine ⟨rfl, rfl, rfl, (by simp), (show 5 * 16 ≤ 150000000000000 by decide), fun q hq => ?_, ?_⟩
  · cases hq with
    | head => exact Nat.ne_of_beq_eq_false rfl
    | tail _ h => cases h
  conv => whnf
  refine csplit (fun ho => ?_) (fun ho => ?_)
  · subst ho
    conv => whnf
    refine ⟨rfl, rfl, rfl, (by simp), (show 6 * 16 ≤ 150000000000000 by decide), fun q hq => ?_, ?_⟩
    · cases hq with
      | head => exact Nat.ne_of_beq_eq_false rfl
      | tail _ h => cases h
    conv => whnf
    have hj := k_join [prnB dc, prnB da, ⟨#[115, 116, 111, 114, 101]⟩, prnB dd, prnB dw, ownB] (Nat.le_trans (joinL_le (m := 30) (fun x hx => by
        simp only [List.mem_cons, List.not_mem_nil, or_false] at hx
        rcases hx with rfl | rfl | rfl | rfl | rfl | rfl <;> first | assumption | exact Nat.le_of_ble_eq_true rfl)) (by simp))
    refine acall.sn1 _ _ hj ⟨⟨rfl, Nat.le_refl _, rfl⟩, .inl rfl, trivial⟩ rfl rfl fun _ => ?_
    conv => whnf
    have hjz : (joinB [prnB dc, prnB da, ⟨#[115, 116, 111, 114, 101]⟩, prnB dd, prnB dw, ownB]).size ≤ 1000 := by
      show (joinL _).toArray.size ≤ 1000
      rw [List.size_toArray]
      refine Nat.le_trans (joinL_le (m := 30) (fun x hx => by
        simp only [List.mem_cons, List.not_mem_nil, or_false] at hx
        rcases hx with rfl | rfl | rfl | rfl | rfl | rfl <;> first | assumption | exact Nat.le_of_ble_eq_true rfl)) (by simp)
    refine ⟨(by rw [hnl]; exact Nat.le_trans (Nat.add_le_add_right hjz 1) (by decide)), ?_⟩
    conv => whnf
    exact ⟨.inl rfl, trivial⟩
  · subst ho
    conv => whnf
    have hj := k_join [prnB dc, prnB da, ⟨#[115, 116, 111, 114, 101]⟩, prnB dd, prnB dw] (Nat.le_trans (joinL_le (m := 30) (fun x hx => by
        simp only [List.mem_cons, List.not_mem_nil, or_false] at hx
        rcases hx with rfl | rfl | rfl | rfl | rfl <;> first | assumption | exact Nat.le_of_ble_eq_true rfl)) (by simp))
    refine acall.sn1 _ _ hj ⟨⟨rfl, Nat.le_refl _, rfl⟩, .inl rfl, trivial⟩ rfl rfl fun _ => ?_
    conv => whnf
    have hjz : (joinB [prnB dc, prnB da, ⟨#[115, 116, 111, 114, 101]⟩, prnB dd, prnB dw]).size ≤ 1000 := by
      show (joinL _).toArray.size ≤ 1000
      rw [List.size_toArray]
      refine Nat.le_trans (joinL_le (m := 30) (fun x hx => by
        simp only [List.mem_cons, List.not_mem_nil, or_false] at hx
        rcases hx with rfl | rfl | rfl | rfl | rfl <;> first | assumption | exact Nat.le_of_ble_eq_true rfl)) (by simp)
    refine ⟨(by rw [hnl]; exact Nat.le_trans (Nat.add_le_add_right hjz 1) (by decide)), ?_⟩
    conv => whnf
    exact ⟨.inl rfl, trivial⟩
set_option maxRecDepth 100000 in
set_option maxHeartbeats 1000000 in
theorem t_line4 (dc da dd dw dp : Int) (dn : Bool) (hc1 : -9223372036854775808 ≤ dc ∧ dc ≤ 9223372036854775807) (ha1 : -9223372036854775808 ≤ da ∧ da ≤ 9223372036854775807) (hd1 : -9223372036854775808 ≤ dd ∧ dd ≤ 9223372036854775807) (hw1 : -9223372036854775808 ≤ dw ∧ dw ≤ 9223372036854775807) (hp1 : -9223372036854775808 ≤ dp ∧ dp ≤ 9223372036854775807) :
    K 42 [didA 4 dc da dd dw dp dn] [] (.ret (.tr (ts (lineB ⟨4, dc, da, dd, dw, dp, dn⟩)))) [] := by
  have hf := t_formOf4 dc da dd dw dp dn
  have hc := k_tnumber dc
  have ha := k_tnumber da
  have hd := k_tnumber dd
  have hw := k_print dw
  have hp := k_print dp
  have sc : (prnB dc).size ≤ 30 := Nat.le_trans (prn_len hc1.1 hc1.2) (by decide)
  have sa : (prnB da).size ≤ 30 := Nat.le_trans (prn_len ha1.1 ha1.2) (by decide)
  have sd : (prnB dd).size ≤ 30 := Nat.le_trans (prn_len hd1.1 hd1.2) (by decide)
  have sw : (prnB dw).size ≤ 30 := Nat.le_trans (prn_len hw1.1 hw1.2) (by decide)
  have sp : (prnB dp).size ≤ 30 := Nat.le_trans (prn_len hp1.1 hp1.2) (by decide)
  have hnl : (⟨#[10]⟩ : ByteArray).size = 1 := rfl
  refine Ctr.of hT hmix Tryz.func42 rfl (fun _ _ => by kernel_rfl) rfl fun hok => ?_
  clear hok
  generalize rightD ⟨4, dc, da, dd, dw, dp, dn⟩ = R at hf
  conv => whnf
  refine acall.pure _ (hf) rfl rfl fun _ => ?_
  conv => whnf
  refine acall.pure _ (hc) rfl rfl ?_
  conv => whnf
  refine acall.pure _ (ha) rfl rfl ?_
  conv => whnf
  refine ⟨by kernel_rfl, fun _ => ?_⟩
  conv => whnf
  refine acall.pure _ (hd) rfl rfl fun _ => ?_
  conv => whnf
  refine ⟨rfl, rfl, rfl, (by simp), (show 4 * 16 ≤ 150000000000000 by decide), fun q hq => ?_, ?_⟩
  · cases hq with
    | head => exact Nat.ne_of_beq_eq_false rfl
    | tail _ h => cases h
  conv => whnf
  refine acall.pure _ (hw) rfl rfl fun _ => ?_
  conv => whnf
  refine ⟨rfl, rfl, rfl, (by simp), (show 5 * 16 ≤ 150000000000000 by decide), fun q hq => ?_, ?_⟩
  · cases hq with
    | head => exact Nat.ne_of_beq_eq_false rfl
    | tail _ h => cases h
  conv => whnf
  refine acall.pure _ (hp) rfl rfl fun _ => ?_
  conv => whnf
  refine ⟨rfl, rfl, rfl, (by simp), (show 6 * 16 ≤ 150000000000000 by decide), fun q hq => ?_, ?_⟩
  · cases hq with
    | head => exact Nat.ne_of_beq_eq_false rfl
    | tail _ h => cases h
  conv => whnf
  refine csplit (fun ho => ?_) (fun ho => ?_)
  · subst ho
    conv => whnf
    refine ⟨rfl, rfl, rfl, (by simp), (show 7 * 16 ≤ 150000000000000 by decide), fun q hq => ?_, ?_⟩
    · cases hq with
      | head => exact Nat.ne_of_beq_eq_false rfl
      | tail _ h => cases h
    conv => whnf
    have hj := k_join [prnB dc, prnB da, ⟨#[115, 119, 97, 112]⟩, prnB dd, prnB dw, prnB dp, ownB] (Nat.le_trans (joinL_le (m := 30) (fun x hx => by
        simp only [List.mem_cons, List.not_mem_nil, or_false] at hx
        rcases hx with rfl | rfl | rfl | rfl | rfl | rfl | rfl <;> first | assumption | exact Nat.le_of_ble_eq_true rfl)) (by simp))
    refine acall.sn1 _ _ hj ⟨⟨rfl, Nat.le_refl _, rfl⟩, .inl rfl, trivial⟩ rfl rfl fun _ => ?_
    conv => whnf
    have hjz : (joinB [prnB dc, prnB da, ⟨#[115, 119, 97, 112]⟩, prnB dd, prnB dw, prnB dp, ownB]).size ≤ 1000 := by
      show (joinL _).toArray.size ≤ 1000
      rw [List.size_toArray]
      refine Nat.le_trans (joinL_le (m := 30) (fun x hx => by
        simp only [List.mem_cons, List.not_mem_nil, or_false] at hx
        rcases hx with rfl | rfl | rfl | rfl | rfl | rfl | rfl <;> first | assumption | exact Nat.le_of_ble_eq_true rfl)) (by simp)
    refine ⟨(by rw [hnl]; exact Nat.le_trans (Nat.add_le_add_right hjz 1) (by decide)), ?_⟩
    conv => whnf
    exact ⟨.inl rfl, trivial⟩
  · subst ho
    conv => whnf
    have hj := k_join [prnB dc, prnB da, ⟨#[115, 119, 97, 112]⟩, prnB dd, prnB dw, prnB dp] (Nat.le_trans (joinL_le (m := 30) (fun x hx => by
        simp only [List.mem_cons, List.not_mem_nil, or_false] at hx
        rcases hx with rfl | rfl | rfl | rfl | rfl | rfl <;> first | assumption | exact Nat.le_of_ble_eq_true rfl)) (by simp))
    refine acall.sn1 _ _ hj ⟨⟨rfl, Nat.le_refl _, rfl⟩, .inl rfl, trivial⟩ rfl rfl fun _ => ?_
    conv => whnf
    have hjz : (joinB [prnB dc, prnB da, ⟨#[115, 119, 97, 112]⟩, prnB dd, prnB dw, prnB dp]).size ≤ 1000 := by
      show (joinL _).toArray.size ≤ 1000
      rw [List.size_toArray]
      refine Nat.le_trans (joinL_le (m := 30) (fun x hx => by
        simp only [List.mem_cons, List.not_mem_nil, or_false] at hx
        rcases hx with rfl | rfl | rfl | rfl | rfl | rfl <;> first | assumption | exact Nat.le_of_ble_eq_true rfl)) (by simp)
    refine ⟨(by rw [hnl]; exact Nat.le_trans (Nat.add_le_add_right hjz 1) (by decide)), ?_⟩
    conv => whnf
    exact ⟨.inl rfl, trivial⟩
set_option maxRecDepth 100000 in
set_option maxHeartbeats 1000000 in
theorem t_line5 (dc da dd dw dp : Int) (dn : Bool) (hc1 : -9223372036854775808 ≤ dc ∧ dc ≤ 9223372036854775807) (ha1 : -9223372036854775808 ≤ da ∧ da ≤ 9223372036854775807) (hd1 : -9223372036854775808 ≤ dd ∧ dd ≤ 9223372036854775807) (hw1 : -9223372036854775808 ≤ dw ∧ dw ≤ 9223372036854775807) (hp1 : -9223372036854775808 ≤ dp ∧ dp ≤ 9223372036854775807) :
    K 42 [didA 5 dc da dd dw dp dn] [] (.ret (.tr (ts (lineB ⟨5, dc, da, dd, dw, dp, dn⟩)))) [] := by
  have hf := t_formOf5 dc da dd dw dp dn
  have hc := k_tnumber dc
  have ha := k_tnumber da
  have hd := k_tnumber dd
  have hw := k_print dw
  have hp := k_print dp
  have sc : (prnB dc).size ≤ 30 := Nat.le_trans (prn_len hc1.1 hc1.2) (by decide)
  have sa : (prnB da).size ≤ 30 := Nat.le_trans (prn_len ha1.1 ha1.2) (by decide)
  have sd : (prnB dd).size ≤ 30 := Nat.le_trans (prn_len hd1.1 hd1.2) (by decide)
  have sw : (prnB dw).size ≤ 30 := Nat.le_trans (prn_len hw1.1 hw1.2) (by decide)
  have sp : (prnB dp).size ≤ 30 := Nat.le_trans (prn_len hp1.1 hp1.2) (by decide)
  have hnl : (⟨#[10]⟩ : ByteArray).size = 1 := rfl
  refine Ctr.of hT hmix Tryz.func42 rfl (fun _ _ => by kernel_rfl) rfl fun hok => ?_
  clear hok
  generalize rightD ⟨5, dc, da, dd, dw, dp, dn⟩ = R at hf
  conv => whnf
  refine acall.pure _ (hf) rfl rfl fun _ => ?_
  conv => whnf
  refine acall.pure _ (hc) rfl rfl ?_
  conv => whnf
  refine acall.pure _ (ha) rfl rfl ?_
  conv => whnf
  refine ⟨by kernel_rfl, fun _ => ?_⟩
  conv => whnf
  refine csplit (fun ho => ?_) (fun ho => ?_)
  · subst ho
    conv => whnf
    refine ⟨rfl, rfl, rfl, (by simp), (show 4 * 16 ≤ 150000000000000 by decide), fun q hq => ?_, ?_⟩
    · cases hq with
      | head => exact Nat.ne_of_beq_eq_false rfl
      | tail _ h => cases h
    conv => whnf
    have hj := k_join [prnB dc, prnB da, ⟨#[102, 101, 110, 99, 101]⟩, ownB] (Nat.le_trans (joinL_le (m := 30) (fun x hx => by
        simp only [List.mem_cons, List.not_mem_nil, or_false] at hx
        rcases hx with rfl | rfl | rfl | rfl <;> first | assumption | exact Nat.le_of_ble_eq_true rfl)) (by simp))
    refine acall.sn1 _ _ hj ⟨⟨rfl, Nat.le_refl _, rfl⟩, .inl rfl, trivial⟩ rfl rfl fun _ => ?_
    conv => whnf
    have hjz : (joinB [prnB dc, prnB da, ⟨#[102, 101, 110, 99, 101]⟩, ownB]).size ≤ 1000 := by
      show (joinL _).toArray.size ≤ 1000
      rw [List.size_toArray]
      refine Nat.le_trans (joinL_le (m := 30) (fun x hx => by
        simp only [List.mem_cons, List.not_mem_nil, or_false] at hx
        rcases hx with rfl | rfl | rfl | rfl <;> first | assumption | exact Nat.le_of_ble_eq_true rfl)) (by simp)
    refine ⟨(by rw [hnl]; exact Nat.le_trans (Nat.add_le_add_right hjz 1) (by decide)), ?_⟩
    conv => whnf
    exact ⟨.inl rfl, trivial⟩
  · subst ho
    conv => whnf
    have hj := k_join [prnB dc, prnB da, ⟨#[102, 101, 110, 99, 101]⟩] (Nat.le_trans (joinL_le (m := 30) (fun x hx => by
        simp only [List.mem_cons, List.not_mem_nil, or_false] at hx
        rcases hx with rfl | rfl | rfl <;> first | assumption | exact Nat.le_of_ble_eq_true rfl)) (by simp))
    refine acall.sn1 _ _ hj ⟨⟨rfl, Nat.le_refl _, rfl⟩, .inl rfl, trivial⟩ rfl rfl fun _ => ?_
    conv => whnf
    have hjz : (joinB [prnB dc, prnB da, ⟨#[102, 101, 110, 99, 101]⟩]).size ≤ 1000 := by
      show (joinL _).toArray.size ≤ 1000
      rw [List.size_toArray]
      refine Nat.le_trans (joinL_le (m := 30) (fun x hx => by
        simp only [List.mem_cons, List.not_mem_nil, or_false] at hx
        rcases hx with rfl | rfl | rfl <;> first | assumption | exact Nat.le_of_ble_eq_true rfl)) (by simp)
    refine ⟨(by rw [hnl]; exact Nat.le_trans (Nat.add_le_add_right hjz 1) (by decide)), ?_⟩
    conv => whnf
    exact ⟨.inl rfl, trivial⟩
set_option maxRecDepth 100000 in
set_option maxHeartbeats 1000000 in
theorem t_line6 (dc da dd dw dp : Int) (dn : Bool) (hc1 : -9223372036854775808 ≤ dc ∧ dc ≤ 9223372036854775807) (ha1 : -9223372036854775808 ≤ da ∧ da ≤ 9223372036854775807) (hd1 : -9223372036854775808 ≤ dd ∧ dd ≤ 9223372036854775807) (hw1 : -9223372036854775808 ≤ dw ∧ dw ≤ 9223372036854775807) (hp1 : -9223372036854775808 ≤ dp ∧ dp ≤ 9223372036854775807) :
    K 42 [didA 6 dc da dd dw dp dn] [] (.ret (.tr (ts (lineB ⟨6, dc, da, dd, dw, dp, dn⟩)))) [] := by
  have hf := t_formOf6 dc da dd dw dp dn
  have hc := k_tnumber dc
  have ha := k_tnumber da
  have hd := k_tnumber dd
  have hw := k_print dw
  have hp := k_print dp
  have sc : (prnB dc).size ≤ 30 := Nat.le_trans (prn_len hc1.1 hc1.2) (by decide)
  have sa : (prnB da).size ≤ 30 := Nat.le_trans (prn_len ha1.1 ha1.2) (by decide)
  have sd : (prnB dd).size ≤ 30 := Nat.le_trans (prn_len hd1.1 hd1.2) (by decide)
  have sw : (prnB dw).size ≤ 30 := Nat.le_trans (prn_len hw1.1 hw1.2) (by decide)
  have sp : (prnB dp).size ≤ 30 := Nat.le_trans (prn_len hp1.1 hp1.2) (by decide)
  have hnl : (⟨#[10]⟩ : ByteArray).size = 1 := rfl
  refine Ctr.of hT hmix Tryz.func42 rfl (fun _ _ => by kernel_rfl) rfl fun hok => ?_
  clear hok
  generalize rightD ⟨6, dc, da, dd, dw, dp, dn⟩ = R at hf
  conv => whnf
  refine acall.pure _ (hf) rfl rfl fun _ => ?_
  conv => whnf
  refine acall.pure _ (hc) rfl rfl ?_
  conv => whnf
  refine acall.pure _ (ha) rfl rfl ?_
  conv => whnf
  refine ⟨by kernel_rfl, fun _ => ?_⟩
  conv => whnf
  refine acall.pure _ (hw) rfl rfl fun _ => ?_
  conv => whnf
  refine ⟨rfl, rfl, rfl, (by simp), (show 4 * 16 ≤ 150000000000000 by decide), fun q hq => ?_, ?_⟩
  · cases hq with
    | head => exact Nat.ne_of_beq_eq_false rfl
    | tail _ h => cases h
  conv => whnf
  refine csplit (fun ho => ?_) (fun ho => ?_)
  · subst ho
    conv => whnf
    refine ⟨rfl, rfl, rfl, (by simp), (show 5 * 16 ≤ 150000000000000 by decide), fun q hq => ?_, ?_⟩
    · cases hq with
      | head => exact Nat.ne_of_beq_eq_false rfl
      | tail _ h => cases h
    conv => whnf
    have hj := k_join [prnB dc, prnB da, ⟨#[112, 114, 105, 110, 116]⟩, prnB dw, ownB] (Nat.le_trans (joinL_le (m := 30) (fun x hx => by
        simp only [List.mem_cons, List.not_mem_nil, or_false] at hx
        rcases hx with rfl | rfl | rfl | rfl | rfl <;> first | assumption | exact Nat.le_of_ble_eq_true rfl)) (by simp))
    refine acall.sn1 _ _ hj ⟨⟨rfl, Nat.le_refl _, rfl⟩, .inl rfl, trivial⟩ rfl rfl fun _ => ?_
    conv => whnf
    have hjz : (joinB [prnB dc, prnB da, ⟨#[112, 114, 105, 110, 116]⟩, prnB dw, ownB]).size ≤ 1000 := by
      show (joinL _).toArray.size ≤ 1000
      rw [List.size_toArray]
      refine Nat.le_trans (joinL_le (m := 30) (fun x hx => by
        simp only [List.mem_cons, List.not_mem_nil, or_false] at hx
        rcases hx with rfl | rfl | rfl | rfl | rfl <;> first | assumption | exact Nat.le_of_ble_eq_true rfl)) (by simp)
    refine ⟨(by rw [hnl]; exact Nat.le_trans (Nat.add_le_add_right hjz 1) (by decide)), ?_⟩
    conv => whnf
    exact ⟨.inl rfl, trivial⟩
  · subst ho
    conv => whnf
    have hj := k_join [prnB dc, prnB da, ⟨#[112, 114, 105, 110, 116]⟩, prnB dw] (Nat.le_trans (joinL_le (m := 30) (fun x hx => by
        simp only [List.mem_cons, List.not_mem_nil, or_false] at hx
        rcases hx with rfl | rfl | rfl | rfl <;> first | assumption | exact Nat.le_of_ble_eq_true rfl)) (by simp))
    refine acall.sn1 _ _ hj ⟨⟨rfl, Nat.le_refl _, rfl⟩, .inl rfl, trivial⟩ rfl rfl fun _ => ?_
    conv => whnf
    have hjz : (joinB [prnB dc, prnB da, ⟨#[112, 114, 105, 110, 116]⟩, prnB dw]).size ≤ 1000 := by
      show (joinL _).toArray.size ≤ 1000
      rw [List.size_toArray]
      refine Nat.le_trans (joinL_le (m := 30) (fun x hx => by
        simp only [List.mem_cons, List.not_mem_nil, or_false] at hx
        rcases hx with rfl | rfl | rfl | rfl <;> first | assumption | exact Nat.le_of_ble_eq_true rfl)) (by simp)
    refine ⟨(by rw [hnl]; exact Nat.le_trans (Nat.add_le_add_right hjz 1) (by decide)), ?_⟩
    conv => whnf
    exact ⟨.inl rfl, trivial⟩
set_option maxRecDepth 100000 in
set_option maxHeartbeats 1000000 in
theorem t_line7 (dc da dd dw dp : Int) (dn : Bool) (hc1 : -9223372036854775808 ≤ dc ∧ dc ≤ 9223372036854775807) (ha1 : -9223372036854775808 ≤ da ∧ da ≤ 9223372036854775807) (hd1 : -9223372036854775808 ≤ dd ∧ dd ≤ 9223372036854775807) (hw1 : -9223372036854775808 ≤ dw ∧ dw ≤ 9223372036854775807) (hp1 : -9223372036854775808 ≤ dp ∧ dp ≤ 9223372036854775807) :
    K 42 [didA 7 dc da dd dw dp dn] [] (.ret (.tr (ts (lineB ⟨7, dc, da, dd, dw, dp, dn⟩)))) [] := by
  have hf := t_formOf7 dc da dd dw dp dn
  have hc := k_tnumber dc
  have ha := k_tnumber da
  have hd := k_tnumber dd
  have hw := k_print dw
  have hp := k_print dp
  have sc : (prnB dc).size ≤ 30 := Nat.le_trans (prn_len hc1.1 hc1.2) (by decide)
  have sa : (prnB da).size ≤ 30 := Nat.le_trans (prn_len ha1.1 ha1.2) (by decide)
  have sd : (prnB dd).size ≤ 30 := Nat.le_trans (prn_len hd1.1 hd1.2) (by decide)
  have sw : (prnB dw).size ≤ 30 := Nat.le_trans (prn_len hw1.1 hw1.2) (by decide)
  have sp : (prnB dp).size ≤ 30 := Nat.le_trans (prn_len hp1.1 hp1.2) (by decide)
  have hnl : (⟨#[10]⟩ : ByteArray).size = 1 := rfl
  refine Ctr.of hT hmix Tryz.func42 rfl (fun _ _ => by kernel_rfl) rfl fun hok => ?_
  clear hok
  generalize rightD ⟨7, dc, da, dd, dw, dp, dn⟩ = R at hf
  conv => whnf
  refine acall.pure _ (hf) rfl rfl fun _ => ?_
  conv => whnf
  refine acall.pure _ (hc) rfl rfl ?_
  conv => whnf
  refine acall.pure _ (ha) rfl rfl ?_
  conv => whnf
  refine ⟨by kernel_rfl, fun _ => ?_⟩
  conv => whnf
  refine csplit (fun ho => ?_) (fun ho => ?_)
  · subst ho
    conv => whnf
    refine ⟨rfl, rfl, rfl, (by simp), (show 4 * 16 ≤ 150000000000000 by decide), fun q hq => ?_, ?_⟩
    · cases hq with
      | head => exact Nat.ne_of_beq_eq_false rfl
      | tail _ h => cases h
    conv => whnf
    have hj := k_join [prnB dc, prnB da, ⟨#[104, 97, 108, 116]⟩, ownB] (Nat.le_trans (joinL_le (m := 30) (fun x hx => by
        simp only [List.mem_cons, List.not_mem_nil, or_false] at hx
        rcases hx with rfl | rfl | rfl | rfl <;> first | assumption | exact Nat.le_of_ble_eq_true rfl)) (by simp))
    refine acall.sn1 _ _ hj ⟨⟨rfl, Nat.le_refl _, rfl⟩, .inl rfl, trivial⟩ rfl rfl fun _ => ?_
    conv => whnf
    have hjz : (joinB [prnB dc, prnB da, ⟨#[104, 97, 108, 116]⟩, ownB]).size ≤ 1000 := by
      show (joinL _).toArray.size ≤ 1000
      rw [List.size_toArray]
      refine Nat.le_trans (joinL_le (m := 30) (fun x hx => by
        simp only [List.mem_cons, List.not_mem_nil, or_false] at hx
        rcases hx with rfl | rfl | rfl | rfl <;> first | assumption | exact Nat.le_of_ble_eq_true rfl)) (by simp)
    refine ⟨(by rw [hnl]; exact Nat.le_trans (Nat.add_le_add_right hjz 1) (by decide)), ?_⟩
    conv => whnf
    exact ⟨.inl rfl, trivial⟩
  · subst ho
    conv => whnf
    have hj := k_join [prnB dc, prnB da, ⟨#[104, 97, 108, 116]⟩] (Nat.le_trans (joinL_le (m := 30) (fun x hx => by
        simp only [List.mem_cons, List.not_mem_nil, or_false] at hx
        rcases hx with rfl | rfl | rfl <;> first | assumption | exact Nat.le_of_ble_eq_true rfl)) (by simp))
    refine acall.sn1 _ _ hj ⟨⟨rfl, Nat.le_refl _, rfl⟩, .inl rfl, trivial⟩ rfl rfl fun _ => ?_
    conv => whnf
    have hjz : (joinB [prnB dc, prnB da, ⟨#[104, 97, 108, 116]⟩]).size ≤ 1000 := by
      show (joinL _).toArray.size ≤ 1000
      rw [List.size_toArray]
      refine Nat.le_trans (joinL_le (m := 30) (fun x hx => by
        simp only [List.mem_cons, List.not_mem_nil, or_false] at hx
        rcases hx with rfl | rfl | rfl <;> first | assumption | exact Nat.le_of_ble_eq_true rfl)) (by simp)
    refine ⟨(by rw [hnl]; exact Nat.le_trans (Nat.add_le_add_right hjz 1) (by decide)), ?_⟩
    conv => whnf
    exact ⟨.inl rfl, trivial⟩
set_option maxRecDepth 100000 in
set_option maxHeartbeats 1000000 in
theorem t_line8 (dc da dd dw dp : Int) (dn : Bool) (hc1 : -9223372036854775808 ≤ dc ∧ dc ≤ 9223372036854775807) (ha1 : -9223372036854775808 ≤ da ∧ da ≤ 9223372036854775807) (hd1 : -9223372036854775808 ≤ dd ∧ dd ≤ 9223372036854775807) (hw1 : -9223372036854775808 ≤ dw ∧ dw ≤ 9223372036854775807) (hp1 : -9223372036854775808 ≤ dp ∧ dp ≤ 9223372036854775807) :
    K 42 [didA 8 dc da dd dw dp dn] [] (.ret (.tr (ts (lineB ⟨8, dc, da, dd, dw, dp, dn⟩)))) [] := by
  have hf := t_formOf8 dc da dd dw dp dn
  have hc := k_tnumber dc
  have ha := k_tnumber da
  have hd := k_tnumber dd
  have hw := k_print dw
  have hp := k_print dp
  have sc : (prnB dc).size ≤ 30 := Nat.le_trans (prn_len hc1.1 hc1.2) (by decide)
  have sa : (prnB da).size ≤ 30 := Nat.le_trans (prn_len ha1.1 ha1.2) (by decide)
  have sd : (prnB dd).size ≤ 30 := Nat.le_trans (prn_len hd1.1 hd1.2) (by decide)
  have sw : (prnB dw).size ≤ 30 := Nat.le_trans (prn_len hw1.1 hw1.2) (by decide)
  have sp : (prnB dp).size ≤ 30 := Nat.le_trans (prn_len hp1.1 hp1.2) (by decide)
  have hnl : (⟨#[10]⟩ : ByteArray).size = 1 := rfl
  refine Ctr.of hT hmix Tryz.func42 rfl (fun _ _ => by kernel_rfl) rfl fun hok => ?_
  clear hok
  generalize rightD ⟨8, dc, da, dd, dw, dp, dn⟩ = R at hf
  conv => whnf
  refine acall.pure _ (hf) rfl rfl fun _ => ?_
  conv => whnf
  refine acall.pure _ (hc) rfl rfl ?_
  conv => whnf
  refine acall.pure _ (ha) rfl rfl ?_
  conv => whnf
  refine ⟨by kernel_rfl, fun _ => ?_⟩
  conv => whnf
  refine acall.pure _ (hd) rfl rfl fun _ => ?_
  conv => whnf
  refine ⟨rfl, rfl, rfl, (by simp), (show 4 * 16 ≤ 150000000000000 by decide), fun q hq => ?_, ?_⟩
  · cases hq with
    | head => exact Nat.ne_of_beq_eq_false rfl
    | tail _ h => cases h
  conv => whnf
  refine acall.pure _ (hw) rfl rfl fun _ => ?_
  conv => whnf
  refine ⟨rfl, rfl, rfl, (by simp), (show 5 * 16 ≤ 150000000000000 by decide), fun q hq => ?_, ?_⟩
  · cases hq with
    | head => exact Nat.ne_of_beq_eq_false rfl
    | tail _ h => cases h
  conv => whnf
  refine csplit (fun ho => ?_) (fun ho => ?_)
  · subst ho
    conv => whnf
    refine ⟨rfl, rfl, rfl, (by simp), (show 6 * 16 ≤ 150000000000000 by decide), fun q hq => ?_, ?_⟩
    · cases hq with
      | head => exact Nat.ne_of_beq_eq_false rfl
      | tail _ h => cases h
    conv => whnf
    have hj := k_join [prnB dc, prnB da, ⟨#[100, 114, 97, 105, 110]⟩, prnB dd, prnB dw, ownB] (Nat.le_trans (joinL_le (m := 30) (fun x hx => by
        simp only [List.mem_cons, List.not_mem_nil, or_false] at hx
        rcases hx with rfl | rfl | rfl | rfl | rfl | rfl <;> first | assumption | exact Nat.le_of_ble_eq_true rfl)) (by simp))
    refine acall.sn1 _ _ hj ⟨⟨rfl, Nat.le_refl _, rfl⟩, .inl rfl, trivial⟩ rfl rfl fun _ => ?_
    conv => whnf
    have hjz : (joinB [prnB dc, prnB da, ⟨#[100, 114, 97, 105, 110]⟩, prnB dd, prnB dw, ownB]).size ≤ 1000 := by
      show (joinL _).toArray.size ≤ 1000
      rw [List.size_toArray]
      refine Nat.le_trans (joinL_le (m := 30) (fun x hx => by
        simp only [List.mem_cons, List.not_mem_nil, or_false] at hx
        rcases hx with rfl | rfl | rfl | rfl | rfl | rfl <;> first | assumption | exact Nat.le_of_ble_eq_true rfl)) (by simp)
    refine ⟨(by rw [hnl]; exact Nat.le_trans (Nat.add_le_add_right hjz 1) (by decide)), ?_⟩
    conv => whnf
    exact ⟨.inl rfl, trivial⟩
  · subst ho
    conv => whnf
    have hj := k_join [prnB dc, prnB da, ⟨#[100, 114, 97, 105, 110]⟩, prnB dd, prnB dw] (Nat.le_trans (joinL_le (m := 30) (fun x hx => by
        simp only [List.mem_cons, List.not_mem_nil, or_false] at hx
        rcases hx with rfl | rfl | rfl | rfl | rfl <;> first | assumption | exact Nat.le_of_ble_eq_true rfl)) (by simp))
    refine acall.sn1 _ _ hj ⟨⟨rfl, Nat.le_refl _, rfl⟩, .inl rfl, trivial⟩ rfl rfl fun _ => ?_
    conv => whnf
    have hjz : (joinB [prnB dc, prnB da, ⟨#[100, 114, 97, 105, 110]⟩, prnB dd, prnB dw]).size ≤ 1000 := by
      show (joinL _).toArray.size ≤ 1000
      rw [List.size_toArray]
      refine Nat.le_trans (joinL_le (m := 30) (fun x hx => by
        simp only [List.mem_cons, List.not_mem_nil, or_false] at hx
        rcases hx with rfl | rfl | rfl | rfl | rfl <;> first | assumption | exact Nat.le_of_ble_eq_true rfl)) (by simp)
    refine ⟨(by rw [hnl]; exact Nat.le_trans (Nat.add_le_add_right hjz 1) (by decide)), ?_⟩
    conv => whnf
    exact ⟨.inl rfl, trivial⟩
end Go.Proofs.YtcpolpbeimhgfaaGreat.am

namespace Go.Proofs.YtcpolpbeimhgfaaGreat.am
open Go Go.Proofs
structure RngD (d : Did) : Prop where
  kind : 0 ≤ d.kind
  core : -9223372036854775808 ≤ d.core ∧ d.core ≤ 9223372036854775807
  at_ : -9223372036854775808 ≤ d.at_ ∧ d.at_ ≤ 9223372036854775807
  addr : -9223372036854775808 ≤ d.addr ∧ d.addr ≤ 9223372036854775807
  word : -9223372036854775808 ≤ d.word ∧ d.word ≤ 9223372036854775807
  put : -9223372036854775808 ≤ d.put ∧ d.put ≤ 9223372036854775807
theorem rng_of {d : Did} (h : ∀ t ∈ d.cells, TOkT t) : RngD d := by
  have h0 := (h (tu d.kind) (List.mem_cons_self ..)).u8
  have h1 := (h (ti d.core) (by simp [Did.cells])).i64
  have h2 := (h (ti d.at_) (by simp [Did.cells])).i64
  have h3 := (h (ti d.addr) (by simp [Did.cells])).i64
  have h4 := (h (ti d.word) (by simp [Did.cells])).i64
  have h5 := (h (ti d.put) (by simp [Did.cells])).i64
  exact ⟨h0.1, h1, h2, h3, h4, h5⟩
theorem t_line (d : Did) (hr : rightD d = true) (h : RngD d) : K 42 [d.av] [] (.ret (.tr (ts (lineB d)))) [] := by
  have hk := right_kind' hr
  have hk0 := h.kind
  obtain ⟨_, h1, h2, h3, h4, h5⟩ := h
  obtain ⟨dk, dc, da, dd, dw, dp, dn⟩ := d
  simp only at hk hk0 h1 h2 h3 h4 h5
  rcases hk with rfl | rfl | rfl | rfl | rfl | rfl | rfl | rfl | hk
  · exact t_line1 dc da dd dw dp dn h1 h2 h3 h4 h5
  · exact t_line2 dc da dd dw dp dn h1 h2 h3 h4 h5
  · exact t_line3 dc da dd dw dp dn h1 h2 h3 h4 h5
  · exact t_line4 dc da dd dw dp dn h1 h2 h3 h4 h5
  · exact t_line5 dc da dd dw dp dn h1 h2 h3 h4 h5
  · exact t_line6 dc da dd dw dp dn h1 h2 h3 h4 h5
  · exact t_line7 dc da dd dw dp dn h1 h2 h3 h4 h5
  · exact t_line8 dc da dd dw dp dn h1 h2 h3 h4 h5
  · omega
/-- what is written, line by line; none: too long -/
def prtL : List UInt8 → List Did → Option (List UInt8)
  | acc, [] => some acc
  | acc, d :: l => bif decide ((acc.length : Int) + ((lineB d).size : Int) > 4194304) then none else prtL (acc ++ (lineB d).data.toList) l
theorem prtL_drop {acc : List UInt8} {l : List Did} {j : Nat} {d : Did} (h : l[j]? = some d) : prtL acc (l.drop j) = bif decide ((acc.length : Int) + ((lineB d).size : Int) > 4194304) then none else prtL (acc ++ (lineB d).data.toList) (l.drop (j + 1)) := by
  have hlt := (List.getElem?_eq_some_iff.1 h).1
  rw [List.drop_eq_getElem_cons hlt, (List.getElem?_eq_some_iff.1 h).2]
  rfl
def prtB : Option (List UInt8) → ByteArray × Int
  | none => (⟨#[]⟩, 4)
  | some l => (⟨l.toArray⟩, 0)
theorem lineB_size (d : Did) : (lineB d).size = (lineB d).data.toList.length := by simp
theorem dword_le (k : Int) : (dword k).size ≤ 30 := by
  unfold dword
  rw [List.getD_eq_getElem?_getD]
  cases h : dwords[k.toNat]? with
  | none => exact Nat.zero_le _
  | some x =>
    have := List.mem_of_getElem? h
    simp only [dwords, List.mem_cons, List.not_mem_nil, or_false] at this
    rcases this with rfl | rfl | rfl | rfl | rfl | rfl | rfl | rfl | rfl <;> exact Nat.le_of_ble_eq_true rfl
theorem mem_cond {α : Type} {b : Bool} {x y : α} (h : x ∈ (bif b then [y] else [])) : x = y := by
  cases b
  · simp at h
  · simpa using h
theorem lineB_le {d : Did} (h : RngD d) : (lineB d).size ≤ 1000 := by
  unfold lineB
  rw [ByteArray.size_append]
  have hj : (joinB (lineW d)).size = (joinL (lineW d)).length := by show (joinL _).toArray.size = _; simp
  have hn : nlB.size = 1 := rfl
  have hm : (joinL (lineW d)).length ≤ (lineW d).length * 31 := joinL_le (m := 30) fun x hx => by
    have p1 : (prnB d.core).size ≤ 30 := Nat.le_trans (prn_len h.core.1 h.core.2) (by decide)
    have p2 : (prnB d.at_).size ≤ 30 := Nat.le_trans (prn_len h.at_.1 h.at_.2) (by decide)
    have p3 : (prnB d.addr).size ≤ 30 := Nat.le_trans (prn_len h.addr.1 h.addr.2) (by decide)
    have p4 : (prnB d.word).size ≤ 30 := Nat.le_trans (prn_len h.word.1 h.word.2) (by decide)
    have p5 : (prnB d.put).size ≤ 30 := Nat.le_trans (prn_len h.put.1 h.put.2) (by decide)
    have p6 := dword_le d.kind
    have p7 : ownB.size ≤ 30 := Nat.le_of_ble_eq_true rfl
    unfold lineW at hx
    simp only [List.mem_append, List.mem_cons, List.not_mem_nil, or_false] at hx
    rcases hx with (((hx | hx) | hx) | hx) | hx
    · rcases hx with rfl | rfl | rfl <;> assumption
    · rw [mem_cond hx]; exact p3
    · rw [mem_cond hx]; exact p4
    · rw [mem_cond hx]; exact p5
    · rw [mem_cond hx]; exact p7
  have hl : (lineW d).length ≤ 7 := by
    unfold lineW
    cases addrK d.kind <;> cases wordK d.kind <;> cases (d.kind == 4) <;> cases d.own <;> simp
  omega
theorem lineB_ne (d : Did) : (lineB d).data.toList ≠ [] := by
  have : 0 < (lineB d).size := by
    unfold lineB
    rw [ByteArray.size_append]
    show 0 < _ + 1
    omega
  intro h
  rw [lineB_size, h] at this
  cases this
set_option maxRecDepth 100000 in
set_option maxHeartbeats 1000000 in
theorem t_print (l : List Did) (h : l.all rightD = true) (hne : l ≠ []) : K 26 [.tr (didsT l)] [] (.ret (.tup [.tr (ts (prtB (prtL [] l)).1), .tr (ti (prtB (prtL [] l)).2)])) [] := by
  have hr := t_right l
  rw [h] at hr
  generalize hR : prtL [] l = R
  refine Ctr.of hT hmix Tryz.func26 rfl (fun _ _ => by kernel_rfl) rfl fun hok => ?_
  obtain ⟨hB, hl63, hrows⟩ := (hok.slot 0 rfl).tr.lst
  have hrng : ∀ d ∈ l, RngD d := fun d hd => rng_of (hrows d.cells (List.mem_map_of_mem hd)).2
  have hlm : (l.map Did.cells).length = l.length := List.length_map ..
  rw [hlm] at hl63
  clear hok hrows
  conv => whnf
  refine acall.pure _ (hr) rfl rfl fun _ => ?_
  conv => whnf
  refine LoopL.by (fun x : Bool × List UInt8 × Nat => ⟨[(4, .ptr 0 0), (11, .tr (didsT l)), (12, .tr (ti (l.length : Int))), (13, .tr (ti x.2.2))], [(0, bldC (cond x.1 nilP (.ptr 0 0)) 1 x.2.1.length), (1, byV x.2.1)], 10⟩)
    (fun x => x.2.2 ≤ l.length ∧ R = prtL x.2.1 (l.drop x.2.2) ∧ x.2.1.length ≤ 4194304 ∧ ((x.1 = true ∧ x.2.1 = [] ∧ x.2.2 = 0) ∨ (x.1 = false ∧ x.2.1 ≠ []))) (fun x => l.length - x.2.2) (true, [], 0) [_] [1]
    (Sub.mk' rfl ⟨⟨rfl, rfl⟩, .inl rfl, .inl (by rw [← hlm]), .inl rfl, trivial⟩ ⟨⟨rfl, .inl rfl, ⟨rfl, rfl, rfl, rfl⟩, trivial⟩, ⟨rfl, _, _, _, rfl, by decide⟩, trivial⟩ rfl rfl)
    ⟨Nat.zero_le _, hR.symm, Nat.zero_le _, .inl ⟨rfl, rfl, rfl⟩⟩ ?_
  rintro ⟨fresh, acc, j⟩ ⟨hj, hRj, hacc, hfr⟩ -
  simp only at hj hRj hacc hfr
  cases fresh
  all_goals (
    conv => whnf
    refine csplit (fun hlt => ?_) (fun hge => ?_))
  · have hlt : j < l.length := by have : ((j : Nat) : Int) < (l.length : Int) := of_decide_eq_true hlt; omega
    obtain ⟨d, hd⟩ : ∃ x, l[j]? = some x := ⟨l[j], by simp [hlt]⟩
    rw [prtL_drop hd] at hRj
    have hmem := List.mem_of_getElem? hd
    have hln := t_line d (List.all_eq_true.1 h d hmem) (hrng d hmem)
    have hlz := lineB_size d
    have hln0 := lineB_ne d
    have hlb := lineB_le (hrng d hmem)
    conv => whnf
    refine ⟨rfl, (show (0 : Int) ≤ j by omega), (show (j : Int) < (l.map Did.cells).length by rw [hlm]; omega), fun row hr => ?_⟩
    obtain ⟨d', hd', rfl⟩ := did_get hr
    obtain rfl : d = d' := Option.some.inj (hd.symm.trans hd')
    clear hr hd'
    generalize lineB d = S at hRj hln hlz hln0 hlb
    have hwz : IntKind.i64.wrap ((acc.length : Int) + (S.size : Int)) = (acc.length : Int) + (S.size : Int) := w64 (by omega) (by omega)
    rw [← hwz] at hRj
    conv => whnf
    refine acall.pure _ (hln) rfl rfl fun _ => ?_
    conv => whnf
    refine acall.au [0, 1] [] (k_bLenU acc.length acc) ?_
    intro _
    conv => whnf
    refine csplit (fun hz => ?_) (fun hz => ?_)
    · replace hz : decide (IntKind.i64.wrap ((acc.length : Int) + (S.size : Int)) > 4194304) = true := hz
      rw [hz] at hRj
      obtain rfl : R = none := hRj
      conv => whnf
      exact ⟨⟨.inl rfl, .inl rfl, trivial⟩, trivial⟩
    · replace hz : decide (IntKind.i64.wrap ((acc.length : Int) + (S.size : Int)) > 4194304) = false := hz
      rw [hz] at hRj
      have hRj : R = prtL (acc ++ S.data.toList) (l.drop (j + 1)) := hRj
      have hz := of_decide_eq_false hz
      rw [hwz] at hz
      have hal : (acc ++ S.data.toList).length = acc.length + S.size := by rw [List.length_append, hlz]
      conv => whnf
      refine acall.new [0, 1] [] _ _ _ _ (k_wsU acc S (by omega)) rfl rfl rfl rfl aut aut rfl rfl fun _ => ?_
      conv => whnf
      exact ⟨(false, acc ++ S.data.toList, j + 1), [0, _], [], Sub.mk' rfl ⟨⟨rfl, rfl⟩, .inl rfl, .inl rfl, .inl (ti_succ hlt hl63), trivial⟩ ⟨⟨rfl, ⟨rfl, rfl⟩, ⟨rfl, hal.symm⟩, trivial⟩, ⟨rfl, rfl, rfl, rfl⟩, trivial⟩ rfl rfl, ⟨hlt, hRj, by show (acc ++ S.data.toList).length ≤ 4194304; omega, .inr ⟨rfl, by simp [hln0]⟩⟩, by show l.length - (j + 1) < l.length - j; omega⟩
  · have hge : j = l.length := by have : ¬ ((j : Nat) : Int) < (l.length : Int) := of_decide_eq_false hge; omega
    subst hge
    rw [List.drop_length] at hRj
    obtain rfl : R = some acc := hRj
    have hne2 : acc ≠ [] := by
      rcases hfr with ⟨h1, _, _⟩ | ⟨_, h2⟩
      · cases h1
      · exact h2
    conv => whnf
    refine ⟨fun _ => ?_, fun h => absurd rfl h⟩
    conv => whnf
    refine acall.au [0, 1] [] (k_bStr (.ptr 0 0) acc hne2) ?_
    intro _
    conv => whnf
    exact ⟨⟨.inl rfl, .inl rfl, trivial⟩, trivial⟩
  · have hlt : j < l.length := by have : ((j : Nat) : Int) < (l.length : Int) := of_decide_eq_true hlt; omega
    obtain ⟨d, hd⟩ : ∃ x, l[j]? = some x := ⟨l[j], by simp [hlt]⟩
    rw [prtL_drop hd] at hRj
    have hmem := List.mem_of_getElem? hd
    have hln := t_line d (List.all_eq_true.1 h d hmem) (hrng d hmem)
    have hlz := lineB_size d
    have hln0 := lineB_ne d
    have hlb := lineB_le (hrng d hmem)
    conv => whnf
    refine ⟨rfl, (show (0 : Int) ≤ j by omega), (show (j : Int) < (l.map Did.cells).length by rw [hlm]; omega), fun row hr => ?_⟩
    obtain ⟨d', hd', rfl⟩ := did_get hr
    obtain rfl : d = d' := Option.some.inj (hd.symm.trans hd')
    clear hr hd'
    generalize lineB d = S at hRj hln hlz hln0 hlb
    have hwz : IntKind.i64.wrap ((acc.length : Int) + (S.size : Int)) = (acc.length : Int) + (S.size : Int) := w64 (by omega) (by omega)
    rw [← hwz] at hRj
    conv => whnf
    refine acall.pure _ (hln) rfl rfl fun _ => ?_
    conv => whnf
    refine acall.au [0, 1] [] (k_bLenF acc.length acc) ?_
    intro _
    conv => whnf
    refine csplit (fun hz => ?_) (fun hz => ?_)
    · replace hz : decide (IntKind.i64.wrap ((acc.length : Int) + (S.size : Int)) > 4194304) = true := hz
      rw [hz] at hRj
      obtain rfl : R = none := hRj
      conv => whnf
      exact ⟨⟨.inl rfl, .inl rfl, trivial⟩, trivial⟩
    · replace hz : decide (IntKind.i64.wrap ((acc.length : Int) + (S.size : Int)) > 4194304) = false := hz
      rw [hz] at hRj
      have hRj : R = prtL (acc ++ S.data.toList) (l.drop (j + 1)) := hRj
      have hz := of_decide_eq_false hz
      rw [hwz] at hz
      have hal : (acc ++ S.data.toList).length = acc.length + S.size := by rw [List.length_append, hlz]
      conv => whnf
      refine acall.new [0, 1] [] _ _ _ _ (k_wsF acc S (by omega)) rfl rfl rfl rfl aut aut rfl rfl fun _ => ?_
      conv => whnf
      exact ⟨(false, acc ++ S.data.toList, j + 1), [0, _], [], Sub.mk' rfl ⟨⟨rfl, rfl⟩, .inl rfl, .inl rfl, .inl (ti_succ hlt hl63), trivial⟩ ⟨⟨rfl, ⟨rfl, rfl⟩, ⟨rfl, hal.symm⟩, trivial⟩, ⟨rfl, rfl, rfl, rfl⟩, trivial⟩ rfl rfl, ⟨hlt, hRj, by show (acc ++ S.data.toList).length ≤ 4194304; omega, .inr ⟨rfl, by simp [hln0]⟩⟩, by show l.length - (j + 1) < l.length - j; omega⟩
  · exfalso
    have hge : j = l.length := by have : ¬ ((j : Nat) : Int) < (l.length : Int) := of_decide_eq_false hge; omega
    rcases hfr with ⟨_, _, h1⟩ | ⟨h1, _⟩
    · exact hne (List.eq_nil_of_length_eq_zero (by omega))
    · cases h1
end Go.Proofs.YtcpolpbeimhgfaaGreat.am

namespace Go.Proofs.YtcpolpbeimhgfaaGreat.am
open Go Go.Proofs
def kI : List Ins := [⟨1, 0, 0, 0, 0, 0, 0, 5, 0⟩, ⟨4, 0, 0, 0, 0, 0, 0, 0, 0⟩, ⟨3, 0, 1, 0, 0, 0, 0, 0, 0⟩, ⟨7, 0, 0, 1, 0, 0, 0, 0, 0⟩, ⟨10, 0, 0, 0, 0, 0, 0, 0, 0⟩]
def kO : Ob := ⟨[0], 1, 0, 2, [⟨⟨#[97]⟩, kI⟩]⟩
def kL : List Stp := [⟨1, 0⟩, ⟨1, 0⟩, ⟨1, 0⟩, ⟨1, 0⟩, ⟨2, 0⟩, ⟨1, 0⟩]
def kD : List Did := [⟨1, 0, 0, 0, 0, 0, false⟩, ⟨3, 0, 1, 0, 5, 0, false⟩, ⟨2, 0, 2, 0, 5, 0, true⟩, ⟨8, 0, 1, 0, 5, 0, false⟩, ⟨6, 0, 3, 0, 5, 0, false⟩]
def kE : List Evt := [⟨1, 0, 0, 5, 0, true, 2⟩, ⟨2, 0, 0, 5, 0, false, 3⟩, ⟨6, 0, 0, 5, 0, false, 4⟩]
theorem kO_check : (checkO kO).1 = 0 := by kernel_rfl
theorem kO_of : ofS kO kL = kD := by kernel_rfl
theorem kD_right : kD.all rightD = true := by kernel_rfl
theorem kD_ev : evL kO kD 0 = kE := by kernel_rfl
theorem prn_small (n : Nat) (h : n < 10) : prnB n = ⟨#[UInt8.ofNat (48 + n)]⟩ := by
  unfold prnB ws.prn
  rw [if_neg (by omega), Int.toNat_natCast, ws.dig_small h]
  rfl
def kS : List UInt8 := [48, 32, 48, 32, 99, 111, 109, 112, 117, 116, 101, 10, 48, 32, 49, 32, 115, 116, 111, 114, 101, 32, 48, 32, 53, 10, 48, 32, 50, 32, 108, 111, 97, 100, 32, 48, 32, 53, 32, 111, 119, 110, 10, 48, 32, 49, 32, 100, 114, 97, 105, 110, 32, 48, 32, 53, 10, 48, 32, 51, 32, 112, 114, 105, 110, 116, 32, 53, 10]
theorem prtL_cons {acc : List UInt8} {d : Did} {l : List Did} {S : ByteArray} (h : lineB d = S) : prtL acc (d :: l) = bif decide ((acc.length : Int) + (S.size : Int) > 4194304) then none else prtL (acc ++ S.data.toList) l := by subst h; rfl
theorem kD_print : prtL [] kD = some kS := by
  have e0 : prnB 0 = ⟨#[48]⟩ := prn_small 0 (by decide)
  have e1 : prnB 1 = ⟨#[49]⟩ := prn_small 1 (by decide)
  have e2 : prnB 2 = ⟨#[50]⟩ := prn_small 2 (by decide)
  have e3 : prnB 3 = ⟨#[51]⟩ := prn_small 3 (by decide)
  have e5 : prnB 5 = ⟨#[53]⟩ := prn_small 5 (by decide)
  have l1 : lineB ⟨1, 0, 0, 0, 0, 0, false⟩ = ⟨#[48, 32, 48, 32, 99, 111, 109, 112, 117, 116, 101, 10]⟩ := by
    show joinB [prnB 0, prnB 0, dword 1] ++ nlB = _
    rw [e0]
    kernel_rfl
  have l2 : lineB ⟨3, 0, 1, 0, 5, 0, false⟩ = ⟨#[48, 32, 49, 32, 115, 116, 111, 114, 101, 32, 48, 32, 53, 10]⟩ := by
    show joinB [prnB 0, prnB 1, dword 3, prnB 0, prnB 5] ++ nlB = _
    rw [e0, e1, e5]
    kernel_rfl
  have l3 : lineB ⟨2, 0, 2, 0, 5, 0, true⟩ = ⟨#[48, 32, 50, 32, 108, 111, 97, 100, 32, 48, 32, 53, 32, 111, 119, 110, 10]⟩ := by
    show joinB [prnB 0, prnB 2, dword 2, prnB 0, prnB 5, ownB] ++ nlB = _
    rw [e0, e2, e5]
    kernel_rfl
  have l4 : lineB ⟨8, 0, 1, 0, 5, 0, false⟩ = ⟨#[48, 32, 49, 32, 100, 114, 97, 105, 110, 32, 48, 32, 53, 10]⟩ := by
    show joinB [prnB 0, prnB 1, dword 8, prnB 0, prnB 5] ++ nlB = _
    rw [e0, e1, e5]
    kernel_rfl
  have l5 : lineB ⟨6, 0, 3, 0, 5, 0, false⟩ = ⟨#[48, 32, 51, 32, 112, 114, 105, 110, 116, 32, 53, 10]⟩ := by
    show joinB [prnB 0, prnB 3, dword 6, prnB 5] ++ nlB = _
    rw [e0, e3, e5]
    kernel_rfl
  show prtL [] [_, _, _, _, _] = _
  rw [prtL_cons l1, prtL_cons l2, prtL_cons l3, prtL_cons l4, prtL_cons l5]
  kernel_rfl
theorem kI_leaf : leafR (kI.map Ins.cells) := code_leaf0 kI
set_option maxRecDepth 100000 in
theorem k_known0 : K 25 [] [] (.ret kO.av) [] := by
  refine Ctr.pk [] hT hmix Tryz.func25 rfl (fun _ _ => by kernel_rfl) rfl fun hok => ?_
  clear hok
  conv => whnf
  refine ⟨[11], ?_⟩
  conv => whnf
  refine ⟨rfl, rfl, by decide, kI_leaf, ?_⟩
  exact ⟨[], rfl, rfl, ⟨⟨rfl, by decide, rfl⟩, .inl rfl, .inl rfl, .inl rfl, ⟨rfl, by decide, rfl⟩, trivial⟩, trivial⟩
/-- a call that is shown a slice of one's own, as its second argument -/
theorem acall.sn2 {P : Program} {m : Mem} {nh f h n : Nat} {x : AV} {xs : List AV} {K : EE} (ars : List AV) (res : AE) (hc : Ctr P f ars [] res [])
    (h5 : cvL m [] [] (seenS [] [h]) (x :: .sl h n :: xs) ars) (h7 : (m h).isSome = true) (h8 : res.lowH 0 = true)
    (hK : K (res.out []) (rdOf m [h]) (callUp [] [h] res [])) : acall P m nh f (x :: .sl h n :: xs) K :=
  acall.gen [] [h] ars [] res [] hc rfl rfl rfl rfl h5 trivial (by simp [h7]) h8 hK
set_option maxRecDepth 100000 in
theorem k_lives : K 8 [] [] (.ret (.tr (tb true))) [] := by
  have hkn := k_known0
  have hof := k_of kO kL kO_check (by decide)
  rw [kO_of] at hof
  have hpr := t_print kD kD_right (by decide)
  rw [kD_print] at hpr
  have hev := t_Events kO kD kO_check kD_right
  rw [kD_ev] at hev
  obtain ⟨S, hS⟩ : ∃ S : ByteArray, S = ⟨kS.toArray⟩ := ⟨_, rfl⟩
  have hpr : K 26 [.tr (didsT kD)] [] (.ret (.tup [.tr (ts S), .tr (ti 0)])) [] := by rw [hS]; exact hpr
  refine Ctr.of hT hmix Tryz.func8 rfl (fun _ _ => by kernel_rfl) rfl fun hok => ?_
  clear hok
  conv => whnf
  refine acall.pure _ (hkn) rfl rfl ?_
  conv => whnf
  refine acall.sn2 _ _ hof ⟨⟨.inl rfl, .inl rfl, .inl rfl, .inl rfl, .inl rfl, trivial⟩, ⟨rfl, by decide, rfl⟩, trivial⟩ rfl rfl ?_
  conv => whnf
  refine ⟨by kernel_rfl, fun _ => ?_⟩
  conv => whnf
  refine acall.pure _ (hpr) rfl rfl fun _ => ?_
  conv => whnf
  refine acall.pure _ (hkn) rfl rfl fun _ => ?_
  conv => whnf
  refine acall.pure _ (hev) rfl rfl fun _ => ?_
  conv => whnf
  refine csplit (fun h => ?_) (fun h => ?_)
  · conv => whnf
    refine ⟨rfl, by decide, by decide, fun row hr => ?_⟩
    cases hr
    conv => whnf
    exact ⟨.inl rfl, trivial⟩
  · rw [hS] at h
    have e : (ByteArray.toList ⟨kS.toArray⟩ == ByteArray.toList ⟨kS.toArray⟩) = true := beq_self_eq_true _
    exact ctf e h
end Go.Proofs.YtcpolpbeimhgfaaGreat.am

namespace Go.Proofs.YtcpolpbeimhgfaaGreat.am
open Go Go.Proofs
theorem evt_get {l : List Evt} {i : Nat} {row : List Tr} (h : (l.map Evt.cells)[i]? = some row) : ∃ d, l[i]? = some d ∧ row = d.cells := by
  rw [List.getElem?_map, Option.map_eq_some_iff] at h
  obtain ⟨d, h1, rfl⟩ := h
  exact ⟨d, h1, rfl⟩
set_option maxRecDepth 100000 in
theorem z_sameEv (l : List Evt) : K 9 [.tr (evtsT l), .tr (evtsT l)] [] (.ret (.tr (tb true))) [] := by
  refine Ctr.of hT hmix Tryz.func9 rfl (fun _ _ => by kernel_rfl) rfl fun hok => ?_
  have hl := (hok.slot 0 rfl).tr.lst.2.1
  have hlm : (l.map Evt.cells).length = l.length := List.length_map ..
  rw [hlm] at hl
  clear hok
  conv => whnf
  refine csplit (fun h => absurd h (by simp)) (fun _ => ?_)
  conv => whnf
  refine LoopL.by (fun i : Nat => ⟨[(0, .tr (evtsT l)), (1, .tr (evtsT l)), (12, .tr (ti (l.length : Int))), (13, .tr (ti i))], [], 10⟩) (fun i => i ≤ l.length) (fun i => l.length - i) 0 [] [] (Sub.mk' rfl ⟨.inl rfl, .inl rfl, .inl (by rw [← hlm]), .inl rfl, trivial⟩ trivial rfl rfl) (Nat.zero_le _) ?_
  rintro i hi -
  conv => whnf
  refine csplit (fun hlt => ?_) (fun hge => ?_)
  · have hlt : i < l.length := by have := of_decide_eq_true hlt; omega
    obtain ⟨d, hd⟩ : ∃ d, l[i]? = some d := ⟨l[i], by simp [hlt]⟩
    conv => whnf
    refine ⟨rfl, (show (0 : Int) ≤ i by omega), (show (i : Int) < (l.map Evt.cells).length by rw [hlm]; omega), fun row hr => ?_⟩
    obtain ⟨d', hd', rfl⟩ := evt_get hr
    obtain rfl : d = d' := Option.some.inj (hd.symm.trans hd')
    clear hr hd'
    obtain ⟨k1, k2, k3, k4, k5, k6, k7⟩ := d
    conv => whnf
    refine ⟨rfl, (show (0 : Int) ≤ i by omega), (show (i : Int) < (l.map Evt.cells).length by rw [hlm]; omega), fun row hr => ?_⟩
    obtain ⟨d', hd', rfl⟩ := evt_get hr
    obtain rfl := Option.some.inj (hd.symm.trans hd')
    clear hr hd'
    conv => whnf
    refine ⟨by kernel_rfl, fun _ => ?_⟩
    conv => whnf
    refine csplit (fun h => absurd h (by simp)) (fun _ => ?_)
    conv => whnf
    exact ⟨i + 1, [], [], Sub.mk' rfl ⟨.inl rfl, .inl rfl, .inl rfl, .inl (ti_succ hlt hl), trivial⟩ trivial rfl rfl, hlt, by omega⟩
  · conv => whnf
    refine ⟨fun _ => ?_, fun h => absurd rfl h⟩
    conv => whnf
    exact ⟨.inl rfl, trivial⟩
set_option maxRecDepth 100000 in
theorem z_EventsC (o : Ob) (l : List Did) (hc0 : (checkO o).1 ≠ 0) : K 7 [o.av, .tr (didsT l)] [] (.ret (.tup [.tr (.v (.slice none 0 0)), .tr (ti (checkO o).1)])) [] := by
  have hc := z_check o
  obtain ⟨memory, shared, locks, buffer, cores⟩ := o
  generalize checkO ⟨memory, shared, locks, buffer, cores⟩ = R at hc hc0 ⊢
  refine Ctr.of hT hmix Tryz.func7 rfl (fun _ _ => by kernel_rfl) rfl fun hok => ?_
  clear hok
  conv => whnf
  refine acall.pure _ (hc) rfl rfl fun _ => ?_
  conv => whnf
  refine csplit (fun h1 => ?_) (fun h1 => ?_)
  · exact absurd (by simpa using h1) hc0
  conv => whnf
  refine csplit (fun h2 => ?_) (fun h2 => ?_)
  · conv => whnf
    exact ⟨⟨.inl rfl, .inl rfl, trivial⟩, trivial⟩
  · exact absurd h2 (by simpa using hc0)
set_option maxRecDepth 100000 in
theorem z_EventsR (o : Ob) (l : List Did) (hc0 : (checkO o).1 = 0) (hr0 : l.all rightD = false) : K 7 [o.av, .tr (didsT l)] [] (.ret (.tup [.tr (.v (.slice none 0 0)), .tr (ti 190)])) [] := by
  have hc := z_check o
  have hr := z_Rights l
  rw [hr0] at hr
  obtain ⟨memory, shared, locks, buffer, cores⟩ := o
  generalize checkO ⟨memory, shared, locks, buffer, cores⟩ = R at hc hc0
  refine Ctr.of hT hmix Tryz.func7 rfl (fun _ _ => by kernel_rfl) rfl fun hok => ?_
  clear hok
  conv => whnf
  refine acall.pure _ (hc) rfl rfl fun _ => ?_
  conv => whnf
  refine csplit (fun h1 => ?_) (fun h1 => ?_)
  · conv => whnf
    refine acall.pure _ (hr) rfl rfl fun _ => ?_
    conv => whnf
    exact ⟨⟨.inl rfl, .inl rfl, trivial⟩, trivial⟩
  · exact absurd h1 (by rw [hc0]; decide)
set_option maxRecDepth 100000 in
set_option maxHeartbeats 1000000 in
theorem z_Events (o : Ob) (l : List Did) (hc0 : (checkO o).1 = 0) (hr0 : l.all rightD = true) : K 7 [o.av, .tr (didsT l)] [] (.ret (.tup [.tr (evtsT (evL o l 0)), .tr (ti 0)])) [] := by
  have hc := z_check o
  have hr := z_Rights l
  rw [hr0] at hr
  have hev := z_event o
  generalize hEV : evL o l 0 = EV
  have hdr := fun {j : Nat} {d : Did} (h : l[j]? = some d) => evL_drop (o := o) h
  have hdR := evD_R o
  generalize hO : o = o' at hEV hdr hdR
  subst hO
  obtain ⟨memory, shared, locks, buffer, cores⟩ := o
  generalize hR : checkO ⟨memory, shared, locks, buffer, cores⟩ = R at hc hc0
  have hlm : (l.map Did.cells).length = l.length := List.length_map ..
  refine Ctr.of hT hmix Tryz.func7 rfl (fun _ _ => by kernel_rfl) rfl fun hok => ?_
  have hdk : ∀ d ∈ l, 0 ≤ d.kind := fun d hd => by
    have h2 := ((hok.slot 1 rfl).tr.lst.2.2 d.cells (List.mem_map_of_mem hd)).2 _ (List.mem_cons_self ..)
    exact h2.u8.1
  have hlb := (hok.slot 1 rfl).tr.lst.1
  rw [hlm] at hlb
  clear hok
  have hl63 : l.length ≤ 9223372036854775807 := by omega
  conv => whnf
  refine acall.pure _ (hc) rfl rfl fun _ => ?_
  conv => whnf
  refine csplit (fun h1 => ?_) (fun h1 => ?_)
  case refine_2 => exact absurd h1 (by rw [hc0]; decide)
  conv => whnf
  refine acall.pure _ (hr) rfl rfl fun _ => ?_
  conv => whnf
  refine csplit (fun h2 => ?_) (fun h2 => ?_)
  · exact absurd h2 (by rw [hc0]; decide)
  conv => whnf
  refine LoopL.by (fun x : List Evt × Nat => ⟨[(2, .ptr 0 0), (9, .sl 1 x.1.length), (29, .tr (didsT l)), (30, .tr (ti (l.length : Int))), (31, .tr (ti x.2))], [(0, .cells 25 [.tr (intsT memory), .tr (ti shared), .tr (ti locks), .tr (ti buffer), .tr (coresT cores)]), (1, evV x.1)], 10⟩)
    (fun x => x.2 ≤ l.length ∧ x.1.length ≤ x.2 ∧ EV = x.1 ++ evL ⟨memory, shared, locks, buffer, cores⟩ (l.drop x.2) x.2) (fun x => l.length - x.2) ([], 0) [_] [1]
    (Sub.mk' rfl ⟨⟨rfl, rfl⟩, ⟨rfl, rfl, rfl, rfl⟩, .inl rfl, .inl (by rw [← hlm]), .inl rfl, trivial⟩ ⟨⟨rfl, .inl rfl, .inl rfl, .inl rfl, .inl rfl, .inl rfl, trivial⟩, ⟨rfl, _, _, _, rfl, by decide⟩, trivial⟩ rfl rfl)
    ⟨Nat.zero_le _, Nat.le_refl _, hEV.symm⟩ ?_
  rintro ⟨out, j⟩ ⟨hj, hol, hEj⟩ -
  simp only at hj hol hEj
  conv => whnf
  refine csplit (fun hlt => ?_) (fun hge => ?_)
  · have hlt : j < l.length := by have : ((j : Nat) : Int) < (l.length : Int) := of_decide_eq_true hlt; omega
    obtain ⟨d, hd⟩ : ∃ x, l[j]? = some x := ⟨l[j], by simp [hlt]⟩
    rw [hdr hd, hdR] at hEj
    have hmem := List.mem_of_getElem? hd
    have hevd := hev d j (List.all_eq_true.1 hr0 d hmem) (hdk d hmem)
    generalize evOf ⟨memory, shared, locks, buffer, cores⟩ d j = V at hEj hevd
    conv => whnf
    refine ⟨rfl, (show (0 : Int) ≤ j by omega), (show (j : Int) < (l.map Did.cells).length by rw [hlm]; omega), fun row hr => ?_⟩
    obtain ⟨d', hd', rfl⟩ := did_get hr
    obtain rfl : d = d' := Option.some.inj (hd.symm.trans hd')
    clear hr hd'
    obtain ⟨ek, ec, et, ew, ep, en, ea⟩ := V
    conv => whnf
    refine acall.pure _ (hevd) rfl rfl fun _ => ?_
    conv => whnf
    refine csplit (fun h3 => ?_) (fun h3 => ?_)
    · replace h3 : (ek != 0) = true := h3
      simp only [h3, cond_true] at hEj
      have hda : (out.map Evt.cells).take out.length ++ [[tu ek, ti ec, ti et, ti ew, ti ep, tb en, ti ea]] = (out ++ [Evt.mk ek ec et ew ep en ea]).map Evt.cells := by rw [List.take_of_length_le (by simp), List.map_append]; rfl
      conv => whnf
      refine ⟨rfl, rfl, rfl, (by rw [List.length_map]; exact Nat.le_refl _), (show (out.length + 1) * 56 ≤ 150000000000000 by omega), fun q hq => ?_, ?_⟩
      · cases hq with
        | head => exact Nat.ne_of_beq_eq_false rfl
        | tail _ h => cases h
      conv => whnf
      exact ⟨(out ++ [Evt.mk ek ec et ew ep en ea], j + 1), [0, _], [], Sub.mk' rfl ⟨⟨rfl, rfl⟩, ⟨rfl, by simp⟩, .inl rfl, .inl rfl, .inl (ti_succ hlt hl63), trivial⟩ ⟨⟨rfl, .inl rfl, .inl rfl, .inl rfl, .inl rfl, .inl rfl, trivial⟩, ⟨rfl, rfl, rfl, hda⟩, trivial⟩ rfl rfl, ⟨hlt, by show (out ++ _).length ≤ j + 1; simp; omega, by rw [hEj, List.append_assoc]⟩, by show l.length - (j + 1) < l.length - j; omega⟩
    · replace h3 : (ek != 0) = false := h3
      simp only [h3, cond_false] at hEj
      conv => whnf
      exact ⟨(out, j + 1), [0, 1], [], Sub.mk' rfl ⟨⟨rfl, rfl⟩, ⟨rfl, rfl⟩, .inl rfl, .inl rfl, .inl (ti_succ hlt hl63), trivial⟩ ⟨⟨rfl, .inl rfl, .inl rfl, .inl rfl, .inl rfl, .inl rfl, trivial⟩, ⟨rfl, rfl, rfl, rfl⟩, trivial⟩ rfl rfl, ⟨hlt, by show out.length ≤ j + 1; omega, by rw [hEj]; rfl⟩, by show l.length - (j + 1) < l.length - j; omega⟩
  · have hge : j = l.length := by have : ¬ ((j : Nat) : Int) < (l.length : Int) := of_decide_eq_false hge; omega
    subst hge
    rw [List.drop_length] at hEj
    have hEj : EV = out := by rw [hEj]; exact List.append_nil _
    subst hEj
    conv => whnf
    refine ⟨fun _ => ?_, fun h => absurd rfl h⟩
    conv => whnf
    exact ⟨⟨⟨rfl, by rw [List.length_map]; exact Nat.le_refl _, by rw [List.take_of_length_le (by simp)]⟩, .inl rfl, trivial⟩, trivial⟩
/-! the law -/
set_option maxRecDepth 100000 in
theorem kEvents (o : Ob) (l : List Did) : K 3 [o.av, .tr (didsT l)] [] (.ret (.tr (tb true))) [] := by
  have hlv := k_lives
  by_cases hc : (checkO o).1 = 0
  · cases hr : l.all rightD with
    | true =>
      have h1 := t_Events o l hc hr
      have h2 := z_Events o l hc hr
      have h3 := z_sameEv (evL o l 0)
      generalize evL o l 0 = E at h1 h2 h3
      obtain ⟨memory, shared, locks, buffer, cores⟩ := o
      refine Ctr.of hT hmix Tryz.func3 rfl (fun _ _ => by kernel_rfl) rfl fun hok => ?_
      clear hok
      conv => whnf
      refine acall.pure _ (h1) rfl rfl fun _ => ?_
      conv => whnf
      refine acall.pure _ (h2) rfl rfl fun _ => ?_
      conv => whnf
      refine acall.pure _ (hlv) rfl rfl fun _ => ?_
      conv => whnf
      refine acall.pure _ (h3) rfl rfl fun _ => ?_
      conv => whnf
      exact ⟨.inl rfl, trivial⟩
    | false =>
      have h1 := t_EventsR o l hc hr
      have h2 := z_EventsR o l hc hr
      have h3 := z_sameEv []
      obtain ⟨memory, shared, locks, buffer, cores⟩ := o
      refine Ctr.of hT hmix Tryz.func3 rfl (fun _ _ => by kernel_rfl) rfl fun hok => ?_
      clear hok
      conv => whnf
      refine acall.pure _ (h1) rfl rfl fun _ => ?_
      conv => whnf
      refine acall.pure _ (h2) rfl rfl fun _ => ?_
      conv => whnf
      refine acall.pure _ (hlv) rfl rfl fun _ => ?_
      conv => whnf
      refine acall.gen [] [] _ _ _ _ h3 rfl rfl rfl rfl ⟨.inr ⟨rfl, _, _, rfl⟩, .inr ⟨rfl, _, _, rfl⟩, trivial⟩ trivial rfl rfl fun _ => ?_
      conv => whnf
      exact ⟨.inl rfl, trivial⟩
  · have h1 := t_EventsC o l hc
    have h2 := z_EventsC o l hc
    have h3 := z_sameEv []
    generalize (checkO o).1 = e at h1 h2
    obtain ⟨memory, shared, locks, buffer, cores⟩ := o
    refine Ctr.of hT hmix Tryz.func3 rfl (fun _ _ => by kernel_rfl) rfl fun hok => ?_
    clear hok
    conv => whnf
    refine acall.pure _ (h1) rfl rfl fun _ => ?_
    conv => whnf
    refine acall.pure _ (h2) rfl rfl fun _ => ?_
    conv => whnf
    refine acall.pure _ (hlv) rfl rfl fun _ => ?_
    conv => whnf
    refine acall.gen [] [] _ _ _ _ h3 rfl rfl rfl rfl ⟨.inr ⟨rfl, _, _, rfl⟩, .inr ⟨rfl, _, _, rfl⟩, trivial⟩ trivial rfl rfl fun _ => ?_
    conv => whnf
    exact ⟨.inl (congrArg tb (by simp)), trivial⟩
end Go.Proofs.YtcpolpbeimhgfaaGreat.am

namespace Go.Proofs.YtcpolpbeimhgfaaGreat.am
open Go Go.Proofs
abbrev stB (s : Mst) : Blk := .cells 72 [.tr (intsT s.o.memory), .tr (ti s.o.shared), .tr (ti s.o.locks), .tr (ti s.o.buffer), .tr (coresT s.o.cores), .tr (csT s.cores), .tr (intsT s.mem), .tr (prT s.prints)]
theorem ofP_cons2 (p : Did × Int) (l : List (Did × Int)) : ofP (p :: l) = (bif keepB p then [p.1] else []) ++ ofP l := by
  unfold ofP
  rw [List.filter_cons]
  cases keepB p <;> rfl
set_option maxRecDepth 100000 in
set_option maxHeartbeats 1000000 in
theorem z_ofE (o : Ob) (l : List Stp) (h : playE o l ≠ 0) : K 12 [o.av, .tr (stepsT l)] [] (.ret (.tup [.tr (.v (.slice none 0 0)), .tr (ti (playE o l))])) [] := by
  have hc := z_check o
  have hck : playE o l = bif (checkO o).1 == 0 && decide (((l.map Stp.cells).length : Int) > 1048576) then 3 else (checkO o).1 := by unfold playE; rw [List.length_map]
  generalize playE o l = E at h hck
  obtain ⟨memory, shared, locks, buffer, cores⟩ := o
  generalize checkO ⟨memory, shared, locks, buffer, cores⟩ = R at hc hck
  refine Ctr.of hT hmix Tryz.func12 rfl (fun _ _ => by kernel_rfl) rfl fun hok => ?_
  clear hok
  conv => whnf
  refine acall.pure _ (hc) rfl rfl fun _ => ?_
  conv => whnf
  refine csplit (fun h1 => ?_) (fun h1 => ?_)
  · replace h1 : (R.1 == 0) = true := h1
    rw [h1] at hck
    conv => whnf
    refine csplit (fun h2 => ?_) (fun h2 => ?_)
    · replace h2 : decide (((l.map Stp.cells).length : Int) > 1048576) = true := h2
      rw [h2] at hck
      have hck : E = 3 := hck
      conv => whnf
      exact ⟨⟨.inl rfl, .inl (congrArg ti hck.symm), trivial⟩, trivial⟩
    · replace h2 : decide (((l.map Stp.cells).length : Int) > 1048576) = false := h2
      rw [h2] at hck
      have hck : E = R.1 := hck
      exact absurd (hck.trans (by simpa using h1)) h
  · replace h1 : (R.1 == 0) = false := h1
    rw [h1] at hck
    have hck : E = R.1 := hck
    conv => whnf
    refine csplit (fun h2 => ?_) (fun h2 => ?_)
    · conv => whnf
      exact ⟨⟨.inl rfl, .inl (congrArg ti hck.symm), trivial⟩, trivial⟩
    · exact absurd h2 (by rw [hck] at h; simpa using h)
set_option maxRecDepth 100000 in
set_option maxHeartbeats 2000000 in
theorem z_of (o : Ob) (l : List Stp) (h : (checkO o).1 = 0) (hlen : l.length ≤ 1048576) : K 12 [o.av, .tr (stepsT l)] [] (.ret (.tup [.tr (didsT (ofS o l)), .tr (ti 0)])) [] := by
  have hg := check_good h
  have hc := z_check o
  have hn := z_new o hg.mem hg.cores
  have hI0 := VInv.new h
  unfold ofS
  generalize hs0 : newM o = s0 at hI0 hn
  generalize hR : ofP (playL s0 l) = R
  have hp0 : s0.prints.length = 0 := by rw [← hs0]; rfl
  clear hs0 hg
  obtain ⟨memory, shared, locks, buffer, cores⟩ := o
  generalize checkO ⟨memory, shared, locks, buffer, cores⟩ = C at hc h
  have hlm : (l.map Stp.cells).length = l.length := List.length_map ..
  have hl63 : l.length ≤ 9223372036854775807 := by omega
  refine Ctr.of hT hmix Tryz.func12 rfl (fun _ _ => by kernel_rfl) rfl fun hok => ?_
  clear hok
  conv => whnf
  refine acall.pure _ (hc) rfl rfl fun _ => ?_
  conv => whnf
  refine csplit (fun h1 => ?_) (fun h1 => ?_)
  case refine_2 => exact absurd h1 (by rw [h]; decide)
  conv => whnf
  refine csplit (fun h2 => ?_) (fun h2 => ?_)
  · have : decide (((l.map Stp.cells).length : Int) > 1048576) = true := h2
    rw [hlm] at this
    have := of_decide_eq_true this
    omega
  conv => whnf
  refine csplit (fun h3 => ?_) (fun h3 => ?_)
  · exact absurd h3 (by rw [h]; decide)
  conv => whnf
  refine acall.pure _ (hn) rfl rfl fun _ => ?_
  conv => whnf
  refine LoopL.by (fun x : Mst × (List Did × Nat) => ⟨[(1, .tr (stepsT l)), (9, .ptr 0 0), (10, .sl 1 x.2.1.length), (34, .tr (stepsT l)), (35, .tr (ti (l.length : Int))), (36, .tr (ti x.2.2))], [(0, stB x.1), (1, diV x.2.1)], 10⟩)
    (fun x => VInv x.1 ∧ x.2.2 ≤ l.length ∧ x.1.prints.length ≤ x.2.2 ∧ x.2.1.length ≤ x.2.2 ∧ R = x.2.1 ++ ofP (playL x.1 (l.drop x.2.2))) (fun x => l.length - x.2.2) (s0, [], 0) [_] [1]
    (Sub.mk' rfl ⟨.inl rfl, ⟨rfl, rfl⟩, ⟨rfl, rfl, rfl, rfl⟩, .inl rfl, .inl (by rw [← hlm]), .inl rfl, trivial⟩ ⟨⟨rfl, .inl rfl, .inl rfl, .inl rfl, .inl rfl, .inl rfl, .inl rfl, .inl rfl, .inl rfl, trivial⟩, ⟨rfl, _, _, _, rfl, by decide⟩, trivial⟩ rfl rfl)
    ⟨hI0, Nat.zero_le _, Nat.le_of_eq hp0, Nat.le_refl _, hR.symm⟩ ?_
  rintro ⟨s, out, j⟩ ⟨hI, hj, hp, hol, hRj⟩ -
  simp only at hI hj hp hol hRj
  conv => whnf
  refine csplit (fun hlt => ?_) (fun hge => ?_)
  · have hlt : j < l.length := by have : ((j : Nat) : Int) < (l.length : Int) := of_decide_eq_true hlt; omega
    obtain ⟨x, hx⟩ : ∃ x, l[j]? = some x := ⟨l[j], by simp [hlt]⟩
    rw [playL_drop hx, ofP_cons2] at hRj
    have hst := z_stp s hI (by omega) x.kind x.core
    have hIn := stepS_inv hI x.kind x.core
    have hpn := stepS_prints s x.kind x.core
    generalize stepS s x.kind x.core = S at hst hIn hpn hRj
    obtain ⟨s', d, e⟩ := S
    simp only at hst hIn hpn hRj
    conv => whnf
    refine ⟨rfl, (show (0 : Int) ≤ j by omega), (show (j : Int) < (l.map Stp.cells).length by rw [hlm]; omega), fun row hr => ?_⟩
    obtain ⟨x', hx', rfl⟩ := stp_get hr
    obtain rfl : x = x' := Option.some.inj (hx.symm.trans hx')
    clear hr hx'
    obtain ⟨xk, xc⟩ := x
    obtain ⟨dk, dc, da, dd, dw, dp, dn⟩ := d
    conv => whnf
    refine acall.pure _ (hst) rfl rfl fun _ => ?_
    conv => whnf
    have skip : keepB (⟨dk, dc, da, dd, dw, dp, dn⟩, e) = false → R = out ++ ofP (playL s' (l.drop (j + 1))) := fun q => by rw [hRj, q]; rfl
    refine csplit (fun h1 => ?_) (fun h1 => ?_)
    · replace h1 : (e == 0) = true := h1
      conv => whnf
      refine csplit (fun h2 => ?_) (fun h2 => ?_)
      · replace h2 : (dk != 0) = true := h2
        have hk : keepB (⟨dk, dc, da, dd, dw, dp, dn⟩, e) = true := by show ((e == 0) && (dk != 0)) = true; rw [h1, h2]; rfl
        rw [hk] at hRj
        have hRj : R = out ++ ([⟨dk, dc, da, dd, dw, dp, dn⟩] ++ ofP (playL s' (l.drop (j + 1)))) := hRj
        have hda : (out.map Did.cells).take out.length ++ [[tu dk, ti dc, ti da, ti dd, ti dw, ti dp, tb dn]] = (out ++ [Did.mk dk dc da dd dw dp dn]).map Did.cells := by rw [List.take_of_length_le (by simp), List.map_append]; rfl
        conv => whnf
        refine ⟨rfl, rfl, rfl, (by rw [List.length_map]; exact Nat.le_refl _), (show (out.length + 1) * 56 ≤ 150000000000000 by omega), fun q hq => ?_, ?_⟩
        · cases hq with
          | head => exact Nat.ne_of_beq_eq_false rfl
          | tail _ h => cases h
        conv => whnf
        exact ⟨(s', out ++ [Did.mk dk dc da dd dw dp dn], j + 1), [0, _], [], Sub.mk' rfl ⟨.inl rfl, ⟨rfl, rfl⟩, ⟨rfl, by simp⟩, .inl rfl, .inl rfl, .inl (ti_succ hlt hl63), trivial⟩ ⟨⟨rfl, .inl rfl, .inl rfl, .inl rfl, .inl rfl, .inl rfl, .inl rfl, .inl rfl, .inl rfl, trivial⟩, ⟨rfl, rfl, rfl, hda⟩, trivial⟩ rfl rfl, ⟨hIn, hlt, by show s'.prints.length ≤ j + 1; omega, by show (out ++ _).length ≤ j + 1; simp; omega, by rw [hRj, List.append_assoc]⟩, by show l.length - (j + 1) < l.length - j; omega⟩
      · replace h2 : (dk != 0) = false := h2
        have hk : keepB (⟨dk, dc, da, dd, dw, dp, dn⟩, e) = false := by show ((e == 0) && (dk != 0)) = false; rw [h2, Bool.and_false]
        have hsn := skip hk
        conv => whnf
        exact ⟨(s', out, j + 1), [0, 1], [], Sub.mk' rfl ⟨.inl rfl, ⟨rfl, rfl⟩, ⟨rfl, rfl⟩, .inl rfl, .inl rfl, .inl (ti_succ hlt hl63), trivial⟩ ⟨⟨rfl, .inl rfl, .inl rfl, .inl rfl, .inl rfl, .inl rfl, .inl rfl, .inl rfl, .inl rfl, trivial⟩, ⟨rfl, rfl, rfl, rfl⟩, trivial⟩ rfl rfl, ⟨hIn, hlt, by show s'.prints.length ≤ j + 1; omega, by show out.length ≤ j + 1; omega, hsn⟩, by show l.length - (j + 1) < l.length - j; omega⟩
    · replace h1 : (e == 0) = false := h1
      have hk : keepB (⟨dk, dc, da, dd, dw, dp, dn⟩, e) = false := by show ((e == 0) && (dk != 0)) = false; rw [h1, Bool.false_and]
      have hsn := skip hk
      conv => whnf
      exact ⟨(s', out, j + 1), [0, 1], [], Sub.mk' rfl ⟨.inl rfl, ⟨rfl, rfl⟩, ⟨rfl, rfl⟩, .inl rfl, .inl rfl, .inl (ti_succ hlt hl63), trivial⟩ ⟨⟨rfl, .inl rfl, .inl rfl, .inl rfl, .inl rfl, .inl rfl, .inl rfl, .inl rfl, .inl rfl, trivial⟩, ⟨rfl, rfl, rfl, rfl⟩, trivial⟩ rfl rfl, ⟨hIn, hlt, by show s'.prints.length ≤ j + 1; omega, by show out.length ≤ j + 1; omega, hsn⟩, by show l.length - (j + 1) < l.length - j; omega⟩
  · have hge : j = l.length := by have : ¬ ((j : Nat) : Int) < (l.length : Int) := of_decide_eq_false hge; omega
    subst hge
    rw [List.drop_length] at hRj
    have hRj : R = out := hRj.trans (List.append_nil _)
    subst hRj
    conv => whnf
    refine ⟨fun _ => ?_, fun h => absurd rfl h⟩
    conv => whnf
    exact ⟨⟨⟨rfl, by rw [List.length_map]; exact Nat.le_refl _, by rw [List.take_of_length_le (by simp)]⟩, .inl rfl, trivial⟩, trivial⟩
end Go.Proofs.YtcpolpbeimhgfaaGreat.am

namespace Go.Proofs.YtcpolpbeimhgfaaGreat.am
open Go Go.Proofs
set_option maxRecDepth 100000 in
theorem z_same (l : List Did) : K 13 [.tr (didsT l), .tr (didsT l)] [] (.ret (.tr (tb true))) [] := by
  refine Ctr.of hT hmix Tryz.func13 rfl (fun _ _ => by kernel_rfl) rfl fun hok => ?_
  have hl := (hok.slot 0 rfl).tr.lst.2.1
  have hlm : (l.map Did.cells).length = l.length := List.length_map ..
  rw [hlm] at hl
  clear hok
  conv => whnf
  refine csplit (fun h => absurd h (by simp)) (fun _ => ?_)
  conv => whnf
  refine LoopL.by (fun i : Nat => ⟨[(0, .tr (didsT l)), (1, .tr (didsT l)), (12, .tr (ti (l.length : Int))), (13, .tr (ti i))], [], 10⟩) (fun i => i ≤ l.length) (fun i => l.length - i) 0 [] [] (Sub.mk' rfl ⟨.inl rfl, .inl rfl, .inl (by rw [← hlm]), .inl rfl, trivial⟩ trivial rfl rfl) (Nat.zero_le _) ?_
  rintro i hi -
  conv => whnf
  refine csplit (fun hlt => ?_) (fun hge => ?_)
  · have hlt : i < l.length := by have := of_decide_eq_true hlt; omega
    obtain ⟨d, hd⟩ : ∃ d, l[i]? = some d := ⟨l[i], by simp [hlt]⟩
    conv => whnf
    refine ⟨rfl, (show (0 : Int) ≤ i by omega), (show (i : Int) < (l.map Did.cells).length by rw [hlm]; omega), fun row hr => ?_⟩
    obtain ⟨d', hd', rfl⟩ := did_get hr
    obtain rfl : d = d' := Option.some.inj (hd.symm.trans hd')
    clear hr hd'
    obtain ⟨k1, k2, k3, k4, k5, k6, k7⟩ := d
    conv => whnf
    refine ⟨rfl, (show (0 : Int) ≤ i by omega), (show (i : Int) < (l.map Did.cells).length by rw [hlm]; omega), fun row hr => ?_⟩
    obtain ⟨d', hd', rfl⟩ := did_get hr
    obtain rfl := Option.some.inj (hd.symm.trans hd')
    clear hr hd'
    conv => whnf
    refine ⟨by kernel_rfl, fun _ => ?_⟩
    conv => whnf
    refine csplit (fun h => absurd h (by simp)) (fun _ => ?_)
    conv => whnf
    exact ⟨i + 1, [], [], Sub.mk' rfl ⟨.inl rfl, .inl rfl, .inl rfl, .inl (ti_succ hlt hl), trivial⟩ trivial rfl rfl, hlt, by omega⟩
  · conv => whnf
    refine ⟨fun _ => ?_, fun h => absurd rfl h⟩
    conv => whnf
    exact ⟨.inl rfl, trivial⟩
end Go.Proofs.YtcpolpbeimhgfaaGreat.am

namespace Go.Proofs.YtcpolpbeimhgfaaGreat.am
open Go Go.Proofs
set_option maxRecDepth 100000 in
set_option maxHeartbeats 4000000 in
theorem k_ofV (o : Ob) (l : List Stp) (h : (checkO o).1 = 0) (hlen : l.length ≤ 1048576) : K 10 [o.av, .tr (stepsT l)] [] (.ret (.tup [.sl 0 (ofS o l).length, .tr (ti 0)])) [some (diV (ofS o l))] := by
  have hp := k_play o l h hlen
  have hpl := playL_len (newM o) l
  unfold ofS
  generalize playL (newM o) l = pl at hp hpl
  refine Ctr.new [] hT hmix Tryz.func10 rfl (fun _ _ => by kernel_rfl) rfl fun hok => ?_
  clear hok
  obtain ⟨memory, shared, locks, buffer, cores⟩ := o
  have hlm : ((pl.map (·.1)).map Did.cells).length = pl.length := by simp
  have hl63 : pl.length ≤ 9223372036854775807 := by omega
  generalize hD : pl.map (·.1) = D at hp hlm
  generalize hE : pl.map (·.2) = E at hp
  have hEm : (E.map irow).length = pl.length := by rw [← hE]; simp
  conv => whnf
  refine acall.pure _ (hp) rfl rfl fun _ => ?_
  conv => whnf
  refine LoopL.by (fun x : Nat × List Did => ⟨[(6, .tr (didsT D)), (7, .tr (intsT E)), (9, .sl 0 x.2.length), (22, .tr (didsT D)), (23, .tr (ti (pl.length : Int))), (24, .tr (ti x.1))], [(0, diV x.2)], 10⟩)
    (fun x => x.1 ≤ pl.length ∧ x.2 = ofP (pl.take x.1) ∧ x.2.length ≤ x.1) (fun x => pl.length - x.1) (0, []) [] [0]
    (Sub.mk' rfl ⟨.inl rfl, .inl rfl, ⟨rfl, rfl, rfl, rfl⟩, .inl rfl, .inl (by rw [← hlm]), .inl rfl, trivial⟩ ⟨⟨rfl, _, _, _, rfl, by decide⟩, trivial⟩ rfl rfl) ⟨Nat.zero_le _, rfl, Nat.le_refl _⟩ ?_
  rintro ⟨j, out⟩ ⟨hj, ho, hol⟩ -
  simp only at hj ho hol
  conv => whnf
  refine csplit (fun hlt => ?_) (fun hge => ?_)
  · have hlt : j < pl.length := by have : ((j : Nat) : Int) < (pl.length : Int) := of_decide_eq_true hlt; omega
    obtain ⟨p, hp⟩ : ∃ x, pl[j]? = some x := ⟨pl[j], by simp [hlt]⟩
    have hsn := ofP_snoc (pl.take j) p
    rw [← take_succ' hp, ← ho] at hsn
    have hnl := ofP_len (pl.take (j + 1))
    rw [List.length_take] at hnl
    have hDj : D[j]? = some p.1 := by rw [← hD, List.getElem?_map, hp]; rfl
    have hEj : E[j]? = some p.2 := by rw [← hE, List.getElem?_map, hp]; rfl
    obtain ⟨d, e⟩ := p
    simp only at hsn hDj hEj
    conv => whnf
    refine ⟨rfl, (show (0 : Int) ≤ j by omega), (show (j : Int) < (D.map Did.cells).length by omega), fun row hr => ?_⟩
    obtain ⟨d', hd', rfl⟩ := did_get hr
    obtain rfl : d = d' := Option.some.inj (hDj.symm.trans hd')
    clear hr hd'
    obtain ⟨dk, dc, da, dd, dw, dp, dn⟩ := d
    conv => whnf
    refine ⟨rfl, (show (0 : Int) ≤ j by omega), (show (j : Int) < (E.map irow).length by omega), fun row hr => ?_⟩
    obtain ⟨e', he', rfl⟩ := int_get hr
    obtain rfl : e = e' := Option.some.inj (hEj.symm.trans he')
    clear hr he'
    conv => whnf
    have skip : keepB (⟨dk, dc, da, dd, dw, dp, dn⟩, e) = false → ofP (pl.take (j + 1)) = out := fun q => by rw [hsn, q]; exact List.append_nil _
    refine csplit (fun h1 => ?_) (fun h1 => ?_)
    · replace h1 : (e == 0) = true := h1
      conv => whnf
      refine csplit (fun h2 => ?_) (fun h2 => ?_)
      · replace h2 : (dk != 0) = true := h2
        have hk : keepB (⟨dk, dc, da, dd, dw, dp, dn⟩, e) = true := by show ((e == 0) && (dk != 0)) = true; rw [h1, h2]; rfl
        rw [hk] at hsn
        have hsn : ofP (pl.take (j + 1)) = out ++ [⟨dk, dc, da, dd, dw, dp, dn⟩] := hsn
        have hda : (out.map Did.cells).take out.length ++ [[tu dk, ti dc, ti da, ti dd, ti dw, ti dp, tb dn]] = (ofP (pl.take (j + 1))).map Did.cells := by rw [hsn, List.take_of_length_le (by simp), List.map_append]; rfl
        have hll : (ofP (pl.take (j + 1))).length = out.length + 1 := by rw [hsn]; simp
        conv => whnf
        refine ⟨rfl, rfl, rfl, (by rw [List.length_map]; exact Nat.le_refl _), (show (out.length + 1) * 56 ≤ 150000000000000 by omega), fun q hq => ?_, ?_⟩
        · cases hq with
          | head => exact Nat.ne_of_beq_eq_false rfl
          | tail _ h => cases h
        conv => whnf
        exact ⟨(j + 1, ofP (pl.take (j + 1))), [_], [], Sub.mk' rfl ⟨.inl rfl, .inl rfl, ⟨rfl, hll.symm⟩, .inl rfl, .inl rfl, .inl (ti_succ hlt hl63), trivial⟩ ⟨⟨rfl, rfl, rfl, hda⟩, trivial⟩ rfl rfl, ⟨hlt, rfl, by show (ofP (pl.take (j + 1))).length ≤ j + 1; omega⟩, by show pl.length - (j + 1) < pl.length - j; omega⟩
      · replace h2 : (dk != 0) = false := h2
        have hk : keepB (⟨dk, dc, da, dd, dw, dp, dn⟩, e) = false := by show ((e == 0) && (dk != 0)) = false; rw [h2, Bool.and_false]
        have hsn := skip hk
        conv => whnf
        exact ⟨(j + 1, out), [0], [], Sub.mk' rfl ⟨.inl rfl, .inl rfl, ⟨rfl, rfl⟩, .inl rfl, .inl rfl, .inl (ti_succ hlt hl63), trivial⟩ ⟨⟨rfl, rfl, rfl, rfl⟩, trivial⟩ rfl rfl, ⟨hlt, hsn.symm, by show out.length ≤ j + 1; omega⟩, by show pl.length - (j + 1) < pl.length - j; omega⟩
    · replace h1 : (e == 0) = false := h1
      have hk : keepB (⟨dk, dc, da, dd, dw, dp, dn⟩, e) = false := by show ((e == 0) && (dk != 0)) = false; rw [h1, Bool.false_and]
      have hsn := skip hk
      conv => whnf
      exact ⟨(j + 1, out), [0], [], Sub.mk' rfl ⟨.inl rfl, .inl rfl, ⟨rfl, rfl⟩, .inl rfl, .inl rfl, .inl (ti_succ hlt hl63), trivial⟩ ⟨⟨rfl, rfl, rfl, rfl⟩, trivial⟩ rfl rfl, ⟨hlt, hsn.symm, by show out.length ≤ j + 1; omega⟩, by show pl.length - (j + 1) < pl.length - j; omega⟩
  · have hge : j = pl.length := by have : ¬ ((j : Nat) : Int) < (pl.length : Int) := of_decide_eq_false hge; omega
    subst hge
    rw [List.take_length] at ho
    subst ho
    conv => whnf
    refine ⟨fun _ => ?_, fun h => absurd rfl h⟩
    conv => whnf
    exact ⟨[0], rfl, rfl, ⟨⟨rfl, rfl⟩, .inl rfl, trivial⟩, ⟨rfl, rfl, rfl, rfl⟩, trivial⟩
set_option maxRecDepth 100000 in
set_option maxHeartbeats 4000000 in
theorem t_stepsV (l : List Did) (h : l.all rightD = true) : K 11 [.tr (didsT l)] [] (.ret (.tup [.sl 0 l.length, .tr (ti 0)])) [some (.vec 44 2 16 ((l.map stepD).map Stp.cells))] := by
  have hr := t_right l
  rw [h] at hr
  refine Ctr.new [] hT hmix Tryz.func11 rfl (fun _ _ => by kernel_rfl) rfl fun hok => ?_
  obtain ⟨hB, hl, _⟩ := (hok.slot 0 rfl).tr.lst
  rw [List.length_map] at hl hB
  clear hok
  have hlm : (l.map Did.cells).length = l.length := List.length_map ..
  conv => whnf
  refine acall.pure _ (hr) rfl rfl fun _ => ?_
  conv => whnf
  refine LoopL.by (fun i : Nat => ⟨[(4, .sl 0 i), (10, .tr (didsT l)), (11, .tr (ti (l.length : Int))), (12, .tr (ti i))], [(0, .vec 44 2 16 (((l.map stepD).map Stp.cells).take i))], 10⟩)
    (fun i => i ≤ l.length) (fun i => l.length - i) 0 [] [0] (Sub.mk' rfl ⟨⟨rfl, rfl, rfl, rfl⟩, .inl rfl, .inl (by rw [← hlm]), .inl rfl, trivial⟩ ⟨⟨rfl, _, _, _, rfl, by decide⟩, trivial⟩ rfl rfl) (Nat.zero_le _) ?_
  rintro i hi -
  conv => whnf
  refine csplit (fun hlt => ?_) (fun hge => ?_)
  · have hlt : i < l.length := by have := of_decide_eq_true hlt; omega
    obtain ⟨d, hd⟩ : ∃ d, l[i]? = some d := ⟨l[i], by simp [hlt]⟩
    have hs : ((l.map stepD).map Stp.cells)[i]? = some (stepD d).cells := by rw [List.getElem?_map, List.getElem?_map, hd]; rfl
    have hsn := take_succ' hs
    have hl2 : ((l.map stepD).map Stp.cells).length = l.length := by simp
    generalize (l.map stepD).map Stp.cells = S at hs hsn hl2
    conv => whnf
    refine ⟨rfl, (show (0 : Int) ≤ i by omega), (show (i : Int) < (l.map Did.cells).length by rw [hlm]; omega), fun row hr => ?_⟩
    obtain ⟨d', hd', rfl⟩ := did_get hr
    obtain rfl : d = d' := Option.some.inj (hd.symm.trans hd')
    clear hr hd'
    have hso := k_stepOf d
    rw [stepD_cells] at hsn
    obtain ⟨dk, dc, da, dd, dw, dp, dn⟩ := d
    conv => whnf
    refine acall.pure _ (hso) rfl rfl fun _ => ?_
    conv => whnf
    refine ⟨rfl, rfl, rfl, (by rw [List.length_take]; omega), (show (i + 1) * 16 ≤ 150000000000000 by omega), fun q hq => ?_, ?_⟩
    · cases hq with
      | head => exact Nat.ne_of_beq_eq_false rfl
      | tail _ h => cases h
    conv => whnf
    exact ⟨i + 1, [_], [], Sub.mk' rfl ⟨⟨rfl, rfl⟩, .inl rfl, .inl rfl, .inl (ti_succ hlt hl), trivial⟩ ⟨⟨rfl, rfl, rfl, by rw [List.take_take, Nat.min_self]; exact hsn.symm⟩, trivial⟩ rfl rfl, hlt, by omega⟩
  · have hge : i = l.length := by have := of_decide_eq_false hge; omega
    subst hge
    conv => whnf
    refine ⟨fun _ => ?_, fun h => absurd rfl h⟩
    conv => whnf
    exact ⟨[0], rfl, rfl, ⟨⟨rfl, rfl⟩, .inl rfl, trivial⟩, ⟨rfl, rfl, rfl, by rw [List.take_of_length_le (by simp)]⟩, trivial⟩
set_option maxRecDepth 100000 in
set_option maxHeartbeats 4000000 in
theorem t_EventsV (o : Ob) (l : List Did) (hc0 : (checkO o).1 = 0) (hr0 : l.all rightD = true) : K 6 [o.av, .tr (didsT l)] [] (.ret (.tup [.sl 0 (evL o l 0).length, .tr (ti 0)])) [some (evV (evL o l 0))] := by
  have hc := k_check o
  have hr := t_right l
  rw [hr0] at hr
  have hev := t_events o l
  obtain ⟨memory, shared, locks, buffer, cores⟩ := o
  generalize hO : Ob.mk memory shared locks buffer cores = o' at hc0 ⊢
  generalize hEV : evL o' l 0 = EV
  rw [← hO] at hc0 ⊢
  generalize hR : checkO ⟨memory, shared, locks, buffer, cores⟩ = R at hc hc0
  have hlm : (l.map Did.cells).length = l.length := List.length_map ..
  refine Ctr.range [1000005] [4, 10, 11, 22, 2000022] hT hmix (pre := [_, _, _, _]) Tryz.func6 rfl (fun _ _ => by kernel_rfl) Tryz.func38 rfl (fun _ _ => by kernel_rfl) rfl rfl fun hok => ?_
  have hdk : ∀ d ∈ l, 0 ≤ d.kind := fun d hd => by
    have h2 := ((hok.slot 1 rfl).tr.lst.2.2 d.cells (List.mem_map_of_mem hd)).2 _ (List.mem_cons_self ..)
    exact h2.u8.1
  have hlb := (hok.slot 1 rfl).tr.lst.1
  rw [hlm] at hlb
  clear hok
  have hl63 : l.length ≤ 9223372036854775807 := by omega
  conv => whnf
  refine acall.pure _ (hc) rfl rfl fun _ => ?_
  conv => whnf
  refine csplit (fun h1 => ?_) (fun h1 => ?_)
  · exact absurd h1 (by rw [hc0]; decide)
  conv => whnf
  refine CutL.by (fun _ : Unit => ⟨[(1, .tr (didsT l)), (2, .ptr 0 0), (22, .tr (tb false))], [(0, .cells 25 [.tr (intsT memory), .tr (ti shared), .tr (ti locks), .tr (ti buffer), .tr (coresT cores)])], 1⟩) (fun _ => True) ?_ ?_
  · conv => whnf
    refine acall.pure _ (hr) rfl rfl fun _ => ?_
    conv => whnf
    exact ⟨(), [0], [], Sub.mk' rfl ⟨.inl rfl, ⟨rfl, rfl⟩, .inl rfl, trivial⟩ ⟨⟨rfl, .inl rfl, .inl rfl, .inl rfl, .inl rfl, .inl rfl, trivial⟩, trivial⟩ rfl rfl, trivial⟩
  rintro - - -
  conv => whnf
  refine acall.pure _ (hev) rfl rfl fun _ => ?_
  conv => whnf
  refine ⟨rfl, rfl, _, rfl, rfl, fun y => ?_⟩
  conv => whnf
  refine LoopL.by (fun x : List Evt × Nat => ⟨[(0, yldT y), (1, .ept [didsT l]), (2, .ept [intsT memory, ti shared, ti locks, ti buffer, coresT cores]), (10, .tr (didsT l)), (11, .tr (ti (l.length : Int))), (12, .tr (ti x.2))], [(1, .cells 27 [.sl 5 x.1.length]), (5, evV x.1)], 10⟩)
    (fun x => x.2 ≤ l.length ∧ x.1.length ≤ x.2 ∧ EV = x.1 ++ evL o' (l.drop x.2) x.2) (fun x => l.length - x.2) ([], 0) [0, 1, 2, 3, 4] [5]
    (Sub.mk' rfl ⟨.inl rfl, rfl, rfl, .inl rfl, .inl (by rw [← hlm]), .inl rfl, trivial⟩ ⟨⟨rfl, ⟨rfl, rfl, rfl, rfl⟩, trivial⟩, ⟨rfl, _, _, _, rfl, by decide⟩, trivial⟩ rfl rfl)
    ⟨Nat.zero_le _, Nat.le_refl _, hEV.symm⟩ ?_
  rintro ⟨out, j⟩ ⟨hj, hol, hEj⟩ -
  simp only at hj hol hEj
  conv => whnf
  refine csplit (fun hlt => ?_) (fun hge => ?_)
  · have hlt : j < l.length := by have : ((j : Nat) : Int) < (l.length : Int) := of_decide_eq_true hlt; omega
    obtain ⟨d, hd⟩ : ∃ x, l[j]? = some x := ⟨l[j], by simp [hlt]⟩
    rw [evL_drop hd] at hEj
    have hrd : rightD d = true := List.all_eq_true.1 hr0 d (List.mem_of_getElem? hd)
    have hk := right_kind' hrd
    have hk0 := hdk d (List.mem_of_getElem? hd)
    conv => whnf
    refine ⟨rfl, (show (0 : Int) ≤ j by omega), (show (j : Int) < (l.map Did.cells).length by rw [hlm]; omega), fun row hr => ?_⟩
    obtain ⟨d', hd', rfl⟩ := did_get hr
    obtain rfl : d = d' := Option.some.inj (hd.symm.trans hd')
    clear hr hd'
    conv => whnf
    refine CutL.by (fun x : ByteArray × Bool × Bool × Bool × Bool × AV => ⟨[(0, yldT y), (1, .ept [didsT l]), (2, .ept [intsT memory, ti shared, ti locks, ti buffer, coresT cores]), (4, .tr (ti j)), (5, .ptr 6 0), (6, .ptr 7 0), (10, .tr (didsT l)), (11, .tr (ti (l.length : Int))), (12, .tr (ti j))], [(1, .cells 27 [.sl 5 out.length]), (5, evV out), (6, diB d), (7, .cells 88 [.tr (ts x.1), .tr (tb x.2.1), .tr (tb x.2.2.1), .tr (tb x.2.2.2.1), .tr (tb x.2.2.2.2.1), x.2.2.2.2.2])], 10⟩) (fun x => x.2.1 = addrK d.kind ∧ EvOk d x.2.2.2.2.2) ?_ ?_
    · obtain ⟨dk, dc, da, dd, dw, dp, dn⟩ := d
      simp only at hk hk0
      clear hEj hEV hrd
      rcases hk with rfl | rfl | rfl | rfl | rfl | rfl | rfl | rfl | hk
      · conv => whnf
        refine acall.pure _ (t_forms) rfl rfl ?_
        conv => whnf
        refine ⟨of_decide_eq_true rfl, of_decide_eq_true rfl, of_decide_eq_true rfl, ?_⟩
        conv => whnf
        refine ⟨by kernel_rfl, fun _ => ?_⟩
        conv => whnf
        exact ⟨(⟨#[99, 111, 109, 112, 117, 116, 101]⟩, false, false, false, false, alwA 0), [0, 1, 2, 3, 4, 5, _, _], [], Sub.mk' rfl ⟨.inl rfl, rfl, rfl, .inl rfl, ⟨rfl, rfl⟩, ⟨rfl, rfl⟩, .inl rfl, .inl rfl, .inl rfl, trivial⟩ ⟨⟨rfl, ⟨rfl, rfl⟩, trivial⟩, ⟨rfl, rfl, rfl, rfl⟩, ⟨rfl, .inl rfl, .inl rfl, .inl rfl, .inl rfl, .inl rfl, .inl rfl, .inl rfl, trivial⟩, ⟨rfl, .inl rfl, .inl rfl, .inl rfl, .inl rfl, .inl rfl, ⟨rfl, rfl, trivial⟩, trivial⟩, trivial⟩ rfl rfl, ⟨rfl, .inl ⟨0, rfl, fun _ => rfl⟩⟩⟩
      · conv => whnf
        refine acall.pure _ (t_forms) rfl rfl ?_
        conv => whnf
        refine ⟨of_decide_eq_true rfl, of_decide_eq_true rfl, of_decide_eq_true rfl, ?_⟩
        conv => whnf
        refine ⟨by kernel_rfl, fun _ => ?_⟩
        conv => whnf
        exact ⟨(⟨#[108, 111, 97, 100]⟩, true, true, false, true, onA 1), [0, 1, 2, 3, 4, 5, _, _], [], Sub.mk' rfl ⟨.inl rfl, rfl, rfl, .inl rfl, ⟨rfl, rfl⟩, ⟨rfl, rfl⟩, .inl rfl, .inl rfl, .inl rfl, trivial⟩ ⟨⟨rfl, ⟨rfl, rfl⟩, trivial⟩, ⟨rfl, rfl, rfl, rfl⟩, ⟨rfl, .inl rfl, .inl rfl, .inl rfl, .inl rfl, .inl rfl, .inl rfl, .inl rfl, trivial⟩, ⟨rfl, .inl rfl, .inl rfl, .inl rfl, .inl rfl, .inl rfl, ⟨rfl, rfl, trivial⟩, trivial⟩, trivial⟩ rfl rfl, ⟨rfl, .inr (.inl ⟨rfl, fun _ => rfl⟩)⟩⟩
      · conv => whnf
        refine acall.pure _ (t_forms) rfl rfl ?_
        conv => whnf
        refine ⟨of_decide_eq_true rfl, of_decide_eq_true rfl, of_decide_eq_true rfl, ?_⟩
        conv => whnf
        refine ⟨by kernel_rfl, fun _ => ?_⟩
        conv => whnf
        exact ⟨(⟨#[115, 116, 111, 114, 101]⟩, true, true, false, false, alwA 0), [0, 1, 2, 3, 4, 5, _, _], [], Sub.mk' rfl ⟨.inl rfl, rfl, rfl, .inl rfl, ⟨rfl, rfl⟩, ⟨rfl, rfl⟩, .inl rfl, .inl rfl, .inl rfl, trivial⟩ ⟨⟨rfl, ⟨rfl, rfl⟩, trivial⟩, ⟨rfl, rfl, rfl, rfl⟩, ⟨rfl, .inl rfl, .inl rfl, .inl rfl, .inl rfl, .inl rfl, .inl rfl, .inl rfl, trivial⟩, ⟨rfl, .inl rfl, .inl rfl, .inl rfl, .inl rfl, .inl rfl, ⟨rfl, rfl, trivial⟩, trivial⟩, trivial⟩ rfl rfl, ⟨rfl, .inl ⟨0, rfl, fun _ => rfl⟩⟩⟩
      · conv => whnf
        refine acall.pure _ (t_forms) rfl rfl ?_
        conv => whnf
        refine ⟨of_decide_eq_true rfl, of_decide_eq_true rfl, of_decide_eq_true rfl, ?_⟩
        conv => whnf
        refine ⟨by kernel_rfl, fun _ => ?_⟩
        conv => whnf
        exact ⟨(⟨#[115, 119, 97, 112]⟩, true, true, true, false, .fn 60 []), [0, 1, 2, 3, 4, 5, _, _], [], Sub.mk' rfl ⟨.inl rfl, rfl, rfl, .inl rfl, ⟨rfl, rfl⟩, ⟨rfl, rfl⟩, .inl rfl, .inl rfl, .inl rfl, trivial⟩ ⟨⟨rfl, ⟨rfl, rfl⟩, trivial⟩, ⟨rfl, rfl, rfl, rfl⟩, ⟨rfl, .inl rfl, .inl rfl, .inl rfl, .inl rfl, .inl rfl, .inl rfl, .inl rfl, trivial⟩, ⟨rfl, .inl rfl, .inl rfl, .inl rfl, .inl rfl, .inl rfl, ⟨rfl, trivial⟩, trivial⟩, trivial⟩ rfl rfl, ⟨rfl, .inr (.inr (.inl ⟨rfl, fun _ => rfl⟩))⟩⟩
      · conv => whnf
        refine acall.pure _ (t_forms) rfl rfl ?_
        conv => whnf
        refine ⟨of_decide_eq_true rfl, of_decide_eq_true rfl, of_decide_eq_true rfl, ?_⟩
        conv => whnf
        refine ⟨by kernel_rfl, fun _ => ?_⟩
        conv => whnf
        exact ⟨(⟨#[102, 101, 110, 99, 101]⟩, false, false, false, false, alwA 0), [0, 1, 2, 3, 4, 5, _, _], [], Sub.mk' rfl ⟨.inl rfl, rfl, rfl, .inl rfl, ⟨rfl, rfl⟩, ⟨rfl, rfl⟩, .inl rfl, .inl rfl, .inl rfl, trivial⟩ ⟨⟨rfl, ⟨rfl, rfl⟩, trivial⟩, ⟨rfl, rfl, rfl, rfl⟩, ⟨rfl, .inl rfl, .inl rfl, .inl rfl, .inl rfl, .inl rfl, .inl rfl, .inl rfl, trivial⟩, ⟨rfl, .inl rfl, .inl rfl, .inl rfl, .inl rfl, .inl rfl, ⟨rfl, rfl, trivial⟩, trivial⟩, trivial⟩ rfl rfl, ⟨rfl, .inl ⟨0, rfl, fun _ => rfl⟩⟩⟩
      · conv => whnf
        refine acall.pure _ (t_forms) rfl rfl ?_
        conv => whnf
        refine ⟨of_decide_eq_true rfl, of_decide_eq_true rfl, of_decide_eq_true rfl, ?_⟩
        conv => whnf
        refine ⟨by kernel_rfl, fun _ => ?_⟩
        conv => whnf
        exact ⟨(⟨#[112, 114, 105, 110, 116]⟩, false, true, false, false, alwA 6), [0, 1, 2, 3, 4, 5, _, _], [], Sub.mk' rfl ⟨.inl rfl, rfl, rfl, .inl rfl, ⟨rfl, rfl⟩, ⟨rfl, rfl⟩, .inl rfl, .inl rfl, .inl rfl, trivial⟩ ⟨⟨rfl, ⟨rfl, rfl⟩, trivial⟩, ⟨rfl, rfl, rfl, rfl⟩, ⟨rfl, .inl rfl, .inl rfl, .inl rfl, .inl rfl, .inl rfl, .inl rfl, .inl rfl, trivial⟩, ⟨rfl, .inl rfl, .inl rfl, .inl rfl, .inl rfl, .inl rfl, ⟨rfl, rfl, trivial⟩, trivial⟩, trivial⟩ rfl rfl, ⟨rfl, .inl ⟨6, rfl, fun _ => rfl⟩⟩⟩
      · conv => whnf
        refine acall.pure _ (t_forms) rfl rfl ?_
        conv => whnf
        refine ⟨of_decide_eq_true rfl, of_decide_eq_true rfl, of_decide_eq_true rfl, ?_⟩
        conv => whnf
        refine ⟨by kernel_rfl, fun _ => ?_⟩
        conv => whnf
        exact ⟨(⟨#[104, 97, 108, 116]⟩, false, false, false, false, alwA 7), [0, 1, 2, 3, 4, 5, _, _], [], Sub.mk' rfl ⟨.inl rfl, rfl, rfl, .inl rfl, ⟨rfl, rfl⟩, ⟨rfl, rfl⟩, .inl rfl, .inl rfl, .inl rfl, trivial⟩ ⟨⟨rfl, ⟨rfl, rfl⟩, trivial⟩, ⟨rfl, rfl, rfl, rfl⟩, ⟨rfl, .inl rfl, .inl rfl, .inl rfl, .inl rfl, .inl rfl, .inl rfl, .inl rfl, trivial⟩, ⟨rfl, .inl rfl, .inl rfl, .inl rfl, .inl rfl, .inl rfl, ⟨rfl, rfl, trivial⟩, trivial⟩, trivial⟩ rfl rfl, ⟨rfl, .inl ⟨7, rfl, fun _ => rfl⟩⟩⟩
      · conv => whnf
        refine acall.pure _ (t_forms) rfl rfl ?_
        conv => whnf
        refine ⟨of_decide_eq_true rfl, of_decide_eq_true rfl, of_decide_eq_true rfl, ?_⟩
        conv => whnf
        refine ⟨by kernel_rfl, fun _ => ?_⟩
        conv => whnf
        exact ⟨(⟨#[100, 114, 97, 105, 110]⟩, true, true, false, false, .fn 61 []), [0, 1, 2, 3, 4, 5, _, _], [], Sub.mk' rfl ⟨.inl rfl, rfl, rfl, .inl rfl, ⟨rfl, rfl⟩, ⟨rfl, rfl⟩, .inl rfl, .inl rfl, .inl rfl, trivial⟩ ⟨⟨rfl, ⟨rfl, rfl⟩, trivial⟩, ⟨rfl, rfl, rfl, rfl⟩, ⟨rfl, .inl rfl, .inl rfl, .inl rfl, .inl rfl, .inl rfl, .inl rfl, .inl rfl, trivial⟩, ⟨rfl, .inl rfl, .inl rfl, .inl rfl, .inl rfl, .inl rfl, ⟨rfl, trivial⟩, trivial⟩, trivial⟩ rfl rfl, ⟨rfl, .inr (.inr (.inr ⟨rfl, fun _ => rfl⟩))⟩⟩
      · omega
    rintro ⟨wd, fa, f1, f2, f3, ev⟩ ⟨hfa, hok⟩ -
    simp only at hfa hok
    clear hk hk0
    conv => whnf
    refine CutL.by (fun x : Int × Int => ⟨[(0, yldT y), (1, .ept [didsT l]), (2, .ept [intsT memory, ti shared, ti locks, ti buffer, coresT cores]), (4, .tr (ti j)), (5, .ptr 6 0), (6, .ptr 7 0), (7, .tr (ti x.1)), (8, .tr (ti x.2)), (10, .tr (didsT l)), (11, .tr (ti (l.length : Int))), (12, .tr (ti j))], [(1, .cells 27 [.sl 5 out.length]), (5, evV out), (6, diB d), (7, .cells 88 [.tr (ts wd), .tr (tb fa), .tr (tb f1), .tr (tb f2), .tr (tb f3), ev])], 10⟩) (fun x => whD o' d = x) ?_ ?_
    · subst hO
      obtain ⟨dk, dc, da, dd, dw, dp, dn⟩ := d
      simp only at hfa
      clear hEj hEV hrd
      rcases hok with ⟨k, rfl, -⟩ | ⟨rfl, -⟩ | ⟨rfl, -⟩ | ⟨rfl, -⟩
      all_goals (
        cases fa
        · conv => whnf
          exact ⟨(0, 0), [0, 1, 2, 3, 4, 5, 6, 7], [], Sub.mk' rfl ⟨.inl rfl, rfl, rfl, .inl rfl, ⟨rfl, rfl⟩, ⟨rfl, rfl⟩, .inl rfl, .inl rfl, .inl rfl, .inl rfl, .inl rfl, trivial⟩ ⟨⟨rfl, ⟨rfl, rfl⟩, trivial⟩, ⟨rfl, rfl, rfl, rfl⟩, ⟨rfl, .inl rfl, .inl rfl, .inl rfl, .inl rfl, .inl rfl, .inl rfl, .inl rfl, trivial⟩, ⟨rfl, .inl rfl, .inl rfl, .inl rfl, .inl rfl, .inl rfl, (by first | exact ⟨rfl, rfl, trivial⟩ | exact ⟨rfl, trivial⟩), trivial⟩, trivial⟩ rfl rfl, whD_no hfa.symm⟩
        · conv => whnf
          refine csplit (fun g1 => ?_) (fun g1 => ?_)
          · conv => whnf
            refine ⟨by kernel_rfl, fun _ => ?_⟩
            conv => whnf
            exact ⟨(1, dd), [0, 1, 2, 3, 4, 5, 6, 7], [], Sub.mk' rfl ⟨.inl rfl, rfl, rfl, .inl rfl, ⟨rfl, rfl⟩, ⟨rfl, rfl⟩, .inl rfl, .inl rfl, .inl rfl, .inl rfl, .inl rfl, trivial⟩ ⟨⟨rfl, ⟨rfl, rfl⟩, trivial⟩, ⟨rfl, rfl, rfl, rfl⟩, ⟨rfl, .inl rfl, .inl rfl, .inl rfl, .inl rfl, .inl rfl, .inl rfl, .inl rfl, trivial⟩, ⟨rfl, .inl rfl, .inl rfl, .inl rfl, .inl rfl, .inl rfl, (by first | exact ⟨rfl, rfl, trivial⟩ | exact ⟨rfl, trivial⟩), trivial⟩, trivial⟩ rfl rfl, whD_var hfa.symm g1⟩
          · conv => whnf
            refine csplit (fun g2 => ?_) (fun g2 => ?_)
            · conv => whnf
              refine ⟨by kernel_rfl, fun _ => ?_⟩
              conv => whnf
              exact ⟨(2, wrp (dd - shared)), [0, 1, 2, 3, 4, 5, 6, 7], [], Sub.mk' rfl ⟨.inl rfl, rfl, rfl, .inl rfl, ⟨rfl, rfl⟩, ⟨rfl, rfl⟩, .inl rfl, .inl rfl, .inl rfl, .inl rfl, .inl rfl, trivial⟩ ⟨⟨rfl, ⟨rfl, rfl⟩, trivial⟩, ⟨rfl, rfl, rfl, rfl⟩, ⟨rfl, .inl rfl, .inl rfl, .inl rfl, .inl rfl, .inl rfl, .inl rfl, .inl rfl, trivial⟩, ⟨rfl, .inl rfl, .inl rfl, .inl rfl, .inl rfl, .inl rfl, (by first | exact ⟨rfl, rfl, trivial⟩ | exact ⟨rfl, trivial⟩), trivial⟩, trivial⟩ rfl rfl, whD_lock hfa.symm g1 g2⟩
            · conv => whnf
              exact ⟨(0, 0), [0, 1, 2, 3, 4, 5, 6, 7], [], Sub.mk' rfl ⟨.inl rfl, rfl, rfl, .inl rfl, ⟨rfl, rfl⟩, ⟨rfl, rfl⟩, .inl rfl, .inl rfl, .inl rfl, .inl rfl, .inl rfl, trivial⟩ ⟨⟨rfl, ⟨rfl, rfl⟩, trivial⟩, ⟨rfl, rfl, rfl, rfl⟩, ⟨rfl, .inl rfl, .inl rfl, .inl rfl, .inl rfl, .inl rfl, .inl rfl, .inl rfl, trivial⟩, ⟨rfl, .inl rfl, .inl rfl, .inl rfl, .inl rfl, .inl rfl, (by first | exact ⟨rfl, rfl, trivial⟩ | exact ⟨rfl, trivial⟩), trivial⟩, trivial⟩ rfl rfl, whD_else hfa.symm g1 g2⟩)
    rintro ⟨w, th⟩ hwh -
    conv => whnf
    refine CutL.by (fun E : Int => ⟨[(0, yldT y), (1, .ept [didsT l]), (2, .ept [intsT memory, ti shared, ti locks, ti buffer, coresT cores]), (5, .ptr 6 0), (8, .tr (ti th)), (9, .ptr 7 0), (10, .tr (didsT l)), (11, .tr (ti (l.length : Int))), (12, .tr (ti j))], [(1, .cells 27 [.sl 5 out.length]), (5, evV out), (6, diB d), (7, evB ⟨E, d.core, 0, 0, 0, false, j⟩)], 10⟩) (fun E => evK w d = E) ?_ ?_
    · obtain ⟨dk, dc, da, dd, dw, dp, dn⟩ := d
      clear hEj hEV hrd hfa hwh
      rcases hok with ⟨k, rfl, hw⟩ | ⟨rfl, hw⟩ | ⟨rfl, hw⟩ | ⟨rfl, hw⟩
      · conv => whnf
        refine acall.au [] [] (k_always1 k w dk dc da dd dw dp dn) ?_
        conv => whnf
        refine ⟨by kernel_rfl, fun _ => ?_⟩
        conv => whnf
        exact ⟨k, [0, 1, 2, 3, 4, 5, 6, _], [], Sub.mk' rfl ⟨.inl rfl, rfl, rfl, ⟨rfl, rfl⟩, .inl rfl, ⟨rfl, rfl⟩, .inl rfl, .inl rfl, .inl rfl, trivial⟩ ⟨⟨rfl, ⟨rfl, rfl⟩, trivial⟩, ⟨rfl, rfl, rfl, rfl⟩, ⟨rfl, .inl rfl, .inl rfl, .inl rfl, .inl rfl, .inl rfl, .inl rfl, .inl rfl, trivial⟩, ⟨rfl, .inl rfl, .inl rfl, .inl rfl, .inl rfl, .inl rfl, .inl rfl, .inl rfl, trivial⟩, trivial⟩ rfl rfl, hw w⟩
      · conv => whnf
        refine acall.au [] [] (k_on1 1 w dk dc da dd dw dp dn) ?_
        conv => whnf
        refine ⟨by kernel_rfl, fun _ => ?_⟩
        conv => whnf
        exact ⟨onE 1 w, [0, 1, 2, 3, 4, 5, 6, _], [], Sub.mk' rfl ⟨.inl rfl, rfl, rfl, ⟨rfl, rfl⟩, .inl rfl, ⟨rfl, rfl⟩, .inl rfl, .inl rfl, .inl rfl, trivial⟩ ⟨⟨rfl, ⟨rfl, rfl⟩, trivial⟩, ⟨rfl, rfl, rfl, rfl⟩, ⟨rfl, .inl rfl, .inl rfl, .inl rfl, .inl rfl, .inl rfl, .inl rfl, .inl rfl, trivial⟩, ⟨rfl, .inl rfl, .inl rfl, .inl rfl, .inl rfl, .inl rfl, .inl rfl, .inl rfl, trivial⟩, trivial⟩ rfl rfl, hw w⟩
      · conv => whnf
        refine acall.au [] [] (k_swapped w dk dc da dd dw dp dn) ?_
        conv => whnf
        refine ⟨by kernel_rfl, fun _ => ?_⟩
        conv => whnf
        exact ⟨swE w dw dp, [0, 1, 2, 3, 4, 5, 6, _], [], Sub.mk' rfl ⟨.inl rfl, rfl, rfl, ⟨rfl, rfl⟩, .inl rfl, ⟨rfl, rfl⟩, .inl rfl, .inl rfl, .inl rfl, trivial⟩ ⟨⟨rfl, ⟨rfl, rfl⟩, trivial⟩, ⟨rfl, rfl, rfl, rfl⟩, ⟨rfl, .inl rfl, .inl rfl, .inl rfl, .inl rfl, .inl rfl, .inl rfl, .inl rfl, trivial⟩, ⟨rfl, .inl rfl, .inl rfl, .inl rfl, .inl rfl, .inl rfl, .inl rfl, .inl rfl, trivial⟩, trivial⟩ rfl rfl, hw w⟩
      · conv => whnf
        refine acall.au [] [] (k_drained w dk dc da dd dw dp dn) ?_
        conv => whnf
        refine ⟨by kernel_rfl, fun _ => ?_⟩
        conv => whnf
        exact ⟨drE w dw, [0, 1, 2, 3, 4, 5, 6, _], [], Sub.mk' rfl ⟨.inl rfl, rfl, rfl, ⟨rfl, rfl⟩, .inl rfl, ⟨rfl, rfl⟩, .inl rfl, .inl rfl, .inl rfl, trivial⟩ ⟨⟨rfl, ⟨rfl, rfl⟩, trivial⟩, ⟨rfl, rfl, rfl, rfl⟩, ⟨rfl, .inl rfl, .inl rfl, .inl rfl, .inl rfl, .inl rfl, .inl rfl, .inl rfl, trivial⟩, ⟨rfl, .inl rfl, .inl rfl, .inl rfl, .inl rfl, .inl rfl, .inl rfl, .inl rfl, trivial⟩, trivial⟩ rfl rfl, hw w⟩
    clear hok
    rintro E hE -
    have hth : (whD o' d).2 = th := by rw [hwh]
    replace hE : evK (whD o' d).1 d = E := by rw [hwh]; exact hE
    rw [evD_eq hE hth] at hEj
    clear hE hth hO hwh
    obtain ⟨dk, dc, da, dd, dw, dp, dn⟩ := d
    simp only at hEj
    conv => whnf
    refine CutL.by (fun e : Evt => ⟨[(0, yldT y), (1, .ept [didsT l]), (2, .ept [intsT memory, ti shared, ti locks, ti buffer, coresT cores]), (9, .ptr 6 0), (10, .tr (didsT l)), (11, .tr (ti (l.length : Int))), (12, .tr (ti j))], [(1, .cells 27 [.sl 5 out.length]), (5, evV out), (6, evB e)], 10⟩) (fun e => EV = out ++ ([e] ++ evL o' (l.drop (j + 1)) (j + 1))) ?_ ?_
    · conv => whnf
      refine csplit (fun e0 => ?_) (fun e0 => ?_)
      · conv => whnf
        refine ⟨fun h => absurd h (by decide), fun _ => ?_⟩
        conv => whnf
        refine ⟨fun _ => ?_, fun h => absurd rfl h⟩
        conv => whnf
        have e0 : (E == 0) = true := e0
        exact ⟨(out, j + 1), [0, 1, 2, 3, 4, 5], [], Sub.mk' rfl ⟨.inl rfl, rfl, rfl, .inl rfl, .inl rfl, .inl (ti_succ hlt hl63), trivial⟩ ⟨⟨rfl, ⟨rfl, rfl⟩, trivial⟩, ⟨rfl, rfl, rfl, rfl⟩, trivial⟩ rfl rfl, ⟨hlt, by show out.length ≤ j + 1; omega, by rw [hEj, e0]; rfl⟩, by show l.length - (j + 1) < l.length - j; omega⟩
      replace e0 : (E == 0) = false := e0
      rw [e0] at hEj
      conv => whnf
      refine csplit (fun e1 => ?_) (fun e1 => ?_)
      · replace e1 : (E == 1) = true := e1
        conv => whnf
        refine csplit (fun _ => ?_) (fun g => ctf e1 g)
        conv => whnf
        refine ⟨by kernel_rfl, fun _ => ?_⟩
        conv => whnf
        exact ⟨⟨E, dc, th, dw, dp, dn, j⟩, [0, 1, 2, 3, 4, 5, _], [], Sub.mk' rfl ⟨.inl rfl, rfl, rfl, ⟨rfl, rfl⟩, .inl rfl, .inl rfl, .inl rfl, trivial⟩ ⟨⟨rfl, ⟨rfl, rfl⟩, trivial⟩, ⟨rfl, rfl, rfl, rfl⟩, ⟨rfl, .inl rfl, .inl rfl, .inl rfl, .inl rfl, .inl rfl, .inl rfl, .inl rfl, trivial⟩, trivial⟩ rfl rfl, by rw [hEj, e1]; rfl⟩
      replace e1 : (E == 1) = false := e1
      conv => whnf
      refine csplit (fun e2 => ?_) (fun e2 => ?_)
      · replace e2 : (E == 2) = true := e2
        conv => whnf
        refine csplit (fun _ => ?_) (fun g => ctf e2 g)
        conv => whnf
        refine ⟨by kernel_rfl, fun _ => ?_⟩
        conv => whnf
        exact ⟨⟨E, dc, th, dw, dp, dn, j⟩, [0, 1, 2, 3, 4, 5, _], [], Sub.mk' rfl ⟨.inl rfl, rfl, rfl, ⟨rfl, rfl⟩, .inl rfl, .inl rfl, .inl rfl, trivial⟩ ⟨⟨rfl, ⟨rfl, rfl⟩, trivial⟩, ⟨rfl, rfl, rfl, rfl⟩, ⟨rfl, .inl rfl, .inl rfl, .inl rfl, .inl rfl, .inl rfl, .inl rfl, .inl rfl, trivial⟩, trivial⟩ rfl rfl, by rw [hEj, e1, e2]; rfl⟩
      replace e2 : (E == 2) = false := e2
      conv => whnf
      refine csplit (fun e3 => ?_) (fun e3 => ?_)
      · replace e3 : (E == 3) = true := e3
        conv => whnf
        refine ⟨by kernel_rfl, fun _ => ?_⟩
        conv => whnf
        exact ⟨⟨E, dc, th, dw, dp, dn, j⟩, [0, 1, 2, 3, 4, 5, _], [], Sub.mk' rfl ⟨.inl rfl, rfl, rfl, ⟨rfl, rfl⟩, .inl rfl, .inl rfl, .inl rfl, trivial⟩ ⟨⟨rfl, ⟨rfl, rfl⟩, trivial⟩, ⟨rfl, rfl, rfl, rfl⟩, ⟨rfl, .inl rfl, .inl rfl, .inl rfl, .inl rfl, .inl rfl, .inl rfl, .inl rfl, trivial⟩, trivial⟩ rfl rfl, by rw [hEj, e1, e2, e3]; rfl⟩
      replace e3 : (E == 3) = false := e3
      conv => whnf
      refine csplit (fun e4 => ?_) (fun e4 => ?_)
      · replace e4 : (E == 4) = true := e4
        conv => whnf
        refine csplit (fun _ => ?_) (fun g => ctf e4 g)
        conv => whnf
        exact ⟨⟨E, dc, th, 0, 0, false, j⟩, [0, 1, 2, 3, 4, 5, _], [], Sub.mk' rfl ⟨.inl rfl, rfl, rfl, ⟨rfl, rfl⟩, .inl rfl, .inl rfl, .inl rfl, trivial⟩ ⟨⟨rfl, ⟨rfl, rfl⟩, trivial⟩, ⟨rfl, rfl, rfl, rfl⟩, ⟨rfl, .inl rfl, .inl rfl, .inl rfl, .inl rfl, .inl rfl, .inl rfl, .inl rfl, trivial⟩, trivial⟩ rfl rfl, by rw [hEj, e1, e2, e3, e4]; rfl⟩
      replace e4 : (E == 4) = false := e4
      conv => whnf
      refine csplit (fun e5 => ?_) (fun e5 => ?_)
      · replace e5 : (E == 5) = true := e5
        conv => whnf
        exact ⟨⟨E, dc, th, 0, 0, false, j⟩, [0, 1, 2, 3, 4, 5, _], [], Sub.mk' rfl ⟨.inl rfl, rfl, rfl, ⟨rfl, rfl⟩, .inl rfl, .inl rfl, .inl rfl, trivial⟩ ⟨⟨rfl, ⟨rfl, rfl⟩, trivial⟩, ⟨rfl, rfl, rfl, rfl⟩, ⟨rfl, .inl rfl, .inl rfl, .inl rfl, .inl rfl, .inl rfl, .inl rfl, .inl rfl, trivial⟩, trivial⟩ rfl rfl, by rw [hEj, e1, e2, e3, e4, e5]; rfl⟩
      replace e5 : (E == 5) = false := e5
      conv => whnf
      refine csplit (fun e6 => ?_) (fun e6 => ?_)
      · replace e6 : (E == 6) = true := e6
        conv => whnf
        exact ⟨⟨E, dc, 0, dw, 0, false, j⟩, [0, 1, 2, 3, 4, 5, _], [], Sub.mk' rfl ⟨.inl rfl, rfl, rfl, ⟨rfl, rfl⟩, .inl rfl, .inl rfl, .inl rfl, trivial⟩ ⟨⟨rfl, ⟨rfl, rfl⟩, trivial⟩, ⟨rfl, rfl, rfl, rfl⟩, ⟨rfl, .inl rfl, .inl rfl, .inl rfl, .inl rfl, .inl rfl, .inl rfl, .inl rfl, trivial⟩, trivial⟩ rfl rfl, by rw [hEj, e1, e2, e3, e4, e5, e6]; rfl⟩
      replace e6 : (E == 6) = false := e6
      conv => whnf
      exact ⟨⟨E, dc, 0, 0, 0, false, j⟩, [0, 1, 2, 3, 4, 5, _], [], Sub.mk' rfl ⟨.inl rfl, rfl, rfl, ⟨rfl, rfl⟩, .inl rfl, .inl rfl, .inl rfl, trivial⟩ ⟨⟨rfl, ⟨rfl, rfl⟩, trivial⟩, ⟨rfl, rfl, rfl, rfl⟩, ⟨rfl, .inl rfl, .inl rfl, .inl rfl, .inl rfl, .inl rfl, .inl rfl, .inl rfl, trivial⟩, trivial⟩ rfl rfl, by rw [hEj, e1, e2, e3, e4, e5, e6]; rfl⟩
    · rintro ⟨ek, ec, et, ew, ep, en, ea⟩ hE2 -
      conv => whnf
      refine yield_region (y := YRec.mk _ _ _ _ _) (pre := [_, _]) (r := [_]) hT rfl rfl rfl rfl (by decide) rfl rfl ?_
      conv => whnf
      refine ⟨rfl, rfl, rfl, _, rfl, rfl, ?_⟩
      conv => whnf
      refine ⟨rfl, rfl, rfl, (by rw [List.length_map]; exact Nat.le_refl _), (show (out.length + 1) * 56 ≤ 150000000000000 by omega), fun q hq => ?_, ?_⟩
      · cases hq with
        | head => exact Nat.ne_of_beq_eq_false rfl
        | tail _ h => cases h
      conv => whnf
      refine ⟨rfl, rfl, ?_⟩
      conv => whnf
      have hda : (out.map Evt.cells).take out.length ++ [[tu ek, ti ec, ti et, ti ew, ti ep, tb en, ti ea]] = (out ++ [Evt.mk ek ec et ew ep en ea]).map Evt.cells := by rw [List.take_of_length_le (by simp), List.map_append]; rfl
      exact ⟨(out ++ [Evt.mk ek ec et ew ep en ea], j + 1), [0, 1, 2, 3, 4, _], [], Sub.mk' rfl ⟨.inl rfl, rfl, rfl, .inl rfl, .inl rfl, .inl (ti_succ hlt hl63), trivial⟩ ⟨⟨rfl, ⟨rfl, by simp⟩, trivial⟩, ⟨rfl, rfl, rfl, hda⟩, trivial⟩ rfl rfl, ⟨hlt, by show (out ++ _).length ≤ j + 1; simp; omega, by rw [hE2, List.append_assoc]⟩, by show l.length - (j + 1) < l.length - j; omega⟩
  · have hge : j = l.length := by have : ¬ ((j : Nat) : Int) < (l.length : Int) := of_decide_eq_false hge; omega
    subst hge
    rw [List.drop_length] at hEj
    have hEj : EV = out := by rw [hEj]; exact List.append_nil _
    subst hEj
    conv => whnf
    refine ⟨fun _ => ?_, fun h => absurd rfl h⟩
    conv => whnf
    refine ⟨.inl rfl, rfl, ?_⟩
    conv => whnf
    exact ⟨.inr rfl, [5], rfl, rfl, ⟨⟨rfl, rfl⟩, .inl rfl, trivial⟩, ⟨rfl, rfl, rfl, rfl⟩, trivial⟩
end Go.Proofs.YtcpolpbeimhgfaaGreat.am

namespace Go.Proofs.YtcpolpbeimhgfaaGreat.am
open Go Go.Proofs
end Go.Proofs.YtcpolpbeimhgfaaGreat.am

namespace Go.Proofs.YtcpolpbeimhgfaaGreat.am
open Go Go.Proofs
abbrev obB (m : AV) (a b c : Int) (k : AV) : Blk := .cells 25 [m, .tr (ti a), .tr (ti b), .tr (ti c), k]
set_option maxRecDepth 100000 in
set_option maxHeartbeats 2000000 in
theorem k_same2 (o : Ob) : K 14 [o.av, o.av] [] (.ret (.tr (tb true))) [] := by
  refine Ctr.of hT hmix Tryz.func14 rfl (fun _ _ => by kernel_rfl) rfl fun hok => ?_
  obtain ⟨_, hcl0, hcs⟩ := ((hok.slot 0 rfl).agg _ (.tail _ (.tail _ (.tail _ (.tail _ (.head _)))))).tr.lst
  obtain ⟨_, hml0, _⟩ := ((hok.slot 0 rfl).agg _ (.head _)).tr.lst
  rw [List.length_map] at hcl0 hml0
  clear hok
  obtain ⟨memory, shared, locks, buffer, cores⟩ := o
  have hcl : cores.length ≤ 9223372036854775807 := hcl0
  have hml : memory.length ≤ 9223372036854775807 := hml0
  clear hcl0 hml0
  conv => whnf
  (repeat' (refine csplit (fun h => absurd h (by simp)) (fun _ => ?_); conv => whnf))
  refine LoopL.by (fun i : Nat => ⟨[(2, .ptr 0 0), (3, .ptr 1 0), (5, .tr (ti i))], [(0, obB (.tr (intsT memory)) shared locks buffer (.tr (coresT cores))), (1, obB (.tr (intsT memory)) shared locks buffer (.tr (coresT cores)))], 10⟩) (fun i => i ≤ memory.length) (fun i => memory.length - i) 0 [0, 1] []
    (Sub.mk' rfl ⟨⟨rfl, rfl⟩, ⟨rfl, rfl⟩, .inl rfl, trivial⟩ aut rfl rfl) (Nat.zero_le _) ?_
  rintro i hi -
  conv => whnf
  refine csplit (fun hlt => ?_) (fun hge => ?_)
  · have hlt : i < memory.length := by have := of_decide_eq_true hlt; rw [List.length_map] at this; omega
    obtain ⟨d, hd⟩ : ∃ d, memory[i]? = some d := ⟨memory[i], by simp [hlt]⟩
    have hrow : (memory.map irow)[i]? = some (irow d) := by rw [List.getElem?_map, hd]; rfl
    conv => whnf
    refine ⟨rfl, (show (0 : Int) ≤ i by omega), (show (i : Int) < (List.map irow memory).length by rw [List.length_map]; omega), fun row hr => ?_⟩
    cases hrow.symm.trans hr
    conv => whnf
    refine ⟨rfl, (show (0 : Int) ≤ i by omega), (show (i : Int) < (List.map irow memory).length by rw [List.length_map]; omega), fun row hr => ?_⟩
    cases hrow.symm.trans hr
    conv => whnf
    refine ⟨by kernel_rfl, fun _ => ?_⟩
    conv => whnf
    refine csplit (fun h => absurd h (by simp)) (fun _ => ?_)
    conv => whnf
    exact ⟨i + 1, [0, 1], [], Sub.mk' rfl ⟨⟨rfl, rfl⟩, ⟨rfl, rfl⟩, .inl (ti_succ hlt hml), trivial⟩ aut rfl rfl, hlt, by omega⟩
  conv => whnf
  refine ⟨fun _ => ?_, fun h => absurd rfl h⟩
  conv => whnf
  refine LoopL.by (fun i : Nat => ⟨[(2, .ptr 0 0), (3, .ptr 1 0), (6, .tr (ti i))], [(0, obB (.tr (intsT memory)) shared locks buffer (.tr (coresT cores))), (1, obB (.tr (intsT memory)) shared locks buffer (.tr (coresT cores)))], 10⟩) (fun i => i ≤ cores.length) (fun i => cores.length - i) 0 [0, 1] []
    (Sub.mk' rfl ⟨⟨rfl, rfl⟩, ⟨rfl, rfl⟩, .inl rfl, trivial⟩ aut rfl rfl) (Nat.zero_le _) ?_
  rintro i hi -
  conv => whnf
  refine csplit (fun hlt => ?_) (fun hge => ?_)
  · have hlt : i < cores.length := by have := of_decide_eq_true hlt; rw [List.length_map] at this; omega
    obtain ⟨c, hd⟩ : ∃ c, cores[i]? = some c := ⟨cores[i], by simp [hlt]⟩
    have hrow : (cores.map Cor.cells)[i]? = some c.cells := by rw [List.getElem?_map, hd]; rfl
    have hc4 := ((hcs _ (List.mem_of_getElem? hrow)).2 (codeT c.code) (.tail _ (.head _))).lst.2.1
    rw [List.length_map] at hc4
    obtain ⟨cn, cc⟩ := c
    have hcc : cc.length ≤ 9223372036854775807 := hc4
    conv => whnf
    refine ⟨rfl, (show (0 : Int) ≤ i by omega), (show (i : Int) < (List.map Cor.cells cores).length by rw [List.length_map]; omega), fun row hr => ?_⟩
    cases hrow.symm.trans hr
    conv => whnf
    refine ⟨rfl, (show (0 : Int) ≤ i by omega), (show (i : Int) < (List.map Cor.cells cores).length by rw [List.length_map]; omega), fun row hr => ?_⟩
    cases hrow.symm.trans hr
    conv => whnf
    iterate 4 (refine csplit (fun h => absurd h (by simp)) (fun _ => ?_); conv => whnf)
    refine ⟨rfl, (show (0 : Int) ≤ i by omega), (show (i : Int) < (List.map Cor.cells cores).length by rw [List.length_map]; omega), fun row hr => ?_⟩
    cases hrow.symm.trans hr
    conv => whnf
    iterate 7 (refine csplit (fun h => absurd h (by simp)) (fun _ => ?_); conv => whnf)
    refine ⟨rfl, (show (0 : Int) ≤ i by omega), (show (i : Int) < (List.map Cor.cells cores).length by rw [List.length_map]; omega), fun row hr => ?_⟩
    cases hrow.symm.trans hr
    conv => whnf
    iterate 5 (refine csplit (fun h => absurd h (by simp)) (fun _ => ?_); conv => whnf)
    refine ⟨by kernel_rfl, fun _ => ?_⟩
    conv => whnf
    (repeat' (refine csplit (fun h => absurd h (by simp)) (fun _ => ?_); conv => whnf))
    refine LoopL.by (fun k : Nat => ⟨[(2, .ptr 0 0), (3, .ptr 1 0), (6, .tr (ti i)), (7, .tr (ti k))], [(0, obB (.tr (intsT memory)) shared locks buffer (.tr (coresT cores))), (1, obB (.tr (intsT memory)) shared locks buffer (.tr (coresT cores)))], 10⟩) (fun k => k ≤ cc.length) (fun k => cc.length - k) 0 [0, 1] []
      (Sub.mk' rfl ⟨⟨rfl, rfl⟩, ⟨rfl, rfl⟩, .inl rfl, .inl rfl, trivial⟩ aut rfl rfl) (Nat.zero_le _) ?_
    rintro k hk -
    conv => whnf
    refine ⟨rfl, (show (0 : Int) ≤ i by omega), (show (i : Int) < (List.map Cor.cells cores).length by rw [List.length_map]; omega), fun row hr => ?_⟩; cases hrow.symm.trans hr; conv => whnf
    refine csplit (fun hlt2 => ?_) (fun hge2 => ?_)
    · have hlt2 : k < cc.length := by have := of_decide_eq_true hlt2; rw [List.length_map] at this; replace this : (k : Int) < cc.length := this; omega
      obtain ⟨x, hx⟩ : ∃ x, cc[k]? = some x := ⟨cc[k], by simp [hlt2]⟩
      have hrowx : (cc.map Ins.cells)[k]? = some x.cells := by rw [List.getElem?_map, hx]; rfl
      conv => whnf
      refine ⟨rfl, (show (0 : Int) ≤ i by omega), (show (i : Int) < (List.map Cor.cells cores).length by rw [List.length_map]; omega), fun row hr => ?_⟩; cases hrow.symm.trans hr; conv => whnf
      refine ⟨rfl, (show (0 : Int) ≤ k by omega), (show (k : Int) < (List.map Ins.cells cc).length by rw [List.length_map]; omega), fun row hr => ?_⟩; cases hrowx.symm.trans hr; conv => whnf
      refine ⟨rfl, (show (0 : Int) ≤ i by omega), (show (i : Int) < (List.map Cor.cells cores).length by rw [List.length_map]; omega), fun row hr => ?_⟩; cases hrow.symm.trans hr; conv => whnf
      refine ⟨rfl, (show (0 : Int) ≤ k by omega), (show (k : Int) < (List.map Ins.cells cc).length by rw [List.length_map]; omega), fun row hr => ?_⟩; cases hrowx.symm.trans hr; conv => whnf
      refine ⟨by kernel_rfl, fun _ => ?_⟩
      conv => whnf
      refine csplit (fun h => absurd h (by simp)) (fun _ => ?_)
      conv => whnf
      exact ⟨k + 1, [0, 1], [], Sub.mk' rfl ⟨⟨rfl, rfl⟩, ⟨rfl, rfl⟩, .inl rfl, .inl (ti_succ hlt2 hcc), trivial⟩ aut rfl rfl, hlt2, by omega⟩
    · conv => whnf
      refine ⟨fun _ => ?_, fun h => absurd rfl h⟩
      conv => whnf
      exact ⟨i + 1, [0, 1], [], Sub.mk' rfl ⟨⟨rfl, rfl⟩, ⟨rfl, rfl⟩, .inl (ti_succ hlt hcl), trivial⟩ aut rfl rfl, hlt, by omega⟩
  · conv => whnf
    refine ⟨fun _ => ?_, fun h => absurd rfl h⟩
    conv => whnf
    exact ⟨.inl rfl, trivial⟩
end Go.Proofs.YtcpolpbeimhgfaaGreat.am
