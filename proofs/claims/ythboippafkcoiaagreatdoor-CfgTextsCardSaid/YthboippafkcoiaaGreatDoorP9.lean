/- Contracts of cfg: named. Contracts of cfg: parts, right. Contracts of cfg: slices.Clone and slices.Equal of numbers. Contracts of cfg: held. Contracts of cfg: Check. Parse, of the package and of the reference. Parse of the package: a text that begins with no minus. Parse of the package: a text that begins with a minus. Print, of the package and of the reference. Parse, at every text. Print of the reference. -/
import Derived.Test.YthboippafkcoiaaGreatDoorP8
import Derived.Test.YthboippafkcoiaaGreatDoorProg
import Derived.WalkLawsBesides
import Derived.Deep.WholeRow
import Derived.Lib.Hide
import Derived.Below
import Derived.Test.YthboippafkcoiaaGreatDoorP5
import Derived.Lib.Mul64
import Derived.Laws.Bits64b
import Derived.ShutString
import Derived.Deep.RegionWith
set_option linter.all false

namespace Go.Proofs.YthboippafkcoiaaGreatDoor.am
open Go Go.Proofs
set_option linter.all false

structure Un where
  shared : List Decl
  locks : List Decl
  graphs : List Gr
def Un.cells (u : Un) : List Tr := [declsT u.shared, declsT u.locks, graphsT u.graphs]
def Un.av (u : Un) : AV := .agg (u.cells.map .tr)
/-! the names that are taken -/
def hasS : List ByteArray → ByteArray → Bool
  | [], _ => false
  | x :: r, s => bif s.toList == x.toList then true else hasS r s
def addS : List ByteArray → ByteArray → List ByteArray
  | [], s => [s]
  | x :: r, s => bif s.toList == x.toList then s :: r else x :: addS r s
def sMap (l : List ByteArray) : List (MK × Tr) := l.map fun x => (.ks x, tb true)
theorem mget_sMap : ∀ (l : List ByteArray) (s : ByteArray), (mget (sMap l) (.ks s)).getD (Tr.v Z.b.val) = tb (hasS l s)
  | [], s => rfl
  | x :: r, s => by
    show (bif s.toList == x.toList then some (tb true) else mget (sMap r) (.ks s)).getD (Tr.v Z.b.val) = tb (bif s.toList == x.toList then true else hasS r s)
    cases (s.toList == x.toList) with
    | true => rfl
    | false => exact mget_sMap r s
theorem mput_sMap : ∀ (l : List ByteArray) (s : ByteArray), mput (sMap l) (.ks s) (tb true) = sMap (addS l s)
  | [], s => rfl
  | x :: r, s => by
    show (bif s.toList == x.toList then (.ks s, tb true) :: sMap r else (.ks x, tb true) :: mput (sMap r) (.ks s) (tb true)) = sMap (bif s.toList == x.toList then s :: r else x :: addS r s)
    rw [mput_sMap r s]
    cases (s.toList == x.toList) <;> rfl
def addB (l : List ByteArray) (s : ByteArray) : Bool := nameB s && !hasS l s
def nm3 : List ByteArray → List Gr → Bool
  | _, [] => true
  | l, g :: r => bif addB l g.name then nm3 (addS l g.name) r else false
def nm2 (gs : List Gr) : List ByteArray → List Decl → Bool
  | l, [] => nm3 l gs
  | l, d :: r => bif addB l d.name then (bif d.word != 0 then false else nm2 gs (addS l d.name) r) else false
def nm1 (ks : List Decl) (gs : List Gr) : List ByteArray → List Decl → Bool
  | l, [] => nm2 gs l ks
  | l, d :: r => bif addB l d.name then nm1 ks gs (addS l d.name) r else false
def lensB (u : Un) : Bool := decide ((u.shared.length : Int) > 64) || decide ((u.locks.length : Int) > 16) || decide ((u.graphs.length : Int) > 8)
def namedB (u : Un) : Bool := bif lensB u then false else nm1 u.locks u.graphs [] u.shared
abbrev seenB (l : List ByteArray) : Blk := .map .string (sMap l)
abbrev mpB (h : Nat) : Blk := .cells 156 [.mp h]
set_option maxRecDepth 100000 in
theorem k_add (l : List ByteArray) (s : ByteArray) : K 107 [.tr (ts s), .ptr 0 0] [mpB 1, seenB l] (.ret (.tr (tb (addB l s)))) [some (mpB 1), some (seenB (addS l s))] := by
  have hn := k41 s
  refine Ctr.of hT hmix Tryz.func107 rfl (fun _ _ => by kernel_rfl) rfl fun hok => ?_
  clear hok
  conv => whnf
  refine acall.pure _ (hn) rfl rfl fun _ => ?_
  conv => whnf
  cases hnb : nameB s with
  | false =>
    conv => whnf
    exact ⟨.inl (by unfold addB; rw [hnb]; rfl), ⟨rfl, rfl, trivial⟩, ⟨rfl, mput_sMap l s⟩, trivial⟩
  | true =>
    conv => whnf
    rw [mget_sMap]
    cases hhs : hasS l s with
    | false =>
      conv => whnf
      exact ⟨.inl (by unfold addB; rw [hnb, hhs]; rfl), ⟨rfl, rfl, trivial⟩, ⟨rfl, mput_sMap l s⟩, trivial⟩
    | true =>
      conv => whnf
      exact ⟨.inl (by unfold addB; rw [hnb, hhs]; rfl), ⟨rfl, rfl, trivial⟩, ⟨rfl, mput_sMap l s⟩, trivial⟩
theorem decl_get {l : List Decl} {i : Nat} {row : List Tr} (h : (l.map Decl.cells)[i]? = some row) : ∃ d, l[i]? = some d ∧ row = d.cells := by
  rw [List.getElem?_map, Option.map_eq_some_iff] at h
  obtain ⟨d, h1, rfl⟩ := h
  exact ⟨d, h1, rfl⟩
theorem gr_get {l : List Gr} {i : Nat} {row : List Tr} (h : (l.map Gr.cells)[i]? = some row) : ∃ d, l[i]? = some d ∧ row = d.cells := by
  rw [List.getElem?_map, Option.map_eq_some_iff] at h
  obtain ⟨d, h1, rfl⟩ := h
  exact ⟨d, h1, rfl⟩
set_option maxRecDepth 100000 in
set_option maxHeartbeats 2000000 in
theorem k_named (u : Un) : K 68 [u.av] [] (.ret (.tr (tb (namedB u)))) [] := by
  have hls : (u.shared.map Decl.cells).length = u.shared.length := List.length_map ..
  have hll : (u.locks.map Decl.cells).length = u.locks.length := List.length_map ..
  have hlg : (u.graphs.map Gr.cells).length = u.graphs.length := List.length_map ..
  have hadd := k_add
  refine Ctr.of hT hmix Tryz.func68 rfl (fun _ _ => by kernel_rfl) rfl fun hok => ?_
  obtain ⟨_, hl1, _⟩ := ((hok.slot 0 rfl).agg _ (.head _)).tr.lst
  obtain ⟨_, hl2, _⟩ := ((hok.slot 0 rfl).agg _ (.tail _ (.head _))).tr.lst
  obtain ⟨_, hl3, _⟩ := ((hok.slot 0 rfl).agg _ (.tail _ (.tail _ (.head _)))).tr.lst
  rw [List.length_map] at hl1 hl2 hl3
  clear hok
  conv => whnf
  cases h1 : decide (((u.shared.map Decl.cells).length : Int) > 64) with
  | true =>
    conv => whnf
    exact ⟨.inl (by rw [hls] at h1; unfold namedB lensB; rw [h1]; rfl), trivial⟩
  | false =>
  conv => whnf
  cases h2 : decide (((u.locks.map Decl.cells).length : Int) > 16) with
  | true =>
    conv => whnf
    exact ⟨.inl (by rw [hls] at h1; rw [hll] at h2; unfold namedB lensB; rw [h1, h2]; rfl), trivial⟩
  | false =>
  conv => whnf
  cases h3 : decide (((u.graphs.map Gr.cells).length : Int) > 8) with
  | true =>
    conv => whnf
    exact ⟨.inl (by rw [hls] at h1; rw [hll] at h2; rw [hlg] at h3; unfold namedB lensB; rw [h1, h2, h3]; rfl), trivial⟩
  | false =>
  have hN : namedB u = nm1 u.locks u.graphs [] u.shared := by rw [hls] at h1; rw [hll] at h2; rw [hlg] at h3; unfold namedB lensB; rw [h1, h2, h3]; rfl
  generalize namedB u = R at hN ⊢
  clear h1 h2 h3
  conv => whnf
  refine LoopL.by (fun x : List ByteArray × Nat => ⟨[(1, .ptr 0 0), (4, .fn 107 [.ptr 1 0]), (30, .tr (declsT u.shared)), (31, .tr (ti (u.shared.length : Nat))), (32, .tr (ti (x.2 : Nat)))], [(0, .cells 29 [.tr (declsT u.shared), .tr (declsT u.locks), .tr (graphsT u.graphs)]), (1, mpB 2), (2, seenB x.1)], 10⟩) (fun x => x.2 ≤ u.shared.length ∧ R = nm1 u.locks u.graphs x.1 (u.shared.drop x.2)) (fun x => u.shared.length - x.2) ([], 0) [_, _, _] []
    (Sub.mk' rfl ⟨⟨rfl, rfl⟩, ⟨rfl, ⟨rfl, rfl⟩, trivial⟩, .inl rfl, .inl (by rw [← hls]), .inl rfl, trivial⟩ ⟨⟨rfl, .inl rfl, .inl rfl, .inl rfl, trivial⟩, ⟨rfl, rfl, trivial⟩, ⟨rfl, rfl⟩, trivial⟩ rfl rfl) ⟨Nat.zero_le _, hN⟩ ?_
  clear hN
  rintro ⟨l, i⟩ ⟨hi, hN⟩ -
  simp only at hi hN
  conv => whnf
  refine csplit (fun hit => ?_) (fun hit => ?_)
  · have hit : i < u.shared.length := by have : decide ((i : Int) < (u.shared.length : Int)) = true := hit; have := of_decide_eq_true this; omega
    obtain ⟨d, hd⟩ : ∃ d, u.shared[i]? = some d := ⟨_, List.getElem?_eq_getElem hit⟩
    rw [drop_cons hd] at hN
    obtain ⟨dn, dw, da⟩ := d
    conv => whnf
    refine ⟨rfl, (show (0 : Int) ≤ i by omega), (show (i : Int) < ((u.shared.map Decl.cells).length : Int) by omega), fun row hrow => ?_⟩
    obtain ⟨d', hd', rfl⟩ := decl_get hrow
    obtain rfl := Option.some.inj (hd.symm.trans hd')
    clear hrow hd' hd
    conv => whnf
    refine acall.au [1, 2] [] (hadd l dn) ?_
    intro _
    conv => whnf
    cases hA : addB l dn with
    | false =>
      conv => whnf
      exact ⟨.inl (by rw [hN]; show tb false = tb (bif addB l dn then _ else false); rw [hA]; rfl), trivial⟩
    | true =>
      replace hN : R = nm1 u.locks u.graphs (addS l dn) (u.shared.drop (i + 1)) := by
        rw [hN]; show (bif addB l dn then _ else false) = _; rw [hA]; rfl
      conv => whnf
      exact ⟨(addS l dn, i + 1), [0, 1, 2], [], Sub.mk' rfl ⟨⟨rfl, rfl⟩, ⟨rfl, ⟨rfl, rfl⟩, trivial⟩, .inl rfl, .inl rfl, .inl (ti_succ hit (by omega)), trivial⟩ ⟨⟨rfl, .inl rfl, .inl rfl, .inl rfl, trivial⟩, ⟨rfl, rfl, trivial⟩, ⟨rfl, rfl⟩, trivial⟩ rfl rfl, ⟨hit, hN⟩, by show u.shared.length - (i + 1) < u.shared.length - i; omega⟩
  have hit : u.shared.length ≤ i := by have : decide ((i : Int) < (u.shared.length : Int)) = false := hit; have := of_decide_eq_false this; omega
  rw [List.drop_of_length_le hit] at hN
  conv => whnf
  refine ⟨fun _ => ?_, fun h => absurd rfl h⟩
  conv => whnf
  refine LoopL.by (fun x : List ByteArray × Nat => ⟨[(1, .ptr 0 0), (4, .fn 107 [.ptr 1 0]), (43, .tr (declsT u.locks)), (44, .tr (ti (u.locks.length : Nat))), (45, .tr (ti (x.2 : Nat)))], [(0, .cells 29 [.tr (declsT u.shared), .tr (declsT u.locks), .tr (graphsT u.graphs)]), (1, mpB 2), (2, seenB x.1)], 10⟩) (fun x => x.2 ≤ u.locks.length ∧ R = nm2 u.graphs x.1 (u.locks.drop x.2)) (fun x => u.locks.length - x.2) (l, 0) [0, 1, 2] []
    (Sub.mk' rfl ⟨⟨rfl, rfl⟩, ⟨rfl, ⟨rfl, rfl⟩, trivial⟩, .inl rfl, .inl (by rw [← hll]), .inl rfl, trivial⟩ ⟨⟨rfl, .inl rfl, .inl rfl, .inl rfl, trivial⟩, ⟨rfl, rfl, trivial⟩, ⟨rfl, rfl⟩, trivial⟩ rfl rfl) ⟨Nat.zero_le _, hN⟩ ?_
  clear hN
  rintro ⟨l, i⟩ ⟨hi, hN⟩ -
  simp only at hi hN
  conv => whnf
  refine csplit (fun hit => ?_) (fun hit => ?_)
  · have hit : i < u.locks.length := by have : decide ((i : Int) < (u.locks.length : Int)) = true := hit; have := of_decide_eq_true this; omega
    obtain ⟨d, hd⟩ : ∃ d, u.locks[i]? = some d := ⟨_, List.getElem?_eq_getElem hit⟩
    rw [drop_cons hd] at hN
    obtain ⟨dn, dw, da⟩ := d
    conv => whnf
    refine ⟨rfl, (show (0 : Int) ≤ i by omega), (show (i : Int) < ((u.locks.map Decl.cells).length : Int) by omega), fun row hrow => ?_⟩
    obtain ⟨d', hd', rfl⟩ := decl_get hrow
    obtain rfl := Option.some.inj (hd.symm.trans hd')
    clear hrow hd' hd
    conv => whnf
    refine acall.au [1, 2] [] (hadd l dn) ?_
    intro _
    conv => whnf
    cases hA : addB l dn with
    | false =>
      conv => whnf
      exact ⟨.inl (by rw [hN]; show tb false = tb (bif addB l dn then _ else false); rw [hA]; rfl), trivial⟩
    | true =>
      by_cases hw : dw = 0
      · subst hw
        replace hN : R = nm2 u.graphs (addS l dn) (u.locks.drop (i + 1)) := by
          rw [hN]; show (bif addB l dn then _ else false) = _; rw [hA]; rfl
        conv => whnf
        exact ⟨(addS l dn, i + 1), [0, 1, 2], [], Sub.mk' rfl ⟨⟨rfl, rfl⟩, ⟨rfl, ⟨rfl, rfl⟩, trivial⟩, .inl rfl, .inl rfl, .inl (ti_succ hit (by omega)), trivial⟩ ⟨⟨rfl, .inl rfl, .inl rfl, .inl rfl, trivial⟩, ⟨rfl, rfl, trivial⟩, ⟨rfl, rfl⟩, trivial⟩ rfl rfl, ⟨hit, hN⟩, by show u.locks.length - (i + 1) < u.locks.length - i; omega⟩
      · have e : (dw != 0) = true := bne_iff_ne.2 hw
        replace hN : R = false := by
          rw [hN]; show (bif addB l dn then (bif dw != 0 then false else _) else false) = _; rw [hA, e]; rfl
        conv => whnf
        rw [e]
        conv => whnf
        exact ⟨.inl (by rw [hN]), trivial⟩
  have hit : u.locks.length ≤ i := by have : decide ((i : Int) < (u.locks.length : Int)) = false := hit; have := of_decide_eq_false this; omega
  rw [List.drop_of_length_le hit] at hN
  conv => whnf
  refine ⟨fun _ => ?_, fun h => absurd rfl h⟩
  conv => whnf
  refine LoopL.by (fun x : List ByteArray × Nat => ⟨[(1, .ptr 0 0), (4, .fn 107 [.ptr 1 0]), (61, .tr (graphsT u.graphs)), (62, .tr (ti (u.graphs.length : Nat))), (63, .tr (ti (x.2 : Nat)))], [(0, .cells 29 [.tr (declsT u.shared), .tr (declsT u.locks), .tr (graphsT u.graphs)]), (1, mpB 2), (2, seenB x.1)], 10⟩) (fun x => x.2 ≤ u.graphs.length ∧ R = nm3 x.1 (u.graphs.drop x.2)) (fun x => u.graphs.length - x.2) (l, 0) [0, 1, 2] []
    (Sub.mk' rfl ⟨⟨rfl, rfl⟩, ⟨rfl, ⟨rfl, rfl⟩, trivial⟩, .inl rfl, .inl (by rw [← hlg]), .inl rfl, trivial⟩ ⟨⟨rfl, .inl rfl, .inl rfl, .inl rfl, trivial⟩, ⟨rfl, rfl, trivial⟩, ⟨rfl, rfl⟩, trivial⟩ rfl rfl) ⟨Nat.zero_le _, hN⟩ ?_
  clear hN
  rintro ⟨l, i⟩ ⟨hi, hN⟩ -
  simp only at hi hN
  conv => whnf
  refine csplit (fun hit => ?_) (fun hit => ?_)
  · have hit : i < u.graphs.length := by have : decide ((i : Int) < (u.graphs.length : Int)) = true := hit; have := of_decide_eq_true this; omega
    obtain ⟨d, hd⟩ : ∃ d, u.graphs[i]? = some d := ⟨_, List.getElem?_eq_getElem hit⟩
    rw [drop_cons hd] at hN
    obtain ⟨dn, lc, sl, ns⟩ := d
    conv => whnf
    refine ⟨rfl, (show (0 : Int) ≤ i by omega), (show (i : Int) < ((u.graphs.map Gr.cells).length : Int) by omega), fun row hrow => ?_⟩
    obtain ⟨d', hd', rfl⟩ := gr_get hrow
    obtain rfl := Option.some.inj (hd.symm.trans hd')
    clear hrow hd' hd
    conv => whnf
    refine acall.au [1, 2] [] (hadd l dn) ?_
    intro _
    conv => whnf
    cases hA : addB l dn with
    | false =>
      conv => whnf
      exact ⟨.inl (by rw [hN]; show tb false = tb (bif addB l dn then _ else false); rw [hA]; rfl), trivial⟩
    | true =>
      replace hN : R = nm3 (addS l dn) (u.graphs.drop (i + 1)) := by
        rw [hN]; show (bif addB l dn then _ else false) = _; rw [hA]; rfl
      conv => whnf
      exact ⟨(addS l dn, i + 1), [0, 1, 2], [], Sub.mk' rfl ⟨⟨rfl, rfl⟩, ⟨rfl, ⟨rfl, rfl⟩, trivial⟩, .inl rfl, .inl rfl, .inl (ti_succ hit (by omega)), trivial⟩ ⟨⟨rfl, .inl rfl, .inl rfl, .inl rfl, trivial⟩, ⟨rfl, rfl, trivial⟩, ⟨rfl, rfl⟩, trivial⟩ rfl rfl, ⟨hit, hN⟩, by show u.graphs.length - (i + 1) < u.graphs.length - i; omega⟩
  have hit : u.graphs.length ≤ i := by have : decide ((i : Int) < (u.graphs.length : Int)) = false := hit; have := of_decide_eq_false this; omega
  rw [List.drop_of_length_le hit] at hN
  conv => whnf
  refine ⟨fun _ => ?_, fun h => absurd rfl h⟩
  conv => whnf
  exact ⟨.inl (by rw [hN]; rfl), trivial⟩
end Go.Proofs.YthboippafkcoiaaGreatDoor.am

namespace Go.Proofs.YthboippafkcoiaaGreatDoor.am
open Go Go.Proofs
set_option linter.all false

def partsI (kind op : Int) : Int := bif kind == 1 then (bif two op then 59 else 43) else bif kind == 2 then 38 else bif kind == 3 then 44 else bif kind == 4 then 46 else bif kind == 5 then 36 else bif kind == 6 then 36 else bif kind == 7 then 40 else bif kind == 8 then 104 else 0
theorem kinds {k : Int} (h1 : (k == 0) = false) (h2 : decide (k ≥ 10) = false) (h0 : 0 ≤ k) : k = 1 ∨ k = 2 ∨ k = 3 ∨ k = 4 ∨ k = 5 ∨ k = 6 ∨ k = 7 ∨ k = 8 ∨ k = 9 := by
  have := beq_eq_false_iff_ne.1 h1
  have := of_decide_eq_false h2
  omega
set_option maxRecDepth 100000 in
theorem k_parts (n : Nd) (hk : n.kind = 1 ∨ n.kind = 2 ∨ n.kind = 3 ∨ n.kind = 4 ∨ n.kind = 5 ∨ n.kind = 6 ∨ n.kind = 7 ∨ n.kind = 8 ∨ n.kind = 9) : K 109 [n.av] [] (.ret (.tr (tu (partsI n.kind n.op)))) [] := by
  obtain ⟨kind, op, slot, thing, ⟨sa, ka, wa⟩, ⟨sb, kb, wb⟩, next, els, origin⟩ := n
  simp only at hk
  have ht := k_two op
  rcases hk with rfl | rfl | rfl | rfl | rfl | rfl | rfl | rfl | rfl
  · refine Ctr.of hT hmix Tryz.func109 rfl (fun _ _ => by kernel_rfl) rfl fun hok => ?_
    clear hok
    conv => whnf
    refine ⟨of_decide_eq_true rfl, of_decide_eq_true rfl, ?_⟩
    conv => whnf
    refine acall.pure _ (ht) rfl rfl fun _ => ?_
    conv => whnf
    cases h2 : two op with
    | true =>
      conv => whnf
      exact ⟨.inl (congrArg tu (by unfold partsI; rw [h2]; rfl)), trivial⟩
    | false =>
      conv => whnf
      exact ⟨.inl (congrArg tu (by unfold partsI; rw [h2]; rfl)), trivial⟩
  all_goals
    refine Ctr.of hT hmix Tryz.func109 rfl (fun _ _ => by kernel_rfl) rfl fun hok => ?_
    clear hok
    conv => whnf
    refine ⟨of_decide_eq_true rfl, of_decide_eq_true rfl, ?_⟩
    conv => whnf
    exact ⟨.inl rfl, trivial⟩
abbrev andP (p has : Int) : Int := IntKind.u8.wrap ((BitVec.ofInt IntKind.u8.bits p &&& BitVec.ofInt IntKind.u8.bits has).toNat : Int)
def withinB (p has k most : Int) : Bool := (andP p has == 0 && k == 0) || (andP p has != 0 && decide (k ≥ 0) && decide (k < most))
def valueB (p has : Int) (v : Val) (slots : Int) : Bool := bif andP p has == 0 then (v.s == false && (v.k == 0 && (v.w == 0 && true))) else bif v.s then (decide (v.k ≥ 0) && decide (v.k < slots) && v.w == 0) else v.k == 0
abbrev partB (p : Int) : Blk := .cells 158 [.tr (tu p)]
set_option maxRecDepth 100000 in
theorem k_within (p has k most : Int) : K 110 [.tr (ti k), .tr (tu has), .tr (ti most), .ptr 0 0] [partB p] (.ret (.tr (tb (withinB p has k most)))) [some (partB p)] := by
  refine Ctr.of hT hmix Tryz.func110 rfl (fun _ _ => by kernel_rfl) rfl fun hok => ?_
  clear hok
  conv => whnf
  cases h1 : (andP p has == 0) with
  | true =>
    have e1 : (andP p has != 0) = false := by rw [bne, h1]; rfl
    conv => whnf
    cases h2 : (k == 0) with
    | true =>
      conv => whnf
      exact ⟨.inl (congrArg tb (by unfold withinB; rw [h1, h2]; rfl)), ⟨rfl, .inl rfl, trivial⟩, trivial⟩
    | false =>
      conv => whnf
      rw [e1]
      conv => whnf
      exact ⟨.inl (congrArg tb (by unfold withinB; rw [h1, h2, e1]; rfl)), ⟨rfl, .inl rfl, trivial⟩, trivial⟩
  | false =>
    have e1 : (andP p has != 0) = true := by rw [bne, h1]; rfl
    conv => whnf
    rw [e1]
    conv => whnf
    cases h2 : decide (k ≥ 0) with
    | false =>
      conv => whnf
      exact ⟨.inl (congrArg tb (by unfold withinB; rw [h1, h2, e1]; rfl)), ⟨rfl, .inl rfl, trivial⟩, trivial⟩
    | true =>
      conv => whnf
      cases h3 : decide (k < most) with
      | false =>
        conv => whnf
        exact ⟨.inl (congrArg tb (by unfold withinB; rw [h1, h2, h3, e1]; rfl)), ⟨rfl, .inl rfl, trivial⟩, trivial⟩
      | true =>
        conv => whnf
        exact ⟨.inl (congrArg tb (by unfold withinB; rw [h1, h2, h3, e1]; rfl)), ⟨rfl, .inl rfl, trivial⟩, trivial⟩
abbrev grBl (g : Gr) : Blk := .cells 50 (g.cells.map .tr)
set_option maxRecDepth 100000 in
theorem k_valueR (p has : Int) (v : Val) (g : Gr) : K 111 [.agg [.tr (tb v.s), .tr (ti v.k), .tr (ti v.w)], .tr (tu has), .ptr 0 0, .ptr 1 0] [partB p, grBl g] (.ret (.tr (tb (valueB p has v g.slots)))) [some (partB p), some (grBl g)] := by
  refine Ctr.of hT hmix Tryz.func111 rfl (fun _ _ => by kernel_rfl) rfl fun hok => ?_
  clear hok
  conv => whnf
  cases h1 : (andP p has == 0) with
  | true =>
    conv => whnf
    exact ⟨.inl (congrArg tb (by unfold valueB; rw [h1]; rfl)), ⟨rfl, .inl rfl, trivial⟩, ⟨rfl, .inl rfl, .inl rfl, .inl rfl, .inl rfl, trivial⟩, trivial⟩
  | false =>
    conv => whnf
    cases h2 : v.s with
    | false =>
      conv => whnf
      exact ⟨.inl (congrArg tb (by unfold valueB; rw [h1, h2]; rfl)), ⟨rfl, .inl rfl, trivial⟩, ⟨rfl, .inl rfl, .inl rfl, .inl rfl, .inl rfl, trivial⟩, trivial⟩
    | true =>
      conv => whnf
      cases h3 : decide (v.k ≥ 0) with
      | false =>
        conv => whnf
        exact ⟨.inl (congrArg tb (by unfold valueB; rw [h1, h2, h3]; rfl)), ⟨rfl, .inl rfl, trivial⟩, ⟨rfl, .inl rfl, .inl rfl, .inl rfl, .inl rfl, trivial⟩, trivial⟩
      | true =>
        conv => whnf
        cases h4 : decide (v.k < g.slots) with
        | false =>
          conv => whnf
          exact ⟨.inl (congrArg tb (by unfold valueB; rw [h1, h2, h3, h4]; rfl)), ⟨rfl, .inl rfl, trivial⟩, ⟨rfl, .inl rfl, .inl rfl, .inl rfl, .inl rfl, trivial⟩, trivial⟩
        | true =>
          conv => whnf
          exact ⟨.inl (congrArg tb (by unfold valueB; rw [h1, h2, h3, h4]; rfl)), ⟨rfl, .inl rfl, trivial⟩, ⟨rfl, .inl rfl, .inl rfl, .inl rfl, .inl rfl, trivial⟩, trivial⟩
def thingsI (u : Un) (n : Nd) : Int := bif n.kind == 5 then (u.locks.length : Int) else bif n.kind == 6 then (u.locks.length : Int) else (u.shared.length : Int)
def fieldsR (u : Un) (g : Gr) (n : Nd) (p : Int) : Bool := withinB p 1 n.op 19 && withinB p 2 n.slot g.slots && withinB p 4 n.thing (thingsI u n) && withinB p 32 n.next g.nodes.length && withinB p 64 n.els g.nodes.length && valueB p 8 n.a g.slots && valueB p 16 n.b g.slots
def headR (n : Nd) : Bool := n.kind == 0 || decide (n.kind ≥ 10) || decide (n.origin < 0) || decide (n.origin ≥ 4096)
def rightB (u : Un) (g : Gr) (n : Nd) : Bool := bif headR n then false else fieldsR u g n (partsI n.kind n.op)
set_option maxRecDepth 100000 in
set_option maxHeartbeats 2000000 in
theorem k_right (u : Un) (g : Gr) (n : Nd) (hk0 : 0 ≤ n.kind) (hop : 0 ≤ n.op ∧ n.op ≤ 255) : K 69 [u.av, g.av, n.av] [] (.ret (.tr (tb (rightB u g n)))) [] := by
  have hw := k_within
  have hv := k_valueR
  refine Ctr.cut [9] hT hmix Tryz.func69 rfl (fun _ _ => by kernel_rfl) rfl fun hok => ?_
  clear hok
  conv => whnf
  cases h1 : (n.kind == 0) with
  | true =>
    conv => whnf
    exact ⟨.inl (congrArg tb (by unfold rightB headR; rw [h1]; rfl)), trivial⟩
  | false =>
  conv => whnf
  cases h2 : decide (n.kind ≥ 10) with
  | true =>
    conv => whnf
    exact ⟨.inl (congrArg tb (by unfold rightB headR; rw [h1, h2]; rfl)), trivial⟩
  | false =>
  conv => whnf
  cases h3 : decide (n.origin < 0) with
  | true =>
    conv => whnf
    exact ⟨.inl (congrArg tb (by unfold rightB headR; rw [h1, h2, h3]; rfl)), trivial⟩
  | false =>
  conv => whnf
  cases h4 : decide (n.origin ≥ 4096) with
  | true =>
    conv => whnf
    exact ⟨.inl (congrArg tb (by unfold rightB headR; rw [h1, h2, h3, h4]; rfl)), trivial⟩
  | false =>
  have hp := k_parts n (kinds h1 h2 hk0)
  have hR : rightB u g n = fieldsR u g n (partsI n.kind n.op) := by unfold rightB headR; rw [h1, h2, h3, h4]; rfl
  rw [hR]
  generalize partsI n.kind n.op = p at hp hR ⊢
  clear h1 h2 h3 h4 hR
  conv => whnf
  refine acall.pure _ (hp) rfl rfl fun _ => ?_
  conv => whnf
  refine CutL.by (fun _ : Unit => ⟨[(4, .ptr 0 0), (5, .ptr 1 0), (8, .fn 110 [.ptr 2 0]), (9, .fn 111 [.ptr 2 0, .ptr 0 0]), (10, .tr (ti (thingsI u n)))], [(0, grBl g), (1, .cells 75 (n.cells.map .tr)), (2, partB p)], 10⟩) (fun _ => True) ?_ ?_
  · conv => whnf
    cases h5 : (n.kind == 5) with
    | true =>
      conv => whnf
      exact ⟨(), [_, _, _], [], Sub.mk' rfl ⟨⟨rfl, rfl⟩, ⟨rfl, rfl⟩, ⟨rfl, ⟨rfl, rfl⟩, trivial⟩, ⟨rfl, ⟨rfl, rfl⟩, ⟨rfl, rfl⟩, trivial⟩, .inl (congrArg ti (by unfold thingsI; rw [h5, List.length_map]; rfl)), trivial⟩ ⟨⟨rfl, .inl rfl, .inl rfl, .inl rfl, .inl rfl, trivial⟩, ⟨rfl, .inl rfl, .inl rfl, .inl rfl, .inl rfl, .inl rfl, .inl rfl, .inl rfl, .inl rfl, .inl rfl, .inl rfl, .inl rfl, .inl rfl, .inl rfl, trivial⟩, ⟨rfl, .inl rfl, trivial⟩, trivial⟩ rfl rfl, trivial⟩
    | false =>
      conv => whnf
      cases h6 : (n.kind == 6) with
      | true =>
        conv => whnf
        exact ⟨(), [_, _, _], [], Sub.mk' rfl ⟨⟨rfl, rfl⟩, ⟨rfl, rfl⟩, ⟨rfl, ⟨rfl, rfl⟩, trivial⟩, ⟨rfl, ⟨rfl, rfl⟩, ⟨rfl, rfl⟩, trivial⟩, .inl (congrArg ti (by unfold thingsI; rw [h5, h6, List.length_map]; rfl)), trivial⟩ ⟨⟨rfl, .inl rfl, .inl rfl, .inl rfl, .inl rfl, trivial⟩, ⟨rfl, .inl rfl, .inl rfl, .inl rfl, .inl rfl, .inl rfl, .inl rfl, .inl rfl, .inl rfl, .inl rfl, .inl rfl, .inl rfl, .inl rfl, .inl rfl, trivial⟩, ⟨rfl, .inl rfl, trivial⟩, trivial⟩ rfl rfl, trivial⟩
      | false =>
        conv => whnf
        exact ⟨(), [_, _, _], [], Sub.mk' rfl ⟨⟨rfl, rfl⟩, ⟨rfl, rfl⟩, ⟨rfl, ⟨rfl, rfl⟩, trivial⟩, ⟨rfl, ⟨rfl, rfl⟩, ⟨rfl, rfl⟩, trivial⟩, .inl (congrArg ti (by unfold thingsI; rw [h5, h6, List.length_map]; rfl)), trivial⟩ ⟨⟨rfl, .inl rfl, .inl rfl, .inl rfl, .inl rfl, trivial⟩, ⟨rfl, .inl rfl, .inl rfl, .inl rfl, .inl rfl, .inl rfl, .inl rfl, .inl rfl, .inl rfl, .inl rfl, .inl rfl, .inl rfl, .inl rfl, .inl rfl, trivial⟩, ⟨rfl, .inl rfl, trivial⟩, trivial⟩ rfl rfl, trivial⟩
  rintro - - -
  conv => whnf
  have hwo : IntKind.i64.wrap n.op = n.op := w64 (by omega) (by omega)
  have hnl : (((g.nodes.map Nd.cells).length : Nat) : Int) = (g.nodes.length : Int) := by rw [List.length_map]
  have hF : fieldsR u g n p = (withinB p 1 (IntKind.i64.wrap n.op) 19 && withinB p 2 n.slot g.slots && withinB p 4 n.thing (thingsI u n) && withinB p 32 n.next (((g.nodes.map Nd.cells).length : Nat) : Int) && withinB p 64 n.els (((g.nodes.map Nd.cells).length : Nat) : Int) && valueB p 8 n.a g.slots && valueB p 16 n.b g.slots) := by unfold fieldsR; rw [hwo, hnl]
  rw [hF]
  clear hF hwo hnl
  refine acall.au [2] [] (hw p 1 (IntKind.i64.wrap n.op) 19) ?_
  intro _
  conv => whnf
  cases c0 : withinB p 1 (IntKind.i64.wrap n.op) 19 with
  | false =>
    conv => whnf
    exact ⟨.inl rfl, trivial⟩
  | true =>
  conv => whnf
  refine acall.au [2] [] (hw p 2 n.slot g.slots) ?_
  intro _
  conv => whnf
  cases c1 : withinB p 2 n.slot g.slots with
  | false =>
    conv => whnf
    exact ⟨.inl rfl, trivial⟩
  | true =>
  conv => whnf
  refine acall.au [2] [] (hw p 4 n.thing (thingsI u n)) ?_
  intro _
  conv => whnf
  cases c2 : withinB p 4 n.thing (thingsI u n) with
  | false =>
    conv => whnf
    exact ⟨.inl rfl, trivial⟩
  | true =>
  conv => whnf
  refine acall.au [2] [] (hw p 32 n.next (((g.nodes.map Nd.cells).length : Nat) : Int)) ?_
  intro _
  conv => whnf
  cases c3 : withinB p 32 n.next (((g.nodes.map Nd.cells).length : Nat) : Int) with
  | false =>
    conv => whnf
    exact ⟨.inl rfl, trivial⟩
  | true =>
  conv => whnf
  refine acall.au [2] [] (hw p 64 n.els (((g.nodes.map Nd.cells).length : Nat) : Int)) ?_
  intro _
  conv => whnf
  cases c4 : withinB p 64 n.els (((g.nodes.map Nd.cells).length : Nat) : Int) with
  | false =>
    conv => whnf
    exact ⟨.inl rfl, trivial⟩
  | true =>
  conv => whnf
  refine acall.au [2, 0] [] (hv p 8 n.a g) ?_
  intro _
  conv => whnf
  cases c5 : valueB p 8 n.a g.slots with
  | false =>
    conv => whnf
    exact ⟨.inl rfl, trivial⟩
  | true =>
  conv => whnf
  refine acall.au [2, 0] [] (hv p 16 n.b g) ?_
  intro _
  conv => whnf
  cases c6 : valueB p 16 n.b g.slots with
  | false =>
    conv => whnf
    exact ⟨.inl rfl, trivial⟩
  | true =>
  conv => whnf
  exact ⟨.inl rfl, trivial⟩
end Go.Proofs.YthboippafkcoiaaGreatDoor.am

namespace Go.Proofs.YthboippafkcoiaaGreatDoor.am
open Go Go.Proofs
/-- the region that holds a slice, given as a tree, against nil: it is not nil where it has elements -/
theorem nil_region {X : Gh → World → Prop} {k N id nx d0 d1 d2 t e a1 a2 n B : Nat} {a3 : List Z} {a4 : Bool} {pos1 pos2 : String} {af1 af2 : Array Edge} {ty1 ty2 ty3 : Nat} {Q : QL} {tl : List (Nat × AV)} {bl : List (Nat × Option Blk)} {ops : Array Oper} {rows : List (List Tr)}
    (hops : ops = [⟨some d1, .move (.tmp d0), ty1, pos1, af1, none⟩, ⟨some d2, .binOp .eql t (.tmp d1) (.const (.slice none 0 0)) ty3, ty2, pos2, af2, none⟩].toArray)
    (ht : lk T t = some ⟨.slice e, a1, a2, a3, a4⟩) (h0 : lk tl d0 = some (.tr (.lst n B rows))) (hd1 : Nat.blt d1 N = true) (hd2 : Nat.blt d2 N = true) (hb : nx + 2 ≤ HMod)
    (h : ∀ b : Bool, (rows ≠ [] → b = false) → aopsL Tryz.prog T N ops nx Q [] 2 (putLs (putLs tl (some d1) (.tr (.lst n B rows))) (some d2) (.tr (tb b))) bl) :
    Wp X Tryz.prog k N (.region id ops false) (Ql Q) (LS.mk tl bl nx).st := by
  intro g0 g w0 w act hk hs
  refine wp_region_list ?_
  have hN := hs.size
  replace hd1 : d1 < N := Nat.le_of_ble_eq_true hd1
  replace hd2 : d2 < N := Nat.le_of_ble_eq_true hd2
  obtain ⟨_, hR⟩ := hs.fr d0 _ h0
  obtain ⟨ao, cap, f, hv, q1, q2, q3, q4, q5, q6⟩ := lst_inv hR.tr_inv
  obtain ⟨ti, u, zt, _, u2, u3, _⟩ := hT.info ht
  obtain rfl := D_slice u3
  have hb' := h ao.isNone (fun hne => by
    cases rows with
    | nil => exact absurd rfl hne
    | cons r rs =>
      obtain ⟨_, b, o, e1, _⟩ := q5 0 r rfl
      rw [e1]; rfl)
  have hto : ops.toList = [⟨some d1, .move (.tmp d0), ty1, pos1, af1, none⟩, ⟨some d2, .binOp .eql t (.tmp d1) (.const (.slice none 0 0)) ty3, ty2, pos2, af2, none⟩] := by rw [hops]
  rw [hto]
  have hev0 : act.eval (.tmp d0) = .slice ao rows.length cap := hv
  unfold wpList
  rw [if_pos (by simp [Region.wanted])]
  refine .inl ?_
  unfold Oper.wp
  rw [show (execOp act.eval ⟨some d1, .move (.tmp d0), ty1, pos1, af1, none⟩).run Tryz.prog w = .ok (.value (.slice ao rows.length cap)) w by simp [execOp, hev0]]
  show wpList Tryz.prog ops _ _ (act.put (some d1) (.slice ao rows.length cap)) _
  unfold wpList
  rw [if_pos (by simp [Region.wanted])]
  refine .inl ?_
  unfold Oper.wp
  have he : (act.put (some d1) (.slice ao rows.length cap)).eval (.tmp d1) = .slice ao rows.length cap := by
    show (act.tmps.setIfInBounds d1 _).getD d1 undef = _
    rw [getD_set (by omega), if_pos rfl]
  have heq : (Op.equal t (.slice ao rows.length cap) (.slice none 0 0)).run Tryz.prog w = .ok ao.isNone w := by
    show (Op.equalIn (9999 + 1) t (.slice ao rows.length cap) (.slice none 0 0)).run Tryz.prog w = .ok ao.isNone w
    generalize 9999 = m
    cases ao <;> simp [Op.equalIn, run_underlying u2]
  have hc : (act.put (some d1) (.slice ao rows.length cap)).eval (.const (.slice none 0 0)) = .slice none 0 0 := rfl
  rw [show (execOp (act.put (some d1) (.slice ao rows.length cap)).eval ⟨some d2, .binOp .eql t (.tmp d1) (.const (.slice none 0 0)) ty3, ty2, pos2, af2, none⟩).run Tryz.prog w = .ok (.value (.bool ao.isNone)) w by simp [execOp, he, hc, eqGuard, binOp, heq]]
  change wpList Tryz.prog ops (Post g0 w0 N (Ql Q)) [] ((act.put (some d1) (.slice ao rows.length cap)).put (some d2) (.bool ao.isNone)) w
  have hR' : Rep g w (.slice ao rows.length cap) (.tr (.lst n B rows)) := by rw [← hv]; exact hR
  obtain ⟨p1, p2⟩ := put_ok (dst := some d1) hN hs.fr (Grow.refl _ _) (by unfold dstOk; exact Nat.ble_eq_true_of_le hd1) hR'
  obtain ⟨r1, r2⟩ := put_ok (dst := some d2) p1 p2 (Grow.refl _ _) (by unfold dstOk; exact Nat.ble_eq_true_of_le hd2) (show Rep g w (.bool ao.isNone) (.tr (tb ao.isNone)) from .tr (.v trivial))
  refine aopsL_sound hT nx Q [] 2 _ bl g _ _ (by show nx + (2 + 0) ≤ HMod; omega) hb' ⟨r1, (put_defers ..).trans ((put_defers ..).trans hs.defers), ?_, hs.mem, fun h hh => hs.un h (by show nx ≤ h % HMod; omega), hs.grow⟩
  rw [putLs_lk, putLs_lk]
  exact r2

abbrev ivB (l : List Int) : Blk := .vec 3 1 8 (l.map irow)
set_option maxRecDepth 100000 in
theorem k_cloneO (l : List Int) (hl : l.length * 8 ≤ 150000000000000) : K 112 [.tr (intsT l)] [] (.ret (.sl 0 l.length)) [some (ivB l)] := by
  refine Ctr.new [2000001, 0] hT hmix Tryz.func112 rfl (fun _ _ => by kernel_rfl) rfl fun hok => ?_
  clear hok
  conv => whnf
  refine nil_region rfl rfl rfl rfl rfl (by decide) fun b hb => ?_
  cases b
  · conv => whnf
    refine CutL.by (fun _ : Unit => ⟨[(2, .sl 0 l.length)], [(0, ivB l)], 10⟩) (fun _ => True) ?_ ?_
    · conv => whnf
      refine ⟨rfl, rfl, rfl, Nat.le_refl _, (by show (0 + (l.map irow).length) * 8 ≤ 150000000000000; rw [List.length_map]; omega), (fun q hq => by cases hq), ?_⟩
      conv => whnf
      exact ⟨(), [_], [], Sub.mk' rfl ⟨⟨rfl, by simp⟩, trivial⟩ ⟨⟨rfl, rfl, rfl, rfl⟩, trivial⟩ rfl rfl, trivial⟩
    · rintro - - -
      conv => whnf
      exact ⟨[0], rfl, rfl, ⟨rfl, rfl⟩, ⟨rfl, rfl, rfl, rfl⟩, trivial⟩
  · obtain rfl : l = [] := by
      cases l with
      | nil => rfl
      | cons x l => exact absurd (hb (by simp)) (by simp)
    conv => whnf
    refine CutL.by (fun _ : Unit => ⟨[(2, .sl 0 0)], [(0, ivB [])], 10⟩) (fun _ => True) ?_ ?_
    · conv => whnf
      exact ⟨(), [], [0], Sub.mk' rfl ⟨⟨rfl, rfl, rfl, rfl⟩, trivial⟩ ⟨⟨rfl, _, _, _, rfl, by decide⟩, trivial⟩ rfl rfl, trivial⟩
    · rintro - - -
      conv => whnf
      exact ⟨[0], rfl, rfl, ⟨rfl, rfl⟩, ⟨rfl, rfl, rfl, rfl⟩, trivial⟩
/-- the same, seen as a tree -/
theorem k_cloneT (l : List Int) (hl : l.length * 8 ≤ 150000000000000) : K 112 [.tr (intsT l)] [] (.ret (.tr (intsT l))) [] := by
  refine Ctr.cut [2000001, 0] hT hmix Tryz.func112 rfl (fun _ _ => by kernel_rfl) rfl fun hok => ?_
  clear hok
  conv => whnf
  refine nil_region rfl rfl rfl rfl rfl (by decide) fun b hb => ?_
  cases b
  · conv => whnf
    refine CutL.by (fun _ : Unit => ⟨[(2, .tr (intsT l))], [], 10⟩) (fun _ => True) ?_ ?_
    · conv => whnf
      refine ⟨rfl, rfl, rfl, Nat.le_refl _, (by show (0 + (l.map irow).length) * 8 ≤ 150000000000000; rw [List.length_map]; omega), (fun q hq => by cases hq), ?_⟩
      conv => whnf
      exact ⟨(), [], [], Sub.mk' rfl ⟨⟨rfl, (by show 0 + (l.map irow).length ≤ (l.map irow).length; omega), (by show intsT l = Tr.lst 1 8 ((l.map irow).take (0 + (l.map irow).length)); rw [Nat.zero_add, List.take_length])⟩, trivial⟩ trivial rfl rfl, trivial⟩
    · rintro - - -
      conv => whnf
      exact ⟨.inl rfl, trivial⟩
  · obtain rfl : l = [] := by
      cases l with
      | nil => rfl
      | cons x l => exact absurd (hb (by simp)) (by simp)
    conv => whnf
    refine CutL.by (fun _ : Unit => ⟨[(2, .tr (intsT []))], [], 10⟩) (fun _ => True) ?_ ?_
    · conv => whnf
      exact ⟨(), [], [], Sub.mk' rfl ⟨.inr ⟨rfl, _, _, rfl⟩, trivial⟩ trivial rfl rfl, trivial⟩
    · rintro - - -
      conv => whnf
      exact ⟨.inl rfl, trivial⟩
def eqI : List Int → List Int → Bool
  | [], [] => true
  | a :: l, a' :: l' => bif a != a' then false else eqI l l'
  | _, _ => false
def eqI2 (l l' : List Int) : Bool := bif (l.length : Int) != (l'.length : Int) then false else eqI l l'
set_option maxRecDepth 100000 in
theorem k_equal (l l' : List Int) : K 113 [.tr (intsT l), .tr (intsT l')] [] (.ret (.tr (tb (eqI2 l l')))) [] := by
  have h1 : (l.map irow).length = l.length := List.length_map ..
  have h2 : (l'.map irow).length = l'.length := List.length_map ..
  refine Ctr.of hT hmix Tryz.func113 rfl (fun _ _ => by kernel_rfl) rfl fun hok => ?_
  obtain ⟨_, hl1, _⟩ := (hok.slot 0 rfl).tr.lst
  rw [List.length_map] at hl1
  clear hok
  conv => whnf
  cases hc : (((l.map irow).length : Int) != ((l'.map irow).length : Int)) with
  | true =>
    conv => whnf
    exact ⟨.inl (congrArg tb (by rw [h1, h2] at hc; unfold eqI2; rw [hc]; rfl)), trivial⟩
  | false =>
  have hE : eqI2 l l' = eqI l l' := by rw [h1, h2] at hc; unfold eqI2; rw [hc]; rfl
  have hll : l.length = l'.length := by
    rw [h1, h2] at hc
    refine Classical.byContradiction fun w => ?_
    rw [bne_iff_ne.2 (fun e => w (by omega))] at hc
    cases hc
  rw [hE]
  generalize hR : eqI l l' = R
  clear hE hc
  conv => whnf
  refine LoopL.by (fun i : Nat => ⟨[(0, .tr (intsT l)), (1, .tr (intsT l')), (12, .tr (ti l.length)), (13, .tr (ti i))], [], 10⟩) (fun i => i ≤ l.length ∧ R = eqI (l.drop i) (l'.drop i)) (fun i => l.length - i) 0 [] []
    (Sub.mk' rfl ⟨.inl rfl, .inl rfl, .inl (by rw [← h1]), .inl rfl, trivial⟩ trivial rfl rfl) ⟨Nat.zero_le _, hR.symm⟩ ?_
  clear hR
  rintro i ⟨hi, hR⟩ -
  conv => whnf
  refine csplit (fun hit => ?_) (fun hit => ?_)
  · have hit : i < l.length := by have : decide ((i : Int) < (l.length : Int)) = true := hit; have := of_decide_eq_true this; omega
    obtain ⟨a, ha⟩ : ∃ a, l[i]? = some a := ⟨_, List.getElem?_eq_getElem hit⟩
    obtain ⟨b, hb⟩ : ∃ b, l'[i]? = some b := ⟨_, List.getElem?_eq_getElem (by omega)⟩
    rw [drop_cons ha, drop_cons hb] at hR
    conv => whnf
    refine ⟨rfl, (show (0 : Int) ≤ i by omega), (show (i : Int) < ((l.map irow).length : Int) by omega), fun row hrow => ?_⟩
    obtain ⟨d, hd, rfl⟩ := int_get hrow
    obtain rfl := Option.some.inj (ha.symm.trans hd)
    clear hrow hd
    conv => whnf
    refine ⟨rfl, (show (0 : Int) ≤ i by omega), (show (i : Int) < ((l'.map irow).length : Int) by omega), fun row hrow => ?_⟩
    obtain ⟨d, hd, rfl⟩ := int_get hrow
    obtain rfl := Option.some.inj (hb.symm.trans hd)
    clear hrow hd
    conv => whnf
    refine ⟨by kernel_rfl, fun _ => ?_⟩
    conv => whnf
    cases hab : (a != b) with
    | true =>
      conv => whnf
      exact ⟨.inl (by rw [hR]; show tb false = tb (bif a != b then false else _); rw [hab]; rfl), trivial⟩
    | false =>
      replace hR : R = eqI (l.drop (i + 1)) (l'.drop (i + 1)) := by rw [hR]; show (bif a != b then false else _) = _; rw [hab]; rfl
      conv => whnf
      exact ⟨i + 1, [], [], Sub.mk' rfl ⟨.inl rfl, .inl rfl, .inl rfl, .inl (ti_succ hit (by omega)), trivial⟩ trivial rfl rfl, ⟨hit, hR⟩, by show l.length - (i + 1) < l.length - i; omega⟩
  have hit : l.length ≤ i := by have : decide ((i : Int) < (l.length : Int)) = false := hit; have := of_decide_eq_false this; omega
  rw [List.drop_of_length_le hit, List.drop_of_length_le (by omega)] at hR
  conv => whnf
  refine ⟨fun _ => ?_, fun h => absurd rfl h⟩
  conv => whnf
  exact ⟨.inl (by rw [hR]; rfl), trivial⟩
end Go.Proofs.YthboippafkcoiaaGreatDoor.am

namespace Go.Proofs.YthboippafkcoiaaGreatDoor.am
open Go Go.Proofs
set_option linter.all false

abbrev HSt := List (Option (List Int)) × List Nat
def hrow : Option (List Int) → List Tr
  | none => [nilT]
  | some l => [intsT l]
abbrev hB (lk : List (Option (List Int))) : Blk := .vec 62 1 24 (lk.map hrow)
abbrev heT (lk : List (Option (List Int))) : Tr := .lst 1 24 (lk.map hrow)
theorem hrow_get {l : List (Option (List Int))} {i : Nat} {row : List Tr} (h : (l.map hrow)[i]? = some row) : ∃ d, l[i]? = some d ∧ row = hrow d := by
  rw [List.getElem?_map, Option.map_eq_some_iff] at h
  obtain ⟨d, h1, rfl⟩ := h
  exact ⟨d, h1, rfl⟩
/-- what a node does to the locks that are held; none: it may not -/
def nowN (n : Nd) (l : List Int) : Option (List Int) :=
  bif n.kind == 5 then some (l ++ [n.thing])
  else bif n.kind == 6 then (bif (l.length : Int) == 0 then none else bif l.getD (l.length - 1) 0 != n.thing then none else some (l.take (l.length - 1)))
  else bif n.kind == 9 then (bif decide ((l.length : Int) > 0) then none else some l)
  else some l
def lkAt (lk : List (Option (List Int))) (a : Nat) : List Int := (lk.getD a none).getD []
def inH (now : List Int) : List Nat → HSt → HSt × Option Nat
  | [], s => (s, none)
  | y :: r, s => bif s.2.contains y then (bif eqI2 (lkAt s.1 y) now then inH now r s else (s, some y)) else inH now r (s.1.set y (some now), s.2 ++ [y])
def contH (F : HSt → Nat → List (Option (List Int)) × Int) (k : Nat) : HSt × Option Nat → List (Option (List Int)) × Int
  | (_, some y) => ([], (y : Int))
  | (s, none) => F s k
def outH (g : Gr) : Nat → HSt → Nat → List (Option (List Int)) × Int
  | 0, _, _ => ([], 0)
  | f + 1, s, k => match s.2[k]? with
    | none => (s.1, -1)
    | some a => match g.nodes[a]? with
      | none => ([], 0)
      | some n => match nowN n (lkAt s.1 a) with
        | none => ([], (a : Int))
        | some now => contH (outH g f) (k + 1) (inH now (fol g a) s)
def heldR (g : Gr) : List (Option (List Int)) × Int := outH g (g.nodes.length + 1) (List.replicate g.nodes.length none, [0]) 0
theorem nowN_len {n : Nd} {l now : List Int} (h : nowN n l = some now) : now.length ≤ l.length + 1 := by
  unfold nowN at h
  cases h5 : (n.kind == 5) with
  | true => rw [h5, cond_true] at h; cases h; rw [List.length_append]; exact Nat.le_refl _
  | false =>
  rw [h5, cond_false] at h
  cases h6 : (n.kind == 6) with
  | true =>
    rw [h6, cond_true] at h
    cases h1 : ((l.length : Int) == 0) with
    | true => rw [h1] at h; cases h
    | false =>
      rw [h1, cond_false] at h
      cases h2 : (l.getD (l.length - 1) 0 != n.thing) with
      | true => rw [h2] at h; cases h
      | false => rw [h2] at h; cases h; rw [List.length_take]; omega
  | false =>
  rw [h6, cond_false] at h
  cases h9 : (n.kind == 9) with
  | true =>
    rw [h9, cond_true] at h
    cases h1 : decide ((l.length : Int) > 0) with
    | true => rw [h1] at h; cases h
    | false => rw [h1] at h; cases h; omega
  | false => rw [h9] at h; cases h; omega
structure HInv (N k : Nat) (lk : List (Option (List Int))) (todo : List Nat) : Prop where
  len : lk.length = N
  nd : todo.Nodup
  lt : ∀ x ∈ todo, x < N
  most : ∀ (a : Nat) l, lk[a]? = some (some l) → l.length ≤ k
theorem HInv.todo_len {N k : Nat} {lk : List (Option (List Int))} {todo : List Nat} (h : HInv N k lk todo) : todo.length ≤ N := nodup_len N todo h.nd h.lt
theorem HInv.at {N k : Nat} {lk : List (Option (List Int))} {todo : List Nat} (h : HInv N k lk todo) (a : Nat) : (lkAt lk a).length ≤ k := by
  unfold lkAt
  rw [List.getD_eq_getElem?_getD]
  cases e : lk[a]? with
  | none => exact Nat.zero_le _
  | some o =>
    cases o with
    | none => exact Nat.zero_le _
    | some l => exact h.most a l e
theorem HInv.mono {N k k' : Nat} {lk : List (Option (List Int))} {todo : List Nat} (h : HInv N k lk todo) (hk : k ≤ k') : HInv N k' lk todo := ⟨h.len, h.nd, h.lt, fun a l e => Nat.le_trans (h.most a l e) hk⟩
theorem HInv.put {N k : Nat} {lk : List (Option (List Int))} {todo : List Nat} (h : HInv N k lk todo) {y : Nat} {now : List Int} (hy : y < N) (hn : y ∉ todo) (hl : now.length ≤ k) : HInv N k (lk.set y (some now)) (todo ++ [y]) where
  len := by rw [List.length_set]; exact h.len
  nd := List.nodup_append.2 ⟨h.nd, by simp, fun a ha b hb => by rw [List.mem_singleton.1 hb]; exact fun e => hn (e ▸ ha)⟩
  lt := fun x hx => (List.mem_append.1 hx).elim (h.lt x) fun w => by rw [List.mem_singleton.1 w]; exact hy
  most := fun a l e => by
    by_cases ha : a = y
    · subst ha
      rw [List.getElem?_set_self (by rw [h.len]; exact hy)] at e
      cases e; exact hl
    · rw [List.getElem?_set_ne (fun w => ha w.symm)] at e
      exact h.most a l e
set_option maxRecDepth 100000 in
set_option maxHeartbeats 4000000 in
theorem k_heldR (g : Gr) (hW : Whole g) : K 70 [g.av] [] (.ret (.tup [.tr (heT (heldR g).1), .tr (ti (heldR g).2)])) [] := by
  have hR : heldR g = outH g (g.nodes.length + 1) (List.replicate g.nodes.length none, [0]) 0 := rfl
  generalize heldR g = R at hR ⊢
  have hpos := hW.pos
  have hmo := hW.most
  have hlt := hW.lt
  have hfI := hW.fol
  have hfl := hW.len
  have hkind := hW.kind
  clear hW
  have hO : ∀ f s k, outH g (f + 1) s k = match s.2[k]? with
    | none => (s.1, -1)
    | some a => match g.nodes[a]? with
      | none => ([], 0)
      | some n => match nowN n (lkAt s.1 a) with
        | none => ([], (a : Int))
        | some now => contH (outH g f) (k + 1) (inH now (fol g a) s) := fun f s k => rfl
  generalize outH g = OH at hR hO
  have hln : (g.nodes.map Nd.cells).length = g.nodes.length := List.length_map ..
  obtain ⟨N, hNe⟩ : ∃ N, g.nodes.length = N := ⟨_, rfl⟩
  rw [hNe] at hR hpos hmo hlt hln
  refine Ctr.cut [10, 20] hT hmix Tryz.func70 rfl (fun _ _ => by kernel_rfl) rfl fun hok => ?_
  clear hok
  conv => whnf
  refine ⟨(by rw [hln]; omega), Int.le_refl _, (by rw [hln]; show (N : Int) * 24 ≤ _; omega), ?_⟩
  conv => whnf
  rw [hln, Int.toNat_natCast]
  refine LoopL.by (fun x : HSt × Nat => ⟨[(1, .ptr 0 0), (4, .sl 1 N), (5, .mp 2), (6, .sl 3 x.1.2.length), (7, .tr (ti (x.2 : Nat)))], [(0, grBl g), (1, hB x.1.1), (2, inB x.1.2), (3, natsB x.1.2)], 10⟩) (fun x => HInv N x.2 x.1.1 x.1.2 ∧ x.2 ≤ x.1.2.length ∧ R = OH (N + 1 - x.2) x.1 x.2) (fun x => N + 1 - x.2) ((List.replicate N none, [0]), 0) [0, _, _, _] []
    (Sub.mk' rfl ⟨⟨rfl, rfl⟩, ⟨rfl, rfl⟩, rfl, ⟨rfl, rfl⟩, .inl rfl, trivial⟩ ⟨⟨rfl, .inl rfl, .inl rfl, .inl rfl, .inl rfl, trivial⟩, ⟨rfl, rfl, rfl, by rw [List.map_replicate]; rfl⟩, ⟨rfl, rfl⟩, ⟨rfl, rfl, rfl, rfl⟩, trivial⟩ rfl rfl) ⟨⟨List.length_replicate .., by simp, fun x hx => by rw [List.mem_singleton.1 hx]; exact hpos, fun a l e => by
      have e : (List.replicate N none)[a]? = some (some l) := e
      rw [List.getElem?_replicate] at e
      split at e <;> cases e⟩, Nat.zero_le _, hR⟩ ?_
  clear hR
  rintro ⟨⟨lk, todo⟩, k⟩ ⟨hI, hk, hR⟩ -
  simp only at hI hk hR
  have htl := hI.todo_len
  have hlkl := hI.len
  have hO1 := hO (N - k) (lk, todo) k
  rw [show N - k + 1 = N + 1 - k by omega, ← hR] at hO1
  clear hR
  conv => whnf
  refine csplit (fun hkt => ?_) (fun hkt => ?_)
  · have hkt : k < todo.length := by have : decide ((k : Int) < (todo.length : Int)) = true := hkt; have := of_decide_eq_true this; omega
    obtain ⟨a, ha⟩ : ∃ a, todo[k]? = some a := ⟨_, List.getElem?_eq_getElem hkt⟩
    have haN := hI.lt a (List.mem_of_getElem? ha)
    obtain ⟨n, hn⟩ : ∃ n, g.nodes[a]? = some n := ⟨_, List.getElem?_eq_getElem (by omega)⟩
    obtain ⟨o, ho⟩ : ∃ o, lk[a]? = some o := ⟨_, List.getElem?_eq_getElem (by omega)⟩
    have hlk : lkAt lk a = o.getD [] := by unfold lkAt; rw [List.getD_eq_getElem?_getD, ho]; rfl
    have hO2 : R = match nowN n (lkAt lk a) with
        | none => ([], (a : Int))
        | some now => contH (OH (N - k)) (k + 1) (inH now (fol g a) (lk, todo)) := by
      rw [hO1]
      show (match todo[k]? with | none => _ | some a => _) = _
      rw [ha]
      show (match g.nodes[a]? with | none => _ | some n => _) = _
      rw [hn]
    clear hO1
    have hl0 := hI.at a
    have hf := k_follows n
    rw [hfI a n hn] at hf
    have hflt := hlt a
    have hfl := hfl a
    conv => whnf
    refine ⟨rfl, (show (0 : Int) ≤ k by omega), (show (k : Int) < (todo.length : Int) by omega), ?_⟩
    conv => whnf
    refine ⟨rfl, (by show k < (todo.map nrow).length; rw [List.length_map]; omega), fun row hrow => ?_⟩
    obtain ⟨d, hd, rfl⟩ := nrow_get hrow
    obtain rfl := Option.some.inj (ha.symm.trans hd)
    clear hrow hd
    refine ⟨(show 0 < 1 by decide), fun t ht => ?_⟩
    cases ht
    conv => whnf
    refine ⟨rfl, (show (0 : Int) ≤ a by omega), (show (a : Int) < ((g.nodes.map Nd.cells).length : Int) by omega), fun row hrow => ?_⟩
    obtain ⟨d, hd, rfl⟩ := nd_get hrow
    obtain rfl := Option.some.inj (hn.symm.trans hd)
    clear hrow hd
    conv => whnf
    refine CutL.by (fun _ : Unit => ⟨[(1, .ptr 0 0), (4, .sl 1 N), (5, .mp 2), (6, .sl 3 todo.length), (7, .tr (ti (k : Nat))), (8, .tr (ti (a : Nat))), (9, .ptr 4 0), (10, .tr (intsT (lkAt lk a)))], [(0, grBl g), (1, hB lk), (2, inB todo), (3, natsB todo), (4, .cells 75 (n.cells.map .tr))], 10⟩) (fun _ => True) ?_ ?_
    · conv => whnf
      refine ⟨rfl, (show (0 : Int) ≤ a by omega), (show (a : Int) < (N : Int) by omega), ?_⟩
      conv => whnf
      refine ⟨rfl, (by show a < (lk.map hrow).length; rw [List.length_map]; omega), fun row hrow => ?_⟩
      obtain ⟨d, hd, rfl⟩ := hrow_get hrow
      obtain rfl := Option.some.inj (ho.symm.trans hd)
      clear hrow hd
      cases o with
      | none =>
        refine ⟨(show 0 < 1 by decide), fun t ht => ?_⟩
        cases ht
        conv => whnf
        exact ⟨(), [0, 1, 2, 3, _], [], Sub.mk' rfl ⟨⟨rfl, rfl⟩, ⟨rfl, rfl⟩, rfl, ⟨rfl, rfl⟩, .inl rfl, .inl rfl, ⟨rfl, rfl⟩, .inr ⟨rfl, 1, 8, by rw [hlk]; rfl⟩, trivial⟩ ⟨⟨rfl, .inl rfl, .inl rfl, .inl rfl, .inl rfl, trivial⟩, ⟨rfl, rfl, rfl, rfl⟩, ⟨rfl, rfl⟩, ⟨rfl, rfl, rfl, rfl⟩, ⟨rfl, .inl rfl, .inl rfl, .inl rfl, .inl rfl, .inl rfl, .inl rfl, .inl rfl, .inl rfl, .inl rfl, .inl rfl, .inl rfl, .inl rfl, .inl rfl, trivial⟩, trivial⟩ rfl rfl, trivial⟩
      | some l =>
        refine ⟨(show 0 < 1 by decide), fun t ht => ?_⟩
        cases ht
        conv => whnf
        exact ⟨(), [0, 1, 2, 3, _], [], Sub.mk' rfl ⟨⟨rfl, rfl⟩, ⟨rfl, rfl⟩, rfl, ⟨rfl, rfl⟩, .inl rfl, .inl rfl, ⟨rfl, rfl⟩, .inl (by rw [hlk]; rfl), trivial⟩ ⟨⟨rfl, .inl rfl, .inl rfl, .inl rfl, .inl rfl, trivial⟩, ⟨rfl, rfl, rfl, rfl⟩, ⟨rfl, rfl⟩, ⟨rfl, rfl, rfl, rfl⟩, ⟨rfl, .inl rfl, .inl rfl, .inl rfl, .inl rfl, .inl rfl, .inl rfl, .inl rfl, .inl rfl, .inl rfl, .inl rfl, .inl rfl, .inl rfl, .inl rfl, trivial⟩, trivial⟩ rfl rfl, trivial⟩
    rintro - - -
    clear hlk ho
    generalize lkAt lk a = l0 at hO2 hl0
    have hll0 : (l0.map irow).length = l0.length := List.length_map ..
    have hcl := k_cloneO l0 (by omega)
    have hlw : ∀ m : Nat, m = l0.length → 0 < m → IntKind.i64.wrap ((m : Int) - 1) = ((m - 1 : Nat) : Int) := fun m e h => by rw [w64 (by omega) (by omega)]; omega
    conv => whnf
    refine CutL.by (fun now : List Int => ⟨[(1, .ptr 0 0), (4, .sl 1 N), (5, .mp 2), (6, .sl 3 todo.length), (7, .tr (ti (k : Nat))), (8, .tr (ti (a : Nat))), (9, .ptr 4 0), (10, .tr (intsT now))], [(0, grBl g), (1, hB lk), (2, inB todo), (3, natsB todo), (4, .cells 75 (n.cells.map .tr))], 10⟩) (fun now => nowN n l0 = some now) ?_ ?_
    · conv => whnf
      cases h5 : (n.kind == 5) with
      | true =>
        conv => whnf
        refine acall.new [] [] _ _ _ _ (hcl) rfl rfl rfl rfl aut aut rfl rfl ?_
        conv => whnf
        refine ⟨rfl, rfl, rfl, Nat.le_of_eq hll0.symm, (show (l0.length + 1) * 8 ≤ 150000000000000 by omega), fun q hq => ?_, ?_⟩
        · cases hq with
          | head => exact Nat.ne_of_beq_eq_false rfl
          | tail _ h => cases h
        conv => whnf
        refine ⟨by kernel_rfl, fun _ => ?_⟩
        conv => whnf
        have htk : (l0.map irow).take l0.length ++ [[ti n.thing]] = (l0 ++ [n.thing]).map irow := by rw [List.take_of_length_le (Nat.le_of_eq hll0), List.map_append]; rfl
        have hle : l0.length + 1 ≤ ((l0.map irow).take l0.length ++ [[ti n.thing]]).length := by rw [htk, List.length_map, List.length_append]; exact Nat.le_refl _
        have heq : intsT (l0 ++ [n.thing]) = Tr.lst 1 8 (((l0.map irow).take l0.length ++ [[ti n.thing]]).take (l0.length + 1)) := by rw [htk, List.take_of_length_le (by rw [List.length_map, List.length_append]; exact Nat.le_refl _)]
        exact ⟨l0 ++ [n.thing], [0, 1, 2, 3, 4], [], Sub.mk' rfl ⟨⟨rfl, rfl⟩, ⟨rfl, rfl⟩, rfl, ⟨rfl, rfl⟩, .inl rfl, .inl rfl, ⟨rfl, rfl⟩, ⟨rfl, hle, heq⟩, trivial⟩ ⟨⟨rfl, .inl rfl, .inl rfl, .inl rfl, .inl rfl, trivial⟩, ⟨rfl, rfl, rfl, rfl⟩, ⟨rfl, rfl⟩, ⟨rfl, rfl, rfl, rfl⟩, ⟨rfl, .inl rfl, .inl rfl, .inl rfl, .inl rfl, .inl rfl, .inl rfl, .inl rfl, .inl rfl, .inl rfl, .inl rfl, .inl rfl, .inl rfl, .inl rfl, trivial⟩, trivial⟩ rfl rfl, by unfold nowN; rw [h5]; rfl⟩
      | false =>
      conv => whnf
      cases h6 : (n.kind == 6) with
      | true =>
        conv => whnf
        cases h7 : (((l0.map irow).length : Int) == 0) with
        | true =>
          conv => whnf
          refine ⟨by kernel_rfl, fun _ => ?_⟩
          conv => whnf
          rw [hll0] at h7
          have hRf : R = ([], (a : Int)) := by rw [hO2]; unfold nowN; rw [h5, h6, h7]; rfl
          exact ⟨⟨.inr ⟨rfl, 1, 24, by rw [hRf]; rfl⟩, .inl (by rw [hRf]), trivial⟩, trivial⟩
        | false =>
        have h0 : 0 < l0.length := by
          have := beq_eq_false_iff_ne.1 h7
          omega
        rw [hll0] at h7
        have hw1 := hlw _ hll0 (by omega)
        conv => whnf
        rw [hw1]
        refine ⟨rfl, (show (0 : Int) ≤ (((l0.map irow).length - 1 : Nat) : Int) by omega), (show (((l0.map irow).length - 1 : Nat) : Int) < ((l0.map irow).length : Int) by omega), fun row hrow => ?_⟩
        obtain ⟨d, hd, rfl⟩ := int_get hrow
        replace hd : l0[l0.length - 1]? = some d := by rw [← hll0]; exact hd
        have hgd : l0.getD (l0.length - 1) 0 = d := by rw [List.getD_eq_getElem?_getD, hd]; rfl
        clear hrow hd
        conv => whnf
        refine ⟨by kernel_rfl, fun _ => ?_⟩
        conv => whnf
        cases hne : (d != n.thing) with
        | true =>
          conv => whnf
          have hRf : R = ([], (a : Int)) := by rw [hO2]; unfold nowN; rw [h5, h6, h7, hgd, hne]; rfl
          exact ⟨⟨.inr ⟨rfl, 1, 24, by rw [hRf]; rfl⟩, .inl (by rw [hRf]), trivial⟩, trivial⟩
        | false =>
          conv => whnf
          rw [hw1]
          refine ⟨rfl, Int.le_refl _, (show (0 : Int) ≤ (((l0.map irow).length - 1 : Nat) : Int) by omega), (show (((l0.map irow).length - 1 : Nat) : Int) ≤ ((l0.map irow).length : Int) by omega), ?_⟩
          conv => whnf
          exact ⟨l0.take (l0.length - 1), [0, 1, 2, 3, 4], [], Sub.mk' rfl ⟨⟨rfl, rfl⟩, ⟨rfl, rfl⟩, rfl, ⟨rfl, rfl⟩, .inl rfl, .inl rfl, ⟨rfl, rfl⟩, .inl (by show (Tr.lst 1 8 (((l0.map irow).take ((l0.map irow).length - 1)).drop 0)) = (Tr.lst 1 8 ((l0.take (l0.length - 1)).map irow)); rw [List.drop_zero, hll0, List.map_take]), trivial⟩ ⟨⟨rfl, .inl rfl, .inl rfl, .inl rfl, .inl rfl, trivial⟩, ⟨rfl, rfl, rfl, rfl⟩, ⟨rfl, rfl⟩, ⟨rfl, rfl, rfl, rfl⟩, ⟨rfl, .inl rfl, .inl rfl, .inl rfl, .inl rfl, .inl rfl, .inl rfl, .inl rfl, .inl rfl, .inl rfl, .inl rfl, .inl rfl, .inl rfl, .inl rfl, trivial⟩, trivial⟩ rfl rfl, by unfold nowN; rw [h5, h6, h7, hgd, hne]; rfl⟩
      | false =>
      conv => whnf
      cases h9 : (n.kind == 9) with
      | true =>
        conv => whnf
        cases h7 : decide (((l0.map irow).length : Int) > 0) with
        | true =>
          conv => whnf
          rw [hll0] at h7
          have hRf : R = ([], (a : Int)) := by rw [hO2]; unfold nowN; rw [h5, h6, h9, h7]; rfl
          exact ⟨⟨.inr ⟨rfl, 1, 24, by rw [hRf]; rfl⟩, .inl (by rw [hRf]), trivial⟩, trivial⟩
        | false =>
          conv => whnf
          exact ⟨l0, [0, 1, 2, 3, 4], [], Sub.mk' rfl ⟨⟨rfl, rfl⟩, ⟨rfl, rfl⟩, rfl, ⟨rfl, rfl⟩, .inl rfl, .inl rfl, ⟨rfl, rfl⟩, .inl rfl, trivial⟩ ⟨⟨rfl, .inl rfl, .inl rfl, .inl rfl, .inl rfl, trivial⟩, ⟨rfl, rfl, rfl, rfl⟩, ⟨rfl, rfl⟩, ⟨rfl, rfl, rfl, rfl⟩, ⟨rfl, .inl rfl, .inl rfl, .inl rfl, .inl rfl, .inl rfl, .inl rfl, .inl rfl, .inl rfl, .inl rfl, .inl rfl, .inl rfl, .inl rfl, .inl rfl, trivial⟩, trivial⟩ rfl rfl, by rw [hll0] at h7; unfold nowN; rw [h5, h6, h9, h7]; rfl⟩
      | false =>
        conv => whnf
        exact ⟨l0, [0, 1, 2, 3, 4], [], Sub.mk' rfl ⟨⟨rfl, rfl⟩, ⟨rfl, rfl⟩, rfl, ⟨rfl, rfl⟩, .inl rfl, .inl rfl, ⟨rfl, rfl⟩, .inl rfl, trivial⟩ ⟨⟨rfl, .inl rfl, .inl rfl, .inl rfl, .inl rfl, trivial⟩, ⟨rfl, rfl, rfl, rfl⟩, ⟨rfl, rfl⟩, ⟨rfl, rfl, rfl, rfl⟩, ⟨rfl, .inl rfl, .inl rfl, .inl rfl, .inl rfl, .inl rfl, .inl rfl, .inl rfl, .inl rfl, .inl rfl, .inl rfl, .inl rfl, .inl rfl, .inl rfl, trivial⟩, trivial⟩ rfl rfl, by unfold nowN; rw [h5, h6, h9]; rfl⟩
    rintro now hnow -
    have hO3 : R = contH (OH (N - k)) (k + 1) (inH now (fol g a) (lk, todo)) := by rw [hO2, hnow]
    have hnl : now.length ≤ k + 1 := Nat.le_trans (nowN_len hnow) (by omega)
    have hI2 := hI.mono (Nat.le_succ k)
    have hcT := k_cloneT now (by omega)
    have hnr : (now.map irow).length = now.length := List.length_map ..
    obtain ⟨F, hF⟩ : ∃ F, fol g a = F := ⟨_, rfl⟩
    rw [hF] at hf hflt hfl hO3
    have hFl := natsT_len F
    clear hO2 hnow hl0 hcl hlw hI
    conv => whnf
    refine acall.pure _ (hf) rfl rfl fun _ => ?_
    conv => whnf
    refine LoopL.by (fun x : HSt × Nat => ⟨[(1, .ptr 0 0), (4, .sl 1 N), (5, .mp 2), (6, .sl 3 x.1.2.length), (7, .tr (ti (k : Nat))), (10, .tr (intsT now)), (78, .tr (natsT F)), (79, .tr (ti F.length)), (80, .tr (ti (x.2 : Nat)))], [(0, grBl g), (1, hB x.1.1), (2, inB x.1.2), (3, natsB x.1.2)], 10⟩) (fun x => HInv N (k + 1) x.1.1 x.1.2 ∧ k < x.1.2.length ∧ x.2 ≤ F.length ∧ R = contH (OH (N - k)) (k + 1) (inH now (F.drop x.2) x.1)) (fun x => F.length - x.2) ((lk, todo), 0) [0, 1, 2, 3] []
      (Sub.mk' rfl ⟨⟨rfl, rfl⟩, ⟨rfl, rfl⟩, rfl, ⟨rfl, rfl⟩, .inl rfl, .inl rfl, .inl rfl, .inl (by rw [← hFl]), .inl rfl, trivial⟩ ⟨⟨rfl, .inl rfl, .inl rfl, .inl rfl, .inl rfl, trivial⟩, ⟨rfl, rfl, rfl, rfl⟩, ⟨rfl, rfl⟩, ⟨rfl, rfl, rfl, rfl⟩, trivial⟩ rfl rfl) ⟨hI2, hkt, Nat.zero_le _, hO3⟩ ?_
    clear hO3 hI2
    rintro ⟨⟨lk, todo⟩, j⟩ ⟨hI, hk, hj, hR⟩ -
    simp only at hI hk hj hR
    have hlkl := hI.len
    have htl := hI.todo_len
    conv => whnf
    refine csplit (fun hjt => ?_) (fun hjt => ?_)
    · have hjL : j < F.length := by have : decide ((j : Int) < (F.length : Int)) = true := hjt; have := of_decide_eq_true this; omega
      clear hjt
      obtain ⟨y, hy⟩ : ∃ y, F[j]? = some y := ⟨_, List.getElem?_eq_getElem hjL⟩
      have hyN := hflt y (List.mem_of_getElem? hy)
      rw [drop_cons hy] at hR
      obtain ⟨o, ho⟩ : ∃ o, lk[y]? = some o := ⟨_, List.getElem?_eq_getElem (by omega)⟩
      have hlk : lkAt lk y = o.getD [] := by unfold lkAt; rw [List.getD_eq_getElem?_getD, ho]; rfl
      have hR2 : R = contH (OH (N - k)) (k + 1) (bif todo.contains y then (bif eqI2 (lkAt lk y) now then inH now (F.drop (j + 1)) (lk, todo) else ((lk, todo), some y)) else inH now (F.drop (j + 1)) (lk.set y (some now), todo ++ [y])) := hR
      clear hR
      conv => whnf
      refine ⟨rfl, (show (0 : Int) ≤ j by omega), (show (j : Int) < ((((F.map fun (x : Nat) => (x : Int))).map irow).length : Int) by omega), fun row hrow => ?_⟩
      obtain ⟨d, hd, rfl⟩ := natsT_get hrow
      obtain rfl := Option.some.inj (hy.symm.trans hd)
      clear hrow hd
      have hlk2 : (mget (mapE ((lk, todo), j).1.2) (.ki .i64 (y : Int))).getD (Tr.v Z.b.val) = tb (todo.contains y) := by
        show (mget (mapE todo) (.ki .i64 (y : Int))).getD (Tr.v Z.b.val) = tb (todo.contains y)
        rw [mget_mapE]
        cases todo.contains y <;> rfl
      conv => whnf
      rw [hlk2]
      clear hlk2
      cases hcon : todo.contains y with
      | false =>
        have hyT : y ∉ todo := fun w => by rw [List.contains_iff_mem.2 w] at hcon; cases hcon
        rw [hcon, cond_false] at hR2
        have hI3 := hI.put hyN hyT hnl
        have hmS : mput (mapE todo) (.ki .i64 (y : Int)) (tb true) = mapE (todo ++ [y]) := by rw [mput_mapE, hcon]; rfl
        conv => whnf
        refine acall.pure _ (hcT) rfl rfl fun _ => ?_
        conv => whnf
        refine ⟨rfl, (show (0 : Int) ≤ y by omega), (show (y : Int) < (N : Int) by omega), ?_⟩
        conv => whnf
        refine ⟨rfl, rfl, (by show y < (lk.map hrow).length; rw [List.length_map]; omega), fun row hrw => ?_⟩
        obtain ⟨d, hd, rfl⟩ := hrow_get hrw
        clear hrw hd
        have hrl : (hrow d).length = 1 := by cases d <;> rfl
        refine ⟨(by show 0 + 1 ≤ (hrow d).length; omega), ?_⟩
        conv => whnf
        refine ⟨rfl, rfl, rfl, (by rw [List.length_map]; exact Nat.le_refl _), (show (todo.length + 1) * 8 ≤ 150000000000000 by omega), fun q hq => ?_, ?_⟩
        · cases hq with
          | head => exact Nat.ne_of_beq_eq_false rfl
          | tail _ h => cases h
        conv => whnf
        have hda : (todo.map nrow).take todo.length ++ [[ti (y : Nat)]] = (todo ++ [y]).map nrow := by rw [List.take_of_length_le (by rw [List.length_map]; exact Nat.le_refl _), List.map_append]; rfl
        have hset : (lk.map hrow).set y ((hrow d).take 0 ++ [intsT now] ++ (hrow d).drop (0 + 1)) = (lk.set y (some now)).map hrow := by rw [List.map_set]; cases d <;> rfl
        exact ⟨((lk.set y (some now), todo ++ [y]), j + 1), [0, 1, 2, _], [], Sub.mk' rfl ⟨⟨rfl, rfl⟩, ⟨rfl, rfl⟩, rfl, ⟨rfl, by rw [List.length_append]; rfl⟩, .inl rfl, .inl rfl, .inl rfl, .inl rfl, .inl (ti_succ hjL (by omega)), trivial⟩ ⟨⟨rfl, .inl rfl, .inl rfl, .inl rfl, .inl rfl, trivial⟩, ⟨rfl, rfl, rfl, hset⟩, ⟨rfl, hmS⟩, ⟨rfl, rfl, rfl, hda⟩, trivial⟩ rfl rfl, ⟨hI3, by show k < (todo ++ [y]).length; rw [List.length_append]; omega, hjL, hR2⟩, by show F.length - (j + 1) < F.length - j; omega⟩
      | true =>
        rw [hcon, cond_true, hlk] at hR2
        conv => whnf
        refine ⟨rfl, (show (0 : Int) ≤ y by omega), (show (y : Int) < (N : Int) by omega), ?_⟩
        conv => whnf
        refine ⟨rfl, (by show y < (lk.map hrow).length; rw [List.length_map]; omega), fun row hrw => ?_⟩
        obtain ⟨d, hd, rfl⟩ := hrow_get hrw
        obtain rfl := Option.some.inj (ho.symm.trans hd)
        clear hrw hd
        cases o with
        | none =>
          refine ⟨(show 0 < 1 by decide), fun t ht => ?_⟩
          cases ht
          conv => whnf
          refine acall.gen [] [] [.tr (intsT []), .tr (intsT now)] [] _ [] (k_equal [] now) rfl rfl rfl rfl ⟨.inr ⟨rfl, 1, 8, rfl⟩, .inl rfl, trivial⟩ trivial rfl rfl fun _ => ?_
          conv => whnf
          cases he : eqI2 [] now with
          | false =>
            have hRf : R = ([], (y : Int)) := by rw [hR2]; show contH _ _ (bif eqI2 [] now then _ else _) = _; rw [he]; rfl
            conv => whnf
            exact ⟨⟨.inr ⟨rfl, 1, 24, by rw [hRf]; rfl⟩, .inl (by rw [hRf]), trivial⟩, trivial⟩
          | true =>
            have hR3 : R = contH (OH (N - k)) (k + 1) (inH now (F.drop (j + 1)) (lk, todo)) := by rw [hR2]; show contH _ _ (bif eqI2 [] now then _ else _) = _; rw [he]; rfl
            conv => whnf
            exact ⟨((lk, todo), j + 1), [0, 1, 2, 3], [], Sub.mk' rfl ⟨⟨rfl, rfl⟩, ⟨rfl, rfl⟩, rfl, ⟨rfl, rfl⟩, .inl rfl, .inl rfl, .inl rfl, .inl rfl, .inl (ti_succ hjL (by omega)), trivial⟩ ⟨⟨rfl, .inl rfl, .inl rfl, .inl rfl, .inl rfl, trivial⟩, ⟨rfl, rfl, rfl, rfl⟩, ⟨rfl, rfl⟩, ⟨rfl, rfl, rfl, rfl⟩, trivial⟩ rfl rfl, ⟨hI, hk, hjL, hR3⟩, by show F.length - (j + 1) < F.length - j; omega⟩
        | some l =>
          refine ⟨(show 0 < 1 by decide), fun t ht => ?_⟩
          cases ht
          conv => whnf
          refine acall.pure _ (k_equal l now) rfl rfl fun _ => ?_
          conv => whnf
          cases he : eqI2 l now with
          | false =>
            have hRf : R = ([], (y : Int)) := by rw [hR2]; show contH _ _ (bif eqI2 l now then _ else _) = _; rw [he]; rfl
            conv => whnf
            exact ⟨⟨.inr ⟨rfl, 1, 24, by rw [hRf]; rfl⟩, .inl (by rw [hRf]), trivial⟩, trivial⟩
          | true =>
            have hR3 : R = contH (OH (N - k)) (k + 1) (inH now (F.drop (j + 1)) (lk, todo)) := by rw [hR2]; show contH _ _ (bif eqI2 l now then _ else _) = _; rw [he]; rfl
            conv => whnf
            exact ⟨((lk, todo), j + 1), [0, 1, 2, 3], [], Sub.mk' rfl ⟨⟨rfl, rfl⟩, ⟨rfl, rfl⟩, rfl, ⟨rfl, rfl⟩, .inl rfl, .inl rfl, .inl rfl, .inl rfl, .inl (ti_succ hjL (by omega)), trivial⟩ ⟨⟨rfl, .inl rfl, .inl rfl, .inl rfl, .inl rfl, trivial⟩, ⟨rfl, rfl, rfl, rfl⟩, ⟨rfl, rfl⟩, ⟨rfl, rfl, rfl, rfl⟩, trivial⟩ rfl rfl, ⟨hI, hk, hjL, hR3⟩, by show F.length - (j + 1) < F.length - j; omega⟩
    · have hjt : F.length ≤ j := by have : decide ((j : Int) < (F.length : Int)) = false := hjt; have := of_decide_eq_false this; omega
      rw [List.drop_of_length_le hjt] at hR
      have hR2 : R = OH (N - k) (lk, todo) (k + 1) := hR
      conv => whnf
      refine ⟨fun _ => ?_, fun h => absurd rfl h⟩
      conv => whnf
      exact ⟨((lk, todo), k + 1), [0, 1, 2, 3], [], Sub.mk' rfl ⟨⟨rfl, rfl⟩, ⟨rfl, rfl⟩, rfl, ⟨rfl, rfl⟩, .inl (ti_succ hk (by omega)), trivial⟩ ⟨⟨rfl, .inl rfl, .inl rfl, .inl rfl, .inl rfl, trivial⟩, ⟨rfl, rfl, rfl, rfl⟩, ⟨rfl, rfl⟩, ⟨rfl, rfl, rfl, rfl⟩, trivial⟩ rfl rfl, ⟨hI, hk, by rw [hR2, show N + 1 - (k + 1) = N - k by omega]⟩, by show N + 1 - (k + 1) < N + 1 - k; omega⟩
  · have hkt : todo.length ≤ k := by have : decide ((k : Int) < (todo.length : Int)) = false := hkt; have := of_decide_eq_false this; omega
    have hRe : R = (lk, -1) := by
      rw [hO1]
      show (match todo[k]? with | none => _ | some a => _) = _
      rw [List.getElem?_eq_none hkt]
    subst hRe
    conv => whnf
    refine ⟨fun _ => ?_, fun h => absurd rfl h⟩
    conv => whnf
    exact ⟨⟨⟨rfl, (by show N ≤ (lk.map hrow).length; rw [List.length_map]; omega), (by show heT lk = Tr.lst 1 24 ((lk.map hrow).take N); rw [List.take_of_length_le (by rw [List.length_map]; omega)])⟩, .inl rfl, trivial⟩, trivial⟩
end Go.Proofs.YthboippafkcoiaaGreatDoor.am

namespace Go.Proofs.YthboippafkcoiaaGreatDoor.am
open Go Go.Proofs
set_option linter.all false

def grBad (g : Gr) : Bool := decide (g.locals < 0) || decide (g.locals > 64) || decide (g.slots < g.locals) || decide (g.slots > 4160) || decide ((g.nodes.length : Int) < 1) || decide ((g.nodes.length : Int) > 4096)
/-- the first node that is not right -/
def ndBad (u : Un) (g : Gr) : List Nd → Int → Option Int
  | [], _ => none
  | n :: r, i => bif rightB u g n then ndBad u g r (i + 1) else some i
def contC (g : Gr) (t : Int) (R : Int × Int × Int) : Option Int → Int × Int × Int
  | some i => (60, t, i)
  | none => bif decide ((heldR g).2 ≥ 0) then (60, t, (heldR g).2) else R
def ckG (u : Un) : List Gr → Int → Int × Int × Int
  | [], _ => (0, 0, 0)
  | g :: r, t => bif grBad g then (60, t, 0) else contC g t (ckG u r (t + 1)) (ndBad u g g.nodes 0)
def checkU (u : Un) : Int × Int × Int := bif namedB u then ckG u u.graphs 0 else (60, 0, 0)
theorem within_hi {p has k most : Int} (h : withinB p has k most = true) (hp : (andP p has == 0) = false) : 0 ≤ k ∧ k < most := by
  unfold withinB at h
  rw [hp] at h
  simp only [Bool.false_and, Bool.false_or, Bool.and_eq_true, decide_eq_true_eq] at h
  exact ⟨h.1.2, h.2⟩
theorem right_ok {u : Un} {g : Gr} {n : Nd} (h : rightB u g n = true) (h0 : 0 ≤ n.kind) : nodeOk g.nodes.length n = true := by
  unfold rightB at h
  cases hh : headR n with
  | true => rw [hh] at h; cases h
  | false =>
    rw [hh, cond_false] at h
    unfold headR at hh
    simp only [Bool.or_eq_false_iff] at hh
    have hk := kinds hh.1.1.1 hh.1.1.2 h0
    unfold fieldsR at h
    simp only [Bool.and_eq_true] at h
    have hnx := h.1.1.1.2
    have hel := h.1.1.2
    obtain ⟨kind, op, slot, thing, a, b, next, els, origin⟩ := n
    simp only at hk hnx hel
    unfold nodeOk folI
    simp only
    rcases hk with rfl | rfl | rfl | rfl | rfl | rfl | rfl | rfl | rfl
    case inr.inr.inr.inr.inr.inr.inr.inr => rfl
    case inr.inr.inr.inr.inr.inr.inr.inl =>
      have h1 := within_hi hnx (by kernel_rfl)
      have h2 := within_hi hel (by kernel_rfl)
      cases hb : (els != next) <;> simp [hb] <;> omega
    case inl =>
      have h1 : 0 ≤ next ∧ next < (g.nodes.length : Int) := within_hi hnx (by unfold partsI; cases two op <;> kernel_rfl)
      simp; omega
    all_goals
      have h1 := within_hi hnx (by kernel_rfl)
      simp; omega
theorem whole_right {u : Un} {g : Gr} (hb : grBad g = false) (hr : ∀ n ∈ g.nodes, rightB u g n = true ∧ 0 ≤ n.kind) : wholeB g = true := by
  unfold grBad at hb
  simp only [Bool.or_eq_false_iff] at hb
  unfold wholeB
  rw [hb.1.2, hb.2]
  exact List.all_eq_true.2 fun n hn => right_ok (hr n hn).1 (hr n hn).2
set_option maxRecDepth 100000 in
set_option maxHeartbeats 2000000 in
theorem k_check (u : Un) : K 29 [u.av] [] (.ret (.tup [.tr (ti (checkU u).1), .tr (ti (checkU u).2.1), .tr (ti (checkU u).2.2)])) [] := by
  have hn := k_named u
  have hC : checkU u = bif namedB u then ckG u u.graphs 0 else (60, 0, 0) := rfl
  generalize checkU u = R at hC ⊢
  have hlg : (u.graphs.map Gr.cells).length = u.graphs.length := List.length_map ..
  refine Ctr.of hT hmix Tryz.func29 rfl (fun _ _ => by kernel_rfl) rfl fun hok => ?_
  obtain ⟨_, hl3, hrw⟩ := ((hok.slot 0 rfl).agg _ (.tail _ (.tail _ (.head _)))).tr.lst
  have hbd : ∀ g ∈ u.graphs, ∀ n ∈ g.nodes, 0 ≤ n.kind ∧ 0 ≤ n.op ∧ n.op ≤ 255 := fun g hg n hnn => by
    have h1 := (hrw g.cells (List.mem_map_of_mem hg)).2 (nodesT g.nodes) (.tail _ (.tail _ (.tail _ (.head _))))
    have h2 := (h1.lst.2.2 n.cells (List.mem_map_of_mem hnn)).2
    have h3 := (h2 (tu n.kind) (.head _)).u8
    have h4 := (h2 (tu n.op) (.tail _ (.head _))).u8
    exact ⟨h3.1, h4.1, h4.2⟩
  rw [List.length_map] at hl3
  clear hok hrw
  conv => whnf
  refine acall.pure _ (hn) rfl rfl fun _ => ?_
  conv => whnf
  cases hnm : namedB u with
  | false =>
    conv => whnf
    have hRf : R = (60, 0, 0) := by rw [hC, hnm]; rfl
    exact ⟨⟨.inl (by rw [hRf]), .inl (by rw [hRf]), .inl (by rw [hRf]), trivial⟩, trivial⟩
  | true =>
  have hR : R = ckG u u.graphs 0 := by rw [hC, hnm]; rfl
  clear hC
  conv => whnf
  refine LoopL.by (fun t : Nat => ⟨[(1, .ptr 0 0), (15, .tr (graphsT u.graphs)), (16, .tr (ti u.graphs.length)), (17, .tr (ti t))], [(0, .cells 29 [.tr (declsT u.shared), .tr (declsT u.locks), .tr (graphsT u.graphs)])], 10⟩) (fun t => t ≤ u.graphs.length ∧ R = ckG u (u.graphs.drop t) t) (fun t => u.graphs.length - t) 0 [_] []
    (Sub.mk' rfl ⟨⟨rfl, rfl⟩, .inl rfl, .inl (by rw [← hlg]), .inl rfl, trivial⟩ ⟨⟨rfl, .inl rfl, .inl rfl, .inl rfl, trivial⟩, trivial⟩ rfl rfl) ⟨Nat.zero_le _, hR⟩ ?_
  clear hR
  rintro t ⟨ht, hR⟩ -
  conv => whnf
  refine csplit (fun htt => ?_) (fun htt => ?_)
  · have htt : t < u.graphs.length := by have : decide ((t : Int) < (u.graphs.length : Int)) = true := htt; have := of_decide_eq_true this; omega
    obtain ⟨g, hg⟩ : ∃ g, u.graphs[t]? = some g := ⟨_, List.getElem?_eq_getElem htt⟩
    rw [drop_cons hg] at hR
    have hbd := hbd g (List.mem_of_getElem? hg)
    have hR2 : R = bif grBad g then (60, (t : Int), 0) else contC g t (ckG u (u.graphs.drop (t + 1)) ((t : Int) + 1)) (ndBad u g g.nodes 0) := hR
    clear hR
    have hgl : (g.nodes.map Nd.cells).length = g.nodes.length := List.length_map ..
    conv => whnf
    refine ⟨rfl, (show (0 : Int) ≤ t by omega), (show (t : Int) < ((u.graphs.map Gr.cells).length : Int) by omega), fun row hrow => ?_⟩
    obtain ⟨d, hd, rfl⟩ := gr_get hrow
    obtain rfl := Option.some.inj (hg.symm.trans hd)
    clear hrow hd hg
    conv => whnf
    cases b1 : decide (g.locals < 0) with
    | true =>
      conv => whnf
      have hRf : R = (60, (t : Int), 0) := by rw [hR2]; unfold grBad; rw [b1]; rfl
      exact ⟨⟨.inl (by rw [hRf]), .inl (by rw [hRf]), .inl (by rw [hRf]), trivial⟩, trivial⟩
    | false =>
    conv => whnf
    cases b2 : decide (g.locals > 64) with
    | true =>
      conv => whnf
      have hRf : R = (60, (t : Int), 0) := by rw [hR2]; unfold grBad; rw [b1, b2]; rfl
      exact ⟨⟨.inl (by rw [hRf]), .inl (by rw [hRf]), .inl (by rw [hRf]), trivial⟩, trivial⟩
    | false =>
    conv => whnf
    cases b3 : decide (g.slots < g.locals) with
    | true =>
      conv => whnf
      have hRf : R = (60, (t : Int), 0) := by rw [hR2]; unfold grBad; rw [b1, b2, b3]; rfl
      exact ⟨⟨.inl (by rw [hRf]), .inl (by rw [hRf]), .inl (by rw [hRf]), trivial⟩, trivial⟩
    | false =>
    conv => whnf
    cases b4 : decide (g.slots > 4160) with
    | true =>
      conv => whnf
      have hRf : R = (60, (t : Int), 0) := by rw [hR2]; unfold grBad; rw [b1, b2, b3, b4]; rfl
      exact ⟨⟨.inl (by rw [hRf]), .inl (by rw [hRf]), .inl (by rw [hRf]), trivial⟩, trivial⟩
    | false =>
    conv => whnf
    cases b5 : decide (((g.nodes.map Nd.cells).length : Int) < 1) with
    | true =>
      conv => whnf
      rw [hgl] at b5
      have hRf : R = (60, (t : Int), 0) := by rw [hR2]; unfold grBad; rw [b1, b2, b3, b4, b5]; rfl
      exact ⟨⟨.inl (by rw [hRf]), .inl (by rw [hRf]), .inl (by rw [hRf]), trivial⟩, trivial⟩
    | false =>
    conv => whnf
    cases b6 : decide (((g.nodes.map Nd.cells).length : Int) > 4096) with
    | true =>
      conv => whnf
      rw [hgl] at b5 b6
      have hRf : R = (60, (t : Int), 0) := by rw [hR2]; unfold grBad; rw [b1, b2, b3, b4, b5, b6]; rfl
      exact ⟨⟨.inl (by rw [hRf]), .inl (by rw [hRf]), .inl (by rw [hRf]), trivial⟩, trivial⟩
    | false =>
    conv => whnf
    have hgb : grBad g = false := by rw [hgl] at b5 b6; unfold grBad; rw [b1, b2, b3, b4, b5, b6]; rfl
    rw [hgb, cond_false] at hR2
    have hmo : g.nodes.length ≤ 4096 := by have := of_decide_eq_false b6; omega
    clear b1 b2 b3 b4 b5 b6
    generalize hRR : ckG u (u.graphs.drop (t + 1)) ((t : Int) + 1) = RR at hR2
    refine LoopL.by (fun i : Nat => ⟨[(1, .ptr 0 0), (5, .tr (ti t)), (6, .ptr 1 0), (15, .tr (graphsT u.graphs)), (16, .tr (ti u.graphs.length)), (17, .tr (ti t)), (56, .tr (nodesT g.nodes)), (57, .tr (ti g.nodes.length)), (58, .tr (ti i))], [(0, .cells 29 [.tr (declsT u.shared), .tr (declsT u.locks), .tr (graphsT u.graphs)]), (1, grBl g)], 10⟩) (fun i => i ≤ g.nodes.length ∧ R = contC g t RR (ndBad u g (g.nodes.drop i) i) ∧ ∀ n ∈ g.nodes.take i, rightB u g n = true) (fun i => g.nodes.length - i) 0 [0, _] []
      (Sub.mk' rfl ⟨⟨rfl, rfl⟩, .inl rfl, ⟨rfl, rfl⟩, .inl rfl, .inl rfl, .inl rfl, .inl rfl, .inl (by rw [← hgl]), .inl rfl, trivial⟩ ⟨⟨rfl, .inl rfl, .inl rfl, .inl rfl, trivial⟩, ⟨rfl, .inl rfl, .inl rfl, .inl rfl, .inl rfl, trivial⟩, trivial⟩ rfl rfl) ⟨Nat.zero_le _, hR2, fun n hn => by cases hn⟩ ?_
    clear hR2
    rintro i ⟨hi, hR, hal⟩ -
    conv => whnf
    refine csplit (fun hit => ?_) (fun hit => ?_)
    · have hit : i < g.nodes.length := by have : decide ((i : Int) < (g.nodes.length : Int)) = true := hit; have := of_decide_eq_true this; omega
      obtain ⟨n, hn⟩ : ∃ n, g.nodes[i]? = some n := ⟨_, List.getElem?_eq_getElem hit⟩
      rw [drop_cons hn] at hR
      obtain ⟨q0, q1, q2⟩ := hbd n (List.mem_of_getElem? hn)
      have hri := k_right u g n q0 ⟨q1, q2⟩
      have hR2 : R = contC g t RR (bif rightB u g n then ndBad u g (g.nodes.drop (i + 1)) ((i : Int) + 1) else some (i : Int)) := hR
      clear hR
      conv => whnf
      refine ⟨rfl, (show (0 : Int) ≤ i by omega), (show (i : Int) < ((g.nodes.map Nd.cells).length : Int) by omega), fun row hrow => ?_⟩
      obtain ⟨d, hd, rfl⟩ := nd_get hrow
      obtain rfl := Option.some.inj (hn.symm.trans hd)
      clear hrow hd
      conv => whnf
      refine acall.pure _ (hri) rfl rfl fun _ => ?_
      conv => whnf
      cases hrb : rightB u g n with
      | false =>
        have hRf : R = (60, (t : Int), (i : Int)) := by rw [hR2, hrb]; rfl
        conv => whnf
        exact ⟨⟨.inl (by rw [hRf]), .inl (by rw [hRf]), .inl (by rw [hRf]), trivial⟩, trivial⟩
      | true =>
        rw [hrb, cond_true] at hR2
        conv => whnf
        exact ⟨i + 1, [0, 1], [], Sub.mk' rfl ⟨⟨rfl, rfl⟩, .inl rfl, ⟨rfl, rfl⟩, .inl rfl, .inl rfl, .inl rfl, .inl rfl, .inl rfl, .inl (ti_succ hit (by omega)), trivial⟩ ⟨⟨rfl, .inl rfl, .inl rfl, .inl rfl, trivial⟩, ⟨rfl, .inl rfl, .inl rfl, .inl rfl, .inl rfl, trivial⟩, trivial⟩ rfl rfl, ⟨hit, hR2, fun m hm => by
          rw [take_snoc hn] at hm
          rcases List.mem_append.1 hm with w | w
          · exact hal m w
          · rw [List.mem_singleton.1 w]; exact hrb⟩, by show g.nodes.length - (i + 1) < g.nodes.length - i; omega⟩
    have hit : g.nodes.length ≤ i := by have : decide ((i : Int) < (g.nodes.length : Int)) = false := hit; have := of_decide_eq_false this; omega
    rw [List.drop_of_length_le hit] at hR
    rw [List.take_of_length_le hit] at hal
    have hW := whole_of (whole_right hgb fun n hn => ⟨hal n hn, (hbd n hn).1⟩)
    have hhe := k_heldR g hW
    have hR2 : R = bif decide ((heldR g).2 ≥ 0) then (60, (t : Int), (heldR g).2) else RR := hR
    clear hR
    conv => whnf
    refine ⟨fun _ => ?_, fun h => absurd rfl h⟩
    conv => whnf
    refine acall.pure _ (hhe) rfl rfl fun _ => ?_
    conv => whnf
    cases hf : decide ((heldR g).2 ≥ 0) with
    | true =>
      have hRf : R = (60, (t : Int), (heldR g).2) := by rw [hR2, hf]; rfl
      conv => whnf
      exact ⟨⟨.inl (by rw [hRf]), .inl (by rw [hRf]), .inl (by rw [hRf]), trivial⟩, trivial⟩
    | false =>
      have hR3 : R = ckG u (u.graphs.drop (t + 1)) ((t + 1 : Nat) : Int) := by rw [hR2, hf, cond_false, ← hRR]; rfl
      conv => whnf
      exact ⟨t + 1, [0], [], Sub.mk' rfl ⟨⟨rfl, rfl⟩, .inl rfl, .inl rfl, .inl (ti_succ htt (by omega)), trivial⟩ ⟨⟨rfl, .inl rfl, .inl rfl, .inl rfl, trivial⟩, trivial⟩ rfl rfl, ⟨htt, hR3⟩, by show u.graphs.length - (t + 1) < u.graphs.length - t; omega⟩
  · have htt : u.graphs.length ≤ t := by have : decide ((t : Int) < (u.graphs.length : Int)) = false := htt; have := of_decide_eq_false this; omega
    rw [List.drop_of_length_le htt] at hR
    have hRf : R = (0, 0, 0) := hR
    conv => whnf
    refine ⟨fun _ => ?_, fun h => absurd rfl h⟩
    conv => whnf
    exact ⟨⟨.inl (by rw [hRf]), .inl (by rw [hRf]), .inl (by rw [hRf]), trivial⟩, trivial⟩
end Go.Proofs.YthboippafkcoiaaGreatDoor.am

namespace Go.Proofs.YthboippafkcoiaaGreatDoor.ws
open Go Go.RowKit Go.Lib

theorem maskN (a : Nat) (ha : a < 18446744073709551616) : bits .and .u64 (a : Int) 4294967295 = ((a % 4294967296 : Nat) : Int) := by
  have h := bits_and_u64_nat a 4294967295 ha (by omega)
  have e : a &&& 4294967295 = a % 4294967296 := Nat.and_two_pow_sub_one_eq_mod a 32
  rw [e] at h
  exact h
theorem divN (a : Nat) : (a : Int) / 4294967296 = ((a / 4294967296 : Nat) : Int) := by omega
theorem mulN (a b : Nat) : (a : Int) * (b : Int) = ((a * b : Nat) : Int) := (Int.natCast_mul a b).symm
theorem addN (a b : Nat) : (a : Int) + (b : Int) = ((a + b : Nat) : Int) := (Int.natCast_add a b).symm
theorem wrapN (a : Nat) (ha : a < 18446744073709551616) : IntKind.u64.wrap (a : Int) = (a : Int) := by rw [IntKind.wrap_u64]; omega
theorem wrapM (a : Nat) : IntKind.u64.wrap (a : Int) = ((a % 18446744073709551616 : Nat) : Int) := by rw [IntKind.wrap_u64]; omega

theorem num_u64 {a b : Int} (h : a = b) : Value.int .u64 a = Value.int .u64 b := by rw [h]
theorem ret_int3 {k l m : IntKind} {a b c a' b' c' : Int} (h : a = a') (h2 : b = b') (h3 : c = c') : Ending.returned (.tuple #[.int k a, .int l b, .int m c]) = .returned (.tuple #[.int k a', .int l b', .int m c']) := by rw [h, h2, h3]

end Go.Proofs.YthboippafkcoiaaGreatDoor.ws

namespace Go.Proofs.YthboippafkcoiaaGreatDoor.ws
open Go Go.RowKit Go.Lib

end Go.Proofs.YthboippafkcoiaaGreatDoor.ws

namespace Go.Proofs.YthboippafkcoiaaGreatDoor.ws
open Go Go.RowKit Go.Lib

end Go.Proofs.YthboippafkcoiaaGreatDoor.ws

namespace Go.Proofs.YthboippafkcoiaaGreatDoor.ws
open Go Go.RowKit Go.Lib

/-- what stands in the block after j digits -/
def prRow (l : List UInt8) : Array Value := (List.replicate (20 - l.length) (Value.int .u8 0) ++ l.map fun c => Value.int .u8 c.toNat).toArray

theorem prRow_eq (l : List UInt8) : (prRow l).toList = List.replicate (20 - l.length) (Value.int .u8 0) ++ l.map fun c => Value.int .u8 c.toNat := rfl
theorem prRow_get (l : List UInt8) (p : Nat) (hp : 1 ≤ p) (hl : p + l.length = 20) : (prRow l)[p - 1]? = some (.int .u8 0) := by
  unfold prRow
  have h : 20 - l.length = (p - 1) + 1 := by omega
  rw [List.getElem?_toArray, List.getElem?_append_left (by simp; omega), h, List.getElem?_replicate, if_pos (by omega)]
theorem prRow_set (l : List UInt8) (c : UInt8) (p : Nat) (hp : 1 ≤ p) (hl : p + l.length = 20) : (prRow l).setIfInBounds (p - 1) (.int .u8 c.toNat) = prRow (c :: l) := by
  unfold prRow
  have h : 20 - l.length = (p - 1) + 1 := by omega
  have h' : 20 - (c :: l).length = p - 1 := by simp; omega
  rw [h, h', List.setIfInBounds_toArray, List.replicate_succ', List.append_assoc]
  congr 1
  rw [List.set_append_right _ _ (by simp)]
  simp
theorem prRow_at (l : List UInt8) (p i : Nat) (hl : p + l.length = 20) (hi : i < l.length) : (prRow l)[p + i]? = some (.int .u8 (l[i]'hi).toNat) := by
  unfold prRow
  rw [List.getElem?_toArray, List.getElem?_append_right (by simp; omega)]
  simp [show p + i - (20 - l.length) = i by omega, hi]
theorem slice_end (B p : Nat) (hp : 1 ≤ p) (hp2 : p ≤ 20) (W : World) :
    (Instr.sliceAt 224 (.pointer (some ⟨B, 0, none⟩)) (some (.int .i64 ((p : Int) - 1))) none none).run Tryz.prog W = .ok (.slice (some ⟨B, p - 1, none⟩) (21 - p) (21 - p)) W := by
  have hal : Tryz.prog.arrayLen 224 = 20 := by kernel_rfl
  have hu : Tryz.prog.underlying 224 = some (.array (Tryz.prog.arrayLen 224) (Tryz.prog.elem 224)) := by kernel_rfl
  have hz : ∀ W, (sizeOf (Tryz.prog.elem 224)).run Tryz.prog W = .ok 1 W := fun W => by kernel_rfl
  rw [run_sliceAt_array_l W _ _ hu .i64 _ (by omega) (by rw [hal]; omega), hz]
  simp only [Result.andThen, slicedAt, hal]
  have e : ((p : Int) - 1).toNat = p - 1 := by omega
  rw [e, if_neg (by omega)]
  have e2 : (⟨B, 0, none⟩ : Addr).add ((p - 1) * 1) = ⟨B, p - 1, none⟩ := by
    unfold Addr.add
    by_cases h : (p - 1) * 1 = 0
    · rw [if_pos h, show p - 1 = 0 by omega]
    · rw [if_neg h]; simp
  rw [e2, show 20 - (p - 1) = 21 - p by omega]
theorem conv_end (l : List UInt8) (p n : Nat) (w : World) (hl : p + l.length = 20) (hn : l.length = n) :
    (convert 126 9 (.slice (some ⟨w.heap.size, p, none⟩) n n)).run Tryz.prog (w.alloc (.cells (prRow l) 224)) = .ok (.string ⟨l.toArray⟩) (w.alloc (.cells (prRow l) 224)) := by
  subst hn
  refine run_convert_bytes_back _ _ _ 5 _ _ l Tryz.underlying126 Tryz.underlying5 Tryz.underlying9 fun j hj => ?_
  have e : (⟨w.heap.size, p, none⟩ : Addr).add j = ⟨w.heap.size, p + j, none⟩ := by
    unfold Addr.add; split <;> simp_all
  rw [e, World.cell?_alloc_at _ _ _ _ rfl, prRow_at l p j hl hj]
theorem dig_toNat (n : Nat) : (dch (n % 10)).toNat = 48 + n % 10 := dch_toNat (by omega)

theorem pow_bound {n j : Nat} (h : n * 10 ^ j ≤ 9223372036854775808) (hn : 0 < n) : j ≤ 18 := by
  apply Decidable.byContradiction
  intro hj
  have h1 : 10 ^ 19 ≤ 10 ^ j := Nat.pow_le_pow_right (by decide) (by omega)
  have h2 : 1 * 10 ^ j ≤ n * 10 ^ j := Nat.mul_le_mul_right _ hn
  have h3 : (10 : Nat) ^ 19 = 10000000000000000000 := by decide
  omega
theorem pow_step {n j N : Nat} (h : n * 10 ^ j ≤ N) : n / 10 * 10 ^ (j + 1) ≤ N := by
  have h1 : n / 10 * 10 ≤ n := Nat.div_mul_le_self n 10
  have h2 := Nat.mul_le_mul_right (10 ^ j) h1
  have h3 : n / 10 * 10 ^ (j + 1) = n / 10 * 10 * 10 ^ j := by rw [Nat.pow_succ, Nat.mul_assoc, Nat.mul_comm 10]
  omega

def rowOf (p : Nat) (d : Int) (l : List UInt8) : Array Value := (prRow l).setIfInBounds (p - 1) (.int .u8 d)
theorem rowOf_eq (p m : Nat) (l : List UInt8) (hp : 1 ≤ p) (hl : p + l.length = 20) : (prRow l).setIfInBounds (p - 1) (.int .u8 (48 + (m : Int) % 10)) = prRow (dch (m % 10) :: l) := by
  rw [← prRow_set l _ p hp hl, dig_toNat]
  rfl
theorem minus_eq (p : Nat) (l : List UInt8) (hp : 1 ≤ p) (hl : p + l.length = 20) : (prRow l).setIfInBounds (p - 1) (.int .u8 45) = prRow (45 :: l) := prRow_set l 45 p hp hl

set_option maxRecDepth 100000 in
set_option maxHeartbeats 1000000 in
theorem print_pos (N : Nat) (w : World) (hN : N ≤ 9223372036854775807) :
    Calls Tryz.prog 175 #[.int .i64 N] w fun e w' => e = .returned (.string ⟨(prn N).toArray⟩) ∧ Below w.heap.size w w' := by
  have R : Hid (prn N = dig N) := by
    show prn N = dig N
    unfold prn; rw [if_neg (by omega)]; rfl
  go_enter Tryz.func175, Tryz.ntmps175
  go_wp2
  go_loopw [4, 5] (fun a n wr => ∃ (l : List UInt8) (p m : Nat), p + l.length = 20 ∧ 1 ≤ p ∧ a = .int .i64 p ∧ n = .int .u64 m ∧ m ≤ N ∧ Hid ((0 < l.length → 0 < m) ∧ m * 10 ^ l.length ≤ N ∧ dig N = dig m ++ l) ∧ wr = w.alloc (.cells (prRow l) 224)) (fun a _ _ => (intOf a).toNat)
  case atStart => exact ⟨[], 20, N, rfl, by omega, rfl, rfl, by omega, ⟨fun h => absurd h (by decide), by simp, by simp⟩, rfl⟩
  case round =>
    obtain ⟨l, p, m, hp, hp1, rfl, rfl, hmN, H, rfl⟩ := hrel
    have hg := prRow_get l p hp1 hp
    have hsl := slice_end w.heap.size p hp1 (by omega)
    have hrow := rowOf_eq p m l hp1 hp
    by_cases h9 : m < 10
    · have hz : (((m : Int) / 10) == 0) = true := by simp; omega
      have hcv := conv_end (dch (m % 10) :: l) (p - 1) (21 - p) w (by simp; omega) (by simp; omega)
      go_wp2
      go_ret
      refine ⟨ret_str ?_, (Below.refl _ _).alloc (Nat.le_refl _) _⟩
      rw [R.out, H.out.2.2, dig_small h9, show m % 10 = m by omega]
      rfl
    · have hz : (((m : Int) / 10) == 0) = false := by simp; omega
      go_wp2
      have hl18 : l.length + 1 ≤ 18 := pow_bound (n := m / 10) (by have := pow_step H.out.2.1; omega) (by omega)
      go_roundw
      case rel =>
        exact ⟨dch (m % 10) :: l, p - 1, m / 10, by simp; omega, by omega, by go_num, by go_num, by omega, ⟨fun _ => by omega, pow_step H.out.2.1, by rw [H.out.2.2, dig_big h9, List.append_assoc]; rfl⟩, rfl⟩
      case measure => simp [intOf]; omega

set_option maxRecDepth 100000 in
set_option maxHeartbeats 1000000 in
theorem print_neg (N : Nat) (w : World) (hN : N ≤ 9223372036854775808) (h0 : 0 < N) :
    Calls Tryz.prog 175 #[.int .i64 (-(N : Int))] w fun e w' => e = .returned (.string ⟨(prn (-(N : Int))).toArray⟩) ∧ Below w.heap.size w w' := by
  have R : Hid (prn (-(N : Int)) = 45 :: dig N) := by
    show prn _ = _
    unfold prn; rw [if_pos (by omega), Int.neg_neg]; rfl
  have hlt : -(N : Int) < 0 := by omega
  have hw : IntKind.u64.wrap (-(IntKind.u64.wrap (-(N : Int)))) = N := by rw [IntKind.wrap_u64, IntKind.wrap_u64]; omega
  go_enter Tryz.func175, Tryz.ntmps175
  go_wp2
  go_loopw [4, 5] (fun a n wr => ∃ (l : List UInt8) (p m : Nat), p + l.length = 20 ∧ 2 ≤ p ∧ a = .int .i64 p ∧ n = .int .u64 m ∧ m ≤ N ∧ Hid ((0 < l.length → 0 < m) ∧ m * 10 ^ l.length ≤ N ∧ dig N = dig m ++ l) ∧ wr = w.alloc (.cells (prRow l) 224)) (fun a _ _ => (intOf a).toNat)
  case atStart => exact ⟨[], 20, N, rfl, by omega, rfl, rfl, by omega, ⟨fun h => absurd h (by decide), by simp, by simp⟩, rfl⟩
  case round =>
    obtain ⟨l, p, m, hp, hp1, rfl, rfl, hmN, H, rfl⟩ := hrel
    have hg := prRow_get l p (by omega) hp
    have hrow := rowOf_eq p m l (by omega) hp
    by_cases h9 : m < 10
    · have hz : (((m : Int) / 10) == 0) = true := by simp; omega
      have hp' : p - 1 + (dch (m % 10) :: l).length = 20 := by simp; omega
      have hg' := prRow_get (dch (m % 10) :: l) (p - 1) (by omega) hp'
      have hmin := minus_eq (p - 1) (dch (m % 10) :: l) (by omega) hp'
      have hsl := slice_end w.heap.size (p - 1) (by omega) (by omega)
      have hcv := conv_end (45 :: dch (m % 10) :: l) (p - 1 - 1) (21 - (p - 1)) w (by simp; omega) (by simp; omega)
      have e : ((p - 1 : Nat) : Int) = (p : Int) - 1 := by omega
      rw [e] at hsl
      clear e hp'
      go_wp2
      go_ret
      refine ⟨ret_str ?_, (Below.refl _ _).alloc (Nat.le_refl _) _⟩
      rw [R.out, H.out.2.2, dig_small h9, show m % 10 = m by omega]
      rfl
    · have hz : (((m : Int) / 10) == 0) = false := by simp; omega
      go_wp2
      have hl18 : l.length + 1 ≤ 18 := pow_bound (n := m / 10) (by have := pow_step H.out.2.1; omega) (by omega)
      go_roundw
      case rel =>
        exact ⟨dch (m % 10) :: l, p - 1, m / 10, by simp; omega, by omega, by go_num, by go_num, by omega, ⟨fun _ => by omega, pow_step H.out.2.1, by rw [H.out.2.2, dig_big h9, List.append_assoc]; rfl⟩, rfl⟩
      case measure => simp [intOf]; omega

theorem print_any (v : Int) (w : World) (h1 : -9223372036854775808 ≤ v) (h2 : v ≤ 9223372036854775807) :
    Calls Tryz.prog 175 #[.int .i64 v] w fun e w' => e = .returned (.string ⟨(prn v).toArray⟩) ∧ Below w.heap.size w w' := by
  by_cases h : 0 ≤ v
  · obtain ⟨N, rfl⟩ := Int.eq_ofNat_of_zero_le h
    exact print_pos N w (by omega)
  · obtain ⟨N, hN⟩ := Int.eq_ofNat_of_zero_le (a := -v) (by omega)
    obtain rfl : v = -(N : Int) := by omega
    exact print_neg N w (by omega) (by omega)
end Go.Proofs.YthboippafkcoiaaGreatDoor.ws

namespace Go.Proofs.YthboippafkcoiaaGreatDoor.ws
open Go Go.RowKit Go.Lib

end Go.Proofs.YthboippafkcoiaaGreatDoor.ws

namespace Go.Proofs.YthboippafkcoiaaGreatDoor.ws
open Go Go.RowKit Go.Lib
set_option maxRecDepth 100000

theorem bcell {W w1 : World} (hb : Below W.heap.size W w1) : ∀ b o, b < W.heap.size → w1.cell? ⟨b, o, none⟩ = W.cell? ⟨b, o, none⟩ :=
  fun b o h => hb.cell (p := ⟨b, o, none⟩) h
theorem conv_one (B : Nat) (d : Nat) (hd : d < 10) (W : World) (hc : W.cell? ⟨B, 0, none⟩ = some (.int .u8 (48 + (d : Int)))) :
    (convert 126 9 (.slice (some ⟨B, 0, none⟩) 1 1)).run Tryz.prog W = .ok (.string ⟨[dch d].toArray⟩) W := by
  refine run_convert_bytes_back W 126 9 5 ⟨B, 0, none⟩ 1 [dch d] Tryz.underlying126 Tryz.underlying5 Tryz.underlying9 fun j hj => ?_
  obtain rfl : j = 0 := by simpa using hj
  show W.cell? ⟨B, 0, none⟩ = some (.int .u8 (dch d).toNat)
  rw [hc, dch_toNat hd]
  rfl

set_option maxHeartbeats 1000000 in
theorem digits_small (n : Nat) (w : World) (hn : n < 10) :
    Calls Tryz.prog 121 #[.int .u64 n] w fun e w' => e = .returned (.string ⟨(dig n).toArray⟩) ∧ Below w.heap.size w w' := by
  have hcv := conv_one w.heap.size n hn (w.alloc (.cells #[.int .u8 (48 + (n : Int))] 5)) (by rw [World.cell?_alloc_at _ _ _ _ rfl]; rfl)
  have D := Lib.hid (dig_small hn)
  go_enter Tryz.func121, Tryz.ntmps121
  go_wp2
  go_ret
  exact ⟨ret_str (by rw [D.out]), (Below.refl _ _).alloc (Nat.le_refl _) _⟩

set_option maxHeartbeats 1000000 in
theorem digits_big (n : Nat) (w : World) (hn : 10 ≤ n) (hb : n < 18446744073709551616)
    (ih : ∀ w, Calls Tryz.prog 121 #[.int .u64 ((n : Int) / 10)] w fun e w' => e = .returned (.string ⟨(dig (n / 10)).toArray⟩) ∧ Below w.heap.size w w') :
    Calls Tryz.prog 121 #[.int .u64 n] w fun e w' => e = .returned (.string ⟨(dig n).toArray⟩) ∧ Below w.heap.size w w' := by
  have IH := Lib.hid ih
  clear ih
  have hcv : ∀ (B : Nat) (W : World), W.cell? ⟨B, 0, none⟩ = some (.int .u8 (48 + (n : Int) % 10)) → (convert 126 9 (.slice (some ⟨B, 0, none⟩) 1 1)).run Tryz.prog W = .ok (.string ⟨[dch (n % 10)].toArray⟩) W :=
    fun B W h => conv_one B (n % 10) (by omega) W h
  have D := Lib.hid (dig_big (n := n) (by omega))
  have hlen := dig_len64 (n := n / 10) (by omega)
  have q1 : IntKind.u64.wrap ((n : Int) / 10) = (n : Int) / 10 := IntWalk.u64_in _ (by omega)
  have q2 : (n : Int).tmod 10 = (n : Int) % 10 := IntWalk.rem_in _ _ (by omega)
  have q3 : IntKind.u64.wrap (48 + (n : Int) % 10) = 48 + (n : Int) % 10 := IntWalk.u64_in _ (by omega)
  have q4 : IntKind.u8.wrap (48 + (n : Int) % 10) = 48 + (n : Int) % 10 := IntWalk.u8_in _ (by omega)
  go_enter Tryz.func121, Tryz.ntmps121
  go_wp2
  go_region_with (go_at_call 121; refine (IH.out _).mono ?_; rintro e w1 ⟨rfl, hb1⟩; have hc1 := bcell hb1)
  all_goals
    go_wp2
    go_ret
    refine ⟨ret_str (by rw [D.out]; apply ByteArray.ext; simp [ByteArray.data_append]), ?_⟩
    first
      | exact ((Below.refl w.heap.size w).drew.trans (hb1.mono (Nat.le_refl _))).alloc hb1.size _
      | exact ((Below.refl w.heap.size w).alloc (Nat.le_refl _) _).drew.trans (hb1.mono (by simp))

theorem digits_any : ∀ (k n : Nat) (w : World), n < 10 ^ (k + 1) → n < 18446744073709551616 →
    Calls Tryz.prog 121 #[.int .u64 n] w fun e w' => e = .returned (.string ⟨(dig n).toArray⟩) ∧ Below w.heap.size w w'
  | 0, n, w, h, _ => digits_small n w (by simpa using h)
  | k + 1, n, w, h, hb => by
    by_cases hn : n < 10
    · exact digits_small n w hn
    · exact digits_big n w (by omega) hb fun w => digits_any k (n / 10) w (by rw [Nat.pow_succ] at h; omega) (by omega)
theorem digits64 (n : Nat) (w : World) (hb : n < 18446744073709551616) :
    Calls Tryz.prog 121 #[.int .u64 n] w fun e w' => e = .returned (.string ⟨(dig n).toArray⟩) ∧ Below w.heap.size w w' :=
  digits_any 19 n w (Nat.lt_trans hb (by decide)) hb

set_option maxHeartbeats 1000000 in
theorem rprint_pos (N : Nat) (w : World) (hN : N ≤ 9223372036854775807) :
    Calls Tryz.prog 76 #[.int .i64 N] w fun e w' => e = .returned (.string ⟨(prn N).toArray⟩) ∧ Below w.heap.size w w' := by
  have R : Hid (prn N = dig N) := by
    show prn N = dig N
    unfold prn; rw [if_neg (by omega)]; rfl
  go_enter Tryz.func76, Tryz.ntmps76
  go_wp2_with (go_at_call 121; refine (digits64 _ _ (by omega)).mono ?_; rintro e w1 ⟨rfl, hb1⟩)
  go_ret
  exact ⟨ret_str (by rw [R.out]), hb1⟩

set_option maxHeartbeats 1000000 in
theorem rprint_neg (N : Nat) (w : World) (hN : N ≤ 9223372036854775808) (h0 : 0 < N) :
    Calls Tryz.prog 76 #[.int .i64 (-(N : Int))] w fun e w' => e = .returned (.string ⟨(prn (-(N : Int))).toArray⟩) ∧ Below w.heap.size w w' := by
  have R : Hid (prn (-(N : Int)) = 45 :: dig N) := by
    show prn _ = _
    unfold prn; rw [if_pos (by omega), Int.neg_neg]; rfl
  have hlt : -(N : Int) < 0 := by omega
  have hlen := dig_len64 (n := N) (by omega)
  have hw : IntKind.u64.wrap (-(IntKind.u64.wrap (-(N : Int)))) = N := by rw [IntKind.wrap_u64, IntKind.wrap_u64]; omega
  go_enter Tryz.func76, Tryz.ntmps76
  go_wp2_with (go_at_call 121; refine (digits64 N _ (by omega)).mono ?_; rintro e w1 ⟨rfl, hb1⟩)
  go_ret
  exact ⟨ret_str (by rw [R.out]; apply ByteArray.ext; simp [ByteArray.data_append]), hb1⟩

theorem rprint_any (v : Int) (w : World) (h1 : -9223372036854775808 ≤ v) (h2 : v ≤ 9223372036854775807) :
    Calls Tryz.prog 76 #[.int .i64 v] w fun e w' => e = .returned (.string ⟨(prn v).toArray⟩) ∧ Below w.heap.size w w' := by
  by_cases h : 0 ≤ v
  · obtain ⟨N, rfl⟩ := Int.eq_ofNat_of_zero_le h
    exact rprint_pos N w (by omega)
  · obtain ⟨N, hN⟩ := Int.eq_ofNat_of_zero_le (a := -v) (by omega)
    obtain rfl : v = -(N : Int) := by omega
    exact rprint_neg N w (by omega) (by omega)
end Go.Proofs.YthboippafkcoiaaGreatDoor.ws
