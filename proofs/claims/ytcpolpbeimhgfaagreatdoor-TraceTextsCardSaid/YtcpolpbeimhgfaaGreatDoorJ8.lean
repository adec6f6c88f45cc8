/- Contracts of vm: Run of a print, of a core that waits, that has halted, that is none. Contracts of vm: Drain. Contracts of vm: Drain of nothing, Step. Contracts of vm: New. Plain: what a step of the machine does; what stays. Contracts of vm: Step, in one. Plain: right Dids. Contracts of trace: the forms of Dids. Contracts of trace: right Dids. Contracts of vm: Play. Print, of the package and of the reference. Parse, of the package and of the reference. Parse of the package: a text that begins with no minus. Parse of the package: a text that begins with a minus. Parse, at every text. Contracts of trace: Events. Print of the reference. Parse of the reference: a text that begins with a minus. Parse of the reference: a text that begins with no minus. Contracts of the reference of trace: right Dids. Contracts of the reference of trace: Rights. Contracts of trace: Of. -/
import Derived.Test.YtcpolpbeimhgfaaGreatDoorJ7
import Derived.Test.YtcpolpbeimhgfaaGreatDoorProg
import Derived.WalkLawsBesides
import Derived.Deep.WholeRow
import Derived.Lib.Hide
import Derived.Below
import Derived.Test.YtcpolpbeimhgfaaGreatDoorJ4
import Derived.ShutString
import Derived.Lib.Mul64
import Derived.Laws.Bits64b
import Derived.Test.YtcpolpbeimhgfaaGreatDoorJ5
import Derived.Deep.RegionWith
set_option linter.all false

namespace Go.Proofs.YtcpolpbeimhgfaaGreatDoor.am
open Go Go.Proofs
def zeroD : Did := ⟨0, 0, 0, 0, 0, 0, false⟩
set_option maxRecDepth 100000 in
set_option maxHeartbeats 1000000 in
theorem k_run7 (s : Mst) (k : Nat) (i : Ins) {c : Cst} {r : Cor} (hc : s.cores[k]? = some c) (h16 : c.regs.length = 16) (hr : s.o.cores[k]? = some r) (h0 : 0 ≤ c.at_) (hi : r.code[c.at_.toNat]? = some i)
    (hh : c.halted = false) (hst : stallB s c i = false) (ha0 : 0 ≤ i.a) (ha1 : i.a < 16) (hp : s.prints.length ≤ 1048576) (hk : i.kind = 7) (ha9 : c.at_ ≤ 16384) :
    K 73 [.ptr 0 0, .tr (ti k)] s.blks (.ret (.tup [(Did.mk 6 k c.at_ 0 (c.reg i.a) 0 false).av, .tr (ti 0)])) [some (maP { s.setCore k (c1 c) with prints := s.prints ++ [Prn.mk k (c.reg i.a)] } 4), some (csB (s.setCore k (c1 c)).cores), some (meB s.mem), none, some (prB (s.prints ++ [Prn.mk k (c.reg i.a)]))] := by
  have hkl : k < s.cores.length := (List.getElem?_eq_some_iff.1 hc).1
  have hhas := k_has s k
  rw [has_ok hkl] at hhas
  have hnx := k_next s k (d0 k 0) hc h16 hr h0 hi
  have hsl := k_stalls s k i (d0 k 0) hc h16
  rw [hst] at hsl
  have hlt := core_lt hc
  have hx := k_vprint (s1 s k c) k i (d0 k c.at_) (s1_get hc) h16 ha0 ha1 hp
  obtain ⟨kind, op, D, a, b, addr, to_, word, from_⟩ := i
  refine Ctr.new [] hT hmix Tryz.func73 rfl (fun _ _ => by kernel_rfl) rfl fun hok => ?_
  clear hok
  have hw1 : IntKind.i64.wrap (c.at_ + 1) = c.at_ + 1 := by rw [w64 (by omega) (by omega)]
  conv => whnf
  refine acall.au [0, 1, 2, 3] [] (hhas) ?_
  intro _
  conv => whnf
  refine acall.au [0, 1, 2, 3, _] [] (hnx) ?_
  intro _
  conv => whnf
  refine ⟨rfl, hlt, fun row hrow => ?_⟩
  obtain rfl := row_of hc hrow
  refine ⟨by rw [row_len h16]; show 0 + 1 < 19; decide, fun t ht => ?_⟩
  obtain rfl : t = tb false := by rw [← hh]; exact (Option.some.inj ht).symm
  clear ht hrow
  conv => whnf
  refine acall.au [0, 1, 2, 3, _] [] (hsl) ?_
  intro _
  conv => whnf
  simp only at hk
  subst hk
  refine ⟨rfl, hlt, fun row hrow => ?_⟩
  obtain rfl := row_of hc hrow
  refine ⟨by rw [row_len h16]; show 0 + 0 < 19; decide, fun t ht => ?_⟩
  obtain rfl : t = ti c.at_ := (Option.some.inj ht).symm
  clear ht hrow
  conv => whnf
  refine ⟨rfl, hlt, fun row hrow => ?_⟩
  obtain rfl := row_of hc hrow
  refine ⟨by rw [row_len h16]; show 0 + 0 < 19; decide, fun t ht => ?_⟩
  obtain rfl : t = ti c.at_ := (Option.some.inj ht).symm
  clear ht hrow
  conv => whnf
  refine ⟨rfl, rfl, rfl, hlt, trivial, fun row hrow => ?_⟩
  obtain rfl := row_of hc hrow
  refine ⟨by rw [row_len h16]; show 0 + 0 + 1 ≤ 19; decide, ?_⟩
  clear hrow
  conv => whnf
  refine acall.pure _ (k_does7) rfl rfl ?_
  conv => whnf
  refine acall.new [0, 1, 2, 3, 14] [] _ _ _ _ hx rfl rfl rfl rfl aut ⟨⟨rfl, .inl rfl, .inl rfl, .inl rfl, .inl rfl, .inl rfl, ⟨rfl, by simp [Mst.setCore]⟩, ⟨rfl, by simp [Mst.setCore]⟩, ⟨rfl, by simp [Mst.setCore]⟩, trivial⟩, ⟨rfl, rfl, rfl, rfl, .inl (by rw [hw1]; exact csB_at s _)⟩, ⟨rfl, rfl, rfl, rfl⟩, ⟨rfl, rfl, rfl, rfl⟩, ⟨rfl, .inl rfl, .inl rfl, .inl rfl, .inl rfl, .inl rfl, .inl rfl, .inl rfl, trivial⟩, trivial⟩ rfl rfl ?_
  conv => whnf
  refine ⟨by kernel_rfl, fun _ => ?_⟩
  conv => whnf
  exact ⟨[0, 1, 2, 3, _], rfl, rfl, ⟨aut, .inl rfl, trivial⟩, ⟨rfl, .inl rfl, .inl rfl, .inl rfl, .inl rfl, .inl rfl, ⟨rfl, rfl⟩, ⟨rfl, rfl⟩, ⟨rfl, rfl⟩, trivial⟩, ⟨rfl, rfl, rfl, rfl, .inl rfl⟩, ⟨rfl, rfl, rfl, rfl⟩, ⟨rfl, rfl, rfl, rfl⟩, trivial⟩
set_option maxRecDepth 100000 in
set_option maxHeartbeats 1000000 in
theorem k_runS (s : Mst) (k : Nat) (i : Ins) {c : Cst} {r : Cor} (hc : s.cores[k]? = some c) (h16 : c.regs.length = 16) (hr : s.o.cores[k]? = some r) (h0 : 0 ≤ c.at_) (hi : r.code[c.at_.toNat]? = some i)
    (hh : c.halted = false) (hst : stallB s c i = true) (ha9 : c.at_ ≤ 16384) :
    K 73 [.ptr 0 0, .tr (ti k)] s.blks (.ret (.tup [zeroD.av, .tr (ti 181)])) (s.blks.map some) := by
  have hkl : k < s.cores.length := (List.getElem?_eq_some_iff.1 hc).1
  have hhas := k_has s k
  rw [has_ok hkl] at hhas
  have hnx := k_next s k (d0 k 0) hc h16 hr h0 hi
  have hsl := k_stalls s k i (d0 k 0) hc h16
  rw [hst] at hsl
  have hlt := core_lt hc
  obtain ⟨kind, op, D, a, b, addr, to_, word, from_⟩ := i
  refine Ctr.of hT hmix Tryz.func73 rfl (fun _ _ => by kernel_rfl) rfl fun hok => ?_
  clear hok
  have hw1 : IntKind.i64.wrap (c.at_ + 1) = c.at_ + 1 := by rw [w64 (by omega) (by omega)]
  conv => whnf
  refine acall.au [0, 1, 2, 3] [] (hhas) ?_
  intro _
  conv => whnf
  refine acall.au [0, 1, 2, 3, _] [] (hnx) ?_
  intro _
  conv => whnf
  refine ⟨rfl, hlt, fun row hrow => ?_⟩
  obtain rfl := row_of hc hrow
  refine ⟨by rw [row_len h16]; show 0 + 1 < 19; decide, fun t ht => ?_⟩
  obtain rfl : t = tb false := by rw [← hh]; exact (Option.some.inj ht).symm
  clear ht hrow
  conv => whnf
  refine acall.au [0, 1, 2, 3, _] [] (hsl) ?_
  intro _
  conv => whnf
  exact ⟨⟨aut, .inl rfl, trivial⟩, ⟨rfl, .inl rfl, .inl rfl, .inl rfl, .inl rfl, .inl rfl, ⟨rfl, by simp [Mst.setCore]⟩, ⟨rfl, by simp [Mst.setCore]⟩, ⟨rfl, by simp [Mst.setCore]⟩, trivial⟩, ⟨rfl, rfl, rfl, rfl, .inl rfl⟩, ⟨rfl, rfl, rfl, rfl⟩, ⟨rfl, rfl, rfl, rfl⟩, trivial⟩
set_option maxRecDepth 100000 in
set_option maxHeartbeats 1000000 in
theorem k_runH (s : Mst) (k : Nat) (i : Ins) {c : Cst} {r : Cor} (hc : s.cores[k]? = some c) (h16 : c.regs.length = 16) (hr : s.o.cores[k]? = some r) (h0 : 0 ≤ c.at_) (hi : r.code[c.at_.toNat]? = some i)
    (hh : c.halted = true) (ha9 : c.at_ ≤ 16384) :
    K 73 [.ptr 0 0, .tr (ti k)] s.blks (.ret (.tup [zeroD.av, .tr (ti 0)])) (s.blks.map some) := by
  have hkl : k < s.cores.length := (List.getElem?_eq_some_iff.1 hc).1
  have hhas := k_has s k
  rw [has_ok hkl] at hhas
  have hnx := k_next s k (d0 k 0) hc h16 hr h0 hi
  have hlt := core_lt hc
  obtain ⟨kind, op, D, a, b, addr, to_, word, from_⟩ := i
  refine Ctr.of hT hmix Tryz.func73 rfl (fun _ _ => by kernel_rfl) rfl fun hok => ?_
  clear hok
  have hw1 : IntKind.i64.wrap (c.at_ + 1) = c.at_ + 1 := by rw [w64 (by omega) (by omega)]
  conv => whnf
  refine acall.au [0, 1, 2, 3] [] (hhas) ?_
  intro _
  conv => whnf
  refine acall.au [0, 1, 2, 3, _] [] (hnx) ?_
  intro _
  conv => whnf
  refine ⟨rfl, hlt, fun row hrow => ?_⟩
  obtain rfl := row_of hc hrow
  refine ⟨by rw [row_len h16]; show 0 + 1 < 19; decide, fun t ht => ?_⟩
  obtain rfl : t = tb true := by rw [← hh]; exact (Option.some.inj ht).symm
  clear ht hrow
  conv => whnf
  exact ⟨⟨aut, .inl rfl, trivial⟩, ⟨rfl, .inl rfl, .inl rfl, .inl rfl, .inl rfl, .inl rfl, ⟨rfl, by simp [Mst.setCore]⟩, ⟨rfl, by simp [Mst.setCore]⟩, ⟨rfl, by simp [Mst.setCore]⟩, trivial⟩, ⟨rfl, rfl, rfl, rfl, .inl rfl⟩, ⟨rfl, rfl, rfl, rfl⟩, ⟨rfl, rfl, rfl, rfl⟩, trivial⟩
set_option maxRecDepth 100000 in
theorem k_runE (s : Mst) (k : Int) (hE : hasE s k ≠ 0) : K 73 [.ptr 0 0, .tr (ti k)] s.blks (.ret (.tup [zeroD.av, .tr (ti (hasE s k))])) (s.blks.map some) := by
  have hhas := k_has s k
  generalize hasE s k = e at hE hhas
  refine Ctr.of hT hmix Tryz.func73 rfl (fun _ _ => by kernel_rfl) rfl fun hok => ?_
  clear hok
  conv => whnf
  refine acall.au [0, 1, 2, 3] [] (hhas) ?_
  intro _
  conv => whnf
  refine csplit (fun h1 => ?_) (fun h1 => ?_)
  · conv => whnf
    exact ⟨⟨aut, .inl rfl, trivial⟩, ⟨rfl, .inl rfl, .inl rfl, .inl rfl, .inl rfl, .inl rfl, ⟨rfl, by simp [Mst.setCore]⟩, ⟨rfl, by simp [Mst.setCore]⟩, ⟨rfl, by simp [Mst.setCore]⟩, trivial⟩, ⟨rfl, rfl, rfl, rfl, .inl rfl⟩, ⟨rfl, rfl, rfl, rfl⟩, ⟨rfl, rfl, rfl, rfl⟩, trivial⟩
  · exact absurd h1 (by simpa using hE)
end Go.Proofs.YtcpolpbeimhgfaaGreatDoor.am

namespace Go.Proofs.YtcpolpbeimhgfaaGreatDoor.am
open Go Go.Proofs
theorem lnk_head {i j : Nat} {x : Nat × Nat} {r : List ((Nat × Nat) × (Nat × Nat))} : lnk (((i, j), x) :: r) i j = some x := by
  show (bif Nat.beq j j && Nat.beq i i then some x else lnk r i j) = some x
  rw [Nat.beq_refl, Nat.beq_refl]
  rfl
theorem sto_leaf (l : List Sto) : leafR (l.map Sto.row) := by
  intro row hr t ht
  obtain ⟨x, _, rfl⟩ := List.mem_map.1 hr
  have ht : t ∈ [ti x.at_, ti x.addr, ti x.word] := ht
  simp only [List.mem_cons, List.not_mem_nil, or_false] at ht
  rcases ht with rfl | rfl | rfl <;> exact ⟨_, rfl⟩
theorem cp_rows (l : List Sto) {N : List (List Tr)} {n : Nat} {z : List Tr} (hN : N = l.map Sto.row) (hn : n = l.length) : N.take (Nat.min N.length n) ++ (List.replicate n z).drop (Nat.min N.length n) = l.map Sto.row := by
  subst hN hn
  have e : Nat.min (l.map Sto.row).length l.length = l.length := by rw [List.length_map]; exact Nat.min_self _
  rw [e, List.take_of_length_le (by simp), List.drop_of_length_le (by simp), List.append_nil]
set_option maxRecDepth 100000 in
theorem k_drain (s : Mst) (k : Nat) {c : Cst} {x : Sto} {l : List Sto} (hc : s.cores[k]? = some c) (h16 : c.regs.length = 16) (hb : c.buf = x :: l) (hl : l.length ≤ 64) (hm0 : 0 ≤ x.addr) (hm1 : x.addr < (s.mem.length : Int)) :
    K 74 [.ptr 0 0, .tr (ti k)] s.blks (.ret (.tup [(Did.mk 8 k x.at_ x.addr x.word 0 false).av, .tr (ti 0)])) (({ s.setCore k { c with buf := l } with mem := s.mem.set x.addr.toNat x.word } : Mst).blks.map some) := by
  have hkl : k < s.cores.length := (List.getElem?_eq_some_iff.1 hc).1
  have hhas := k_has s k
  rw [show hasE s k = 0 by unfold hasE; rw [show decide ((k : Int) < 0) = false from decide_eq_false (by omega), show decide ((k : Int) ≥ (s.cores.length : Int)) = false from decide_eq_false (by omega)]; rfl] at hhas
  have hlt := core_lt hc
  have hbl : (c.buf.map Sto.row).length = l.length + 1 := by rw [hb]; simp
  have hw : IntKind.i64.wrap (((c.buf.map Sto.row).length : Int) - 1) = (l.length : Int) := by rw [hbl, w64 (by omega) (by omega)]; omega
  have hnews : List.take ((c.buf.map Sto.row).length - 1) (List.drop 1 (c.buf.map Sto.row)) = l.map Sto.row := by
    rw [hbl, Nat.add_sub_cancel, hb]
    exact List.take_of_length_le (by simp)
  have hwn : (IntKind.i64.wrap (((c.buf.map Sto.row).length : Int) - 1)).toNat = l.length := by rw [hw]; rfl
  refine Ctr.pk [] hT hmix Tryz.func74 rfl (fun _ _ => by kernel_rfl) rfl fun hok => ?_
  clear hok
  conv => whnf
  refine acall.au [0, 1, 2, 3] [] (hhas) ?_
  intro _
  conv => whnf
  refine ⟨rfl, (show (0 : Int) ≤ (k : Int) by omega), (show (k : Int) < (s.cores.length : Int) by omega), ?_⟩
  conv => whnf
  refine ⟨rfl, hlt, fun row hrow => ?_⟩
  obtain rfl := row_of hc hrow
  refine ⟨by rw [row_len h16]; show 0 + 18 < 19; decide, fun t ht => ?_⟩
  obtain rfl := row_buf h16 ht
  clear ht hrow
  conv => whnf
  refine ⟨by decide, ?_⟩
  conv => whnf
  refine csplit (fun h1 => ?_) (fun h1 => ?_)
  · replace h1 : (((c.buf.map Sto.row).length : Int) == 0) = true := h1
    rw [hbl] at h1
    exact absurd h1 (by simp; omega)
  conv => whnf
  refine ⟨rfl, hlt, fun row hrow => ?_⟩
  obtain rfl := row_of hc hrow
  refine ⟨by rw [row_len h16]; show 0 + 18 < 19; decide, fun t ht => ?_⟩
  rw [lnk_head]
  clear ht hrow
  conv => whnf
  refine ⟨rfl, Int.le_refl _, (show (0 : Int) < ((c.buf.map Sto.row).length : Int) by rw [hbl]; omega), ?_⟩
  conv => whnf
  refine ⟨rfl, (show 0 < (c.buf.map Sto.row).length by rw [hbl]; omega), fun row hrow => ?_⟩
  obtain rfl : row = x.row := by
    have hrow : (c.buf.map Sto.row)[0]? = some row := hrow
    rw [hb] at hrow
    exact (Option.some.inj hrow).symm
  refine ⟨(show 0 + 3 ≤ 3 by decide), fun t ht => ?_, fun j _ h => ?_, ?_⟩
  · have ht : t ∈ [ti x.at_, ti x.addr, ti x.word] := ht
    simp only [List.mem_cons, List.not_mem_nil, or_false] at ht
    rcases ht with rfl | rfl | rfl <;> exact ⟨_, rfl⟩
  · rfl
  clear hrow
  conv => whnf
  refine ⟨rfl, hlt, fun row hrow => ?_⟩
  obtain rfl := row_of hc hrow
  refine ⟨by rw [row_len h16]; show 0 + 18 < 19; decide, fun t ht => ?_⟩
  rw [lnk_head]
  clear ht hrow
  conv => whnf
  refine ⟨(show (0 : Int) ≤ IntKind.i64.wrap (((c.buf.map Sto.row).length : Int) - 1) by rw [hw]; omega), Int.le_refl _, (show IntKind.i64.wrap (((c.buf.map Sto.row).length : Int) - 1) * 24 ≤ 140737488351232 by rw [hw]; omega), ?_⟩
  conv => whnf
  refine ⟨rfl, hlt, fun row hrow => ?_⟩
  obtain rfl := row_of hc hrow
  refine ⟨by rw [row_len h16]; show 0 + 18 < 19; decide, fun t ht => ?_⟩
  rw [lnk_head]
  clear ht hrow
  conv => whnf
  refine ⟨rfl, (show (0 : Int) < 1 by decide), (show (1 : Int) ≤ ((c.buf.map Sto.row).length : Int) by rw [hbl]; omega), ?_⟩
  conv => whnf
  refine csplit (fun h2 => ?_) (fun h2 => ?_)
  · replace h2 : decide ((1 : Int) < ((c.buf.map Sto.row).length : Int)) = true := h2
    conv => whnf
    refine ⟨rfl, (by simp), (show (List.take ((c.buf.map Sto.row).length - 1) (List.drop 1 (c.buf.map Sto.row))).length = (c.buf.map Sto.row).length - 1 by rw [hb]; simp), (show leafR (List.take ((c.buf.map Sto.row).length - 1) (List.drop 1 (c.buf.map Sto.row))) by rw [hnews]; exact sto_leaf l), (fun p hp => by simp at hp; subst hp; simp), ?_⟩
    conv => whnf
    refine ⟨rfl, rfl, rfl, hlt, ⟨fun _ => rfl, trivial⟩, fun row hrow => ?_⟩
    obtain rfl := row_of hc hrow
    refine ⟨by rw [row_len h16]; show 0 + 18 + 1 ≤ 19; decide, ?_⟩
    clear hrow
    conv => whnf
    refine ⟨rfl, hm0, hm1, ?_⟩
    conv => whnf
    refine ⟨rfl, rfl, by rw [List.length_map]; show x.addr.toNat < s.mem.length; omega, fun row hrow => ?_⟩
    obtain ⟨y, _, rfl⟩ := mem_get hrow
    refine ⟨Nat.le_refl _, ?_⟩
    clear hrow
    conv => whnf
    refine ⟨by kernel_rfl, fun _ => ?_⟩
    conv => whnf
    refine ⟨[1], ?_⟩
    conv => whnf
    have key := cp_rows l (z := [ti 0, ti 0, ti 0]) hnews hwn
    refine ⟨rfl, rfl, Nat.le_of_eq (hwn.trans (Eq.symm ((congrArg List.length key).trans (List.length_map ..)))), Eq.mpr (congrArg leafR key) (sto_leaf l), ?_⟩
    refine ⟨[0, 1, 2, 3], rfl, rfl, ⟨aut, .inl rfl, trivial⟩, ⟨rfl, .inl rfl, .inl rfl, .inl rfl, .inl rfl, .inl rfl, ⟨rfl, by simp [Mst.setCore]⟩, ⟨rfl, by simp [Mst.setCore]⟩, ⟨rfl, by simp [Mst.setCore]⟩, trivial⟩, ⟨rfl, rfl, rfl, rfl, .inl ?_⟩, ⟨rfl, rfl, rfl, mem_set s.mem x.addr.toNat _ rfl⟩, ⟨rfl, rfl, rfl, rfl⟩, trivial⟩
    exact (congrArg (fun r => setC ((s.cores.map Cst.row).set k (c.row.take (0 + 18) ++ [Tr.v (.slice none 0 0)] ++ c.row.drop (0 + 18 + 1))) k 18 (.lst 3 24 r)) ((congrArg (List.take (IntKind.i64.wrap (((c.buf.map Sto.row).length : Int) - 1)).toNat) key).trans (List.take_of_length_le (by rw [hwn]; simp)))).trans (csB_buf s hc h16 _ l)
  · replace h2 : decide ((1 : Int) < ((c.buf.map Sto.row).length : Int)) = false := h2
    rw [hbl] at h2
    have hl0 : l = [] := List.eq_nil_of_length_eq_zero (by have := of_decide_eq_false h2; omega)
    have hnil : ([] : List (List Tr)) = l.map Sto.row := by rw [hl0]; rfl
    conv => whnf
    refine ⟨rfl, (by simp), trivial, (fun _ h => by cases h), (fun p hp => by cases hp), ?_⟩
    conv => whnf
    refine ⟨rfl, rfl, rfl, hlt, ⟨fun _ => rfl, trivial⟩, fun row hrow => ?_⟩
    obtain rfl := row_of hc hrow
    refine ⟨by rw [row_len h16]; show 0 + 18 + 1 ≤ 19; decide, ?_⟩
    clear hrow
    conv => whnf
    refine ⟨rfl, hm0, hm1, ?_⟩
    conv => whnf
    refine ⟨rfl, rfl, by rw [List.length_map]; show x.addr.toNat < s.mem.length; omega, fun row hrow => ?_⟩
    obtain ⟨y, _, rfl⟩ := mem_get hrow
    refine ⟨Nat.le_refl _, ?_⟩
    clear hrow
    conv => whnf
    refine ⟨by kernel_rfl, fun _ => ?_⟩
    conv => whnf
    refine ⟨[1], ?_⟩
    conv => whnf
    have key := cp_rows l (z := [ti 0, ti 0, ti 0]) hnil hwn
    refine ⟨rfl, rfl, Nat.le_of_eq (hwn.trans (Eq.symm ((congrArg List.length key).trans (List.length_map ..)))), Eq.mpr (congrArg leafR key) (sto_leaf l), ?_⟩
    refine ⟨[0, 1, 2, 3], rfl, rfl, ⟨aut, .inl rfl, trivial⟩, ⟨rfl, .inl rfl, .inl rfl, .inl rfl, .inl rfl, .inl rfl, ⟨rfl, by simp [Mst.setCore]⟩, ⟨rfl, by simp [Mst.setCore]⟩, ⟨rfl, by simp [Mst.setCore]⟩, trivial⟩, ⟨rfl, rfl, rfl, rfl, .inl ?_⟩, ⟨rfl, rfl, rfl, mem_set s.mem x.addr.toNat _ rfl⟩, ⟨rfl, rfl, rfl, rfl⟩, trivial⟩
    exact (congrArg (fun r => setC ((s.cores.map Cst.row).set k (c.row.take (0 + 18) ++ [Tr.v (.slice none 0 0)] ++ c.row.drop (0 + 18 + 1))) k 18 (.lst 3 24 r)) ((congrArg (List.take (IntKind.i64.wrap (((c.buf.map Sto.row).length : Int) - 1)).toNat) key).trans (List.take_of_length_le (by rw [hwn]; simp)))).trans (csB_buf s hc h16 _ l)
end Go.Proofs.YtcpolpbeimhgfaaGreatDoor.am

namespace Go.Proofs.YtcpolpbeimhgfaaGreatDoor.am
open Go Go.Proofs
theorem lnk_no {i j : Nat} : lnk [] i j = none := rfl
set_option maxRecDepth 100000 in
theorem k_drainE (s : Mst) (k : Int) (hE : hasE s k ≠ 0) : K 74 [.ptr 0 0, .tr (ti k)] s.blks (.ret (.tup [zeroD.av, .tr (ti (hasE s k))])) (s.blks.map some) := by
  have hhas := k_has s k
  generalize hasE s k = e at hE hhas
  refine Ctr.of hT hmix Tryz.func74 rfl (fun _ _ => by kernel_rfl) rfl fun hok => ?_
  clear hok
  conv => whnf
  refine acall.au [0, 1, 2, 3] [] (hhas) ?_
  intro _
  conv => whnf
  refine csplit (fun h1 => ?_) (fun h1 => ?_)
  · conv => whnf
    exact ⟨⟨aut, .inl rfl, trivial⟩, aut, aut, aut, aut, trivial⟩
  · exact absurd h1 (by simpa using hE)
set_option maxRecDepth 100000 in
theorem k_drain0 (s : Mst) (k : Nat) {c : Cst} (hc : s.cores[k]? = some c) (h16 : c.regs.length = 16) (hb : c.buf = []) : K 74 [.ptr 0 0, .tr (ti k)] s.blks (.ret (.tup [zeroD.av, .tr (ti 0)])) (s.blks.map some) := by
  have hkl : k < s.cores.length := (List.getElem?_eq_some_iff.1 hc).1
  have hhas := k_has s k
  rw [has_ok hkl] at hhas
  have hlt := core_lt hc
  refine Ctr.pk [] hT hmix Tryz.func74 rfl (fun _ _ => by kernel_rfl) rfl fun hok => ?_
  clear hok
  conv => whnf
  refine acall.au [0, 1, 2, 3] [] (hhas) ?_
  intro _
  conv => whnf
  refine ⟨rfl, (show (0 : Int) ≤ (k : Int) by omega), (show (k : Int) < (s.cores.length : Int) by omega), ?_⟩
  conv => whnf
  refine ⟨rfl, hlt, fun row hrow => ?_⟩
  obtain rfl := row_of hc hrow
  refine ⟨by rw [row_len h16]; show 0 + 18 < 19; decide, fun t ht => ?_⟩
  obtain rfl := row_buf h16 ht
  clear ht hrow
  conv => whnf
  refine ⟨by decide, ?_⟩
  conv => whnf
  refine csplit (fun h1 => ?_) (fun h1 => ?_)
  · conv => whnf
    refine ⟨[1], ?_⟩
    conv => whnf
    refine ⟨rfl, lnk_no, Nat.le_refl _, ?_⟩
    refine ⟨[0, 1, 2, 3], rfl, rfl, ⟨aut, .inl rfl, trivial⟩, aut, ⟨rfl, rfl, rfl, rfl, .inl ?_⟩, aut, aut, trivial⟩
    show setC (s.cores.map Cst.row) k 18 (.lst 3 24 ((c.buf.map Sto.row).take (c.buf.map Sto.row).length)) = s.cores.map Cst.row
    rw [List.take_of_length_le (by simp)]
    exact setC_buf hc h16
  · replace h1 : (((c.buf.map Sto.row).length : Int) == 0) = false := h1
    rw [hb] at h1
    exact absurd h1 (by decide)
/-! Step -/
set_option maxRecDepth 100000 in
theorem k_stepW (s : Mst) (kd k : Int) (h1 : kd ≠ 1) (h2 : kd ≠ 2) : K 55 [.ptr 0 0, .agg [.tr (tu kd), .tr (ti k)]] s.blks (.ret (.tup [zeroD.av, .tr (ti 182)])) (s.blks.map some) := by
  refine Ctr.of hT hmix Tryz.func55 rfl (fun _ _ => by kernel_rfl) rfl fun hok => ?_
  clear hok
  conv => whnf
  refine csplit (fun a1 => ?_) (fun a1 => ?_)
  · exact absurd a1 (by simpa using h1)
  conv => whnf
  refine csplit (fun a2 => ?_) (fun a2 => ?_)
  · exact absurd a2 (by simpa using h2)
  conv => whnf
  exact ⟨⟨aut, .inl rfl, trivial⟩, aut, aut, aut, aut, trivial⟩
set_option maxRecDepth 100000 in
/-- a step that runs, where the prints stay -/
theorem k_stepR (s s' : Mst) (k : Int) (d : Did) (e : Int) (h : K 73 [.ptr 0 0, .tr (ti k)] s.blks (.ret (.tup [d.av, .tr (ti e)])) (s'.blks.map some)) : K 55 [.ptr 0 0, .agg [.tr (tu 1), .tr (ti k)]] s.blks (.ret (.tup [d.av, .tr (ti e)])) (s'.blks.map some) := by
  obtain ⟨dk, dc, da, dd, dw, dp, dn⟩ := d
  refine Ctr.of hT hmix Tryz.func55 rfl (fun _ _ => by kernel_rfl) rfl fun hok => ?_
  clear hok
  conv => whnf
  refine acall.au [0, 1, 2, 3] [] (h) ?_
  intro _
  conv => whnf
  exact ⟨⟨aut, .inl rfl, trivial⟩, aut, aut, aut, aut, trivial⟩
set_option maxRecDepth 100000 in
theorem k_stepD (s s' : Mst) (k : Int) (d : Did) (e : Int) (h : K 74 [.ptr 0 0, .tr (ti k)] s.blks (.ret (.tup [d.av, .tr (ti e)])) (s'.blks.map some)) : K 55 [.ptr 0 0, .agg [.tr (tu 2), .tr (ti k)]] s.blks (.ret (.tup [d.av, .tr (ti e)])) (s'.blks.map some) := by
  obtain ⟨dk, dc, da, dd, dw, dp, dn⟩ := d
  refine Ctr.of hT hmix Tryz.func55 rfl (fun _ _ => by kernel_rfl) rfl fun hok => ?_
  clear hok
  conv => whnf
  refine acall.au [0, 1, 2, 3] [] (h) ?_
  intro _
  conv => whnf
  exact ⟨⟨aut, .inl rfl, trivial⟩, aut, aut, aut, aut, trivial⟩
set_option maxRecDepth 100000 in
/-- a step that prints -/
theorem k_stepP (s s' : Mst) (k : Int) (d : Did) (e : Int) (h : K 73 [.ptr 0 0, .tr (ti k)] s.blks (.ret (.tup [d.av, .tr (ti e)])) [some (maP s' 4), some (csB s'.cores), some (meB s'.mem), none, some (prB s'.prints)]) : K 55 [.ptr 0 0, .agg [.tr (tu 1), .tr (ti k)]] s.blks (.ret (.tup [d.av, .tr (ti e)])) [some (maP s' 4), some (csB s'.cores), some (meB s'.mem), none, some (prB s'.prints)] := by
  obtain ⟨dk, dc, da, dd, dw, dp, dn⟩ := d
  refine Ctr.new [] hT hmix Tryz.func55 rfl (fun _ _ => by kernel_rfl) rfl fun hok => ?_
  clear hok
  conv => whnf
  refine acall.new [0, 1, 2, 3] [] _ _ _ _ h rfl rfl rfl rfl aut aut rfl rfl fun _ => ?_
  conv => whnf
  exact ⟨[0, 1, 2, 3, _], rfl, rfl, ⟨aut, .inl rfl, trivial⟩, aut, aut, aut, aut, trivial⟩
end Go.Proofs.YtcpolpbeimhgfaaGreatDoor.am

namespace Go.Proofs.YtcpolpbeimhgfaaGreatDoor.am
open Go Go.Proofs
theorem code_leaf0 (l : List Ins) : leafR (l.map Ins.cells) := by
  intro row hr t ht
  obtain ⟨i, _, rfl⟩ := List.mem_map.1 hr
  have ht : t ∈ [tu i.kind, tu i.op, ti i.d, ti i.a, ti i.b, ti i.addr, ti i.to_, ti i.word, ti i.from_] := ht
  simp only [List.mem_cons, List.not_mem_nil, or_false] at ht
  rcases ht with rfl | rfl | rfl | rfl | rfl | rfl | rfl | rfl | rfl <;> exact ⟨_, rfl⟩
theorem setC_last {A : List (List Tr)} {r : List Tr} {i j : Nat} {t : Tr} (h : i = A.length) : setC (A ++ [r]) i j t = A ++ [r.set j t] := by
  subst h
  unfold setC
  rw [List.getElem?_append_right (Nat.le_refl _), Nat.sub_self]
  show (A ++ [r]).set A.length (r.set j t) = _
  rw [List.set_append_right _ _ (Nat.le_refl _), Nat.sub_self]
  rfl
/-- a machine at its beginning -/
def newC : Cst := ⟨0, false, List.replicate 16 0, []⟩
def newM (o : Ob) : Mst := ⟨o, o.cores.map fun _ => newC, o.memory, []⟩
abbrev zeroC : List Tr := [ti 0, tb false, ti 0, ti 0, ti 0, ti 0, ti 0, ti 0, ti 0, ti 0, ti 0, ti 0, ti 0, ti 0, ti 0, ti 0, ti 0, ti 0, .v (.slice none 0 0)]
theorem new_leafC (n : Nat) : leafR (List.replicate n zeroC) := by
  intro row hr t ht
  obtain rfl := (List.mem_replicate.1 hr).2
  simp only [List.mem_cons, List.not_mem_nil, or_false] at ht
  rcases ht with rfl | rfl | rfl | rfl | rfl | rfl | rfl | rfl | rfl | rfl | rfl | rfl | rfl | rfl | rfl | rfl | rfl | rfl | rfl <;> exact ⟨_, rfl⟩
theorem nlR_rep {r r' : List Tr} (h : nlL r r') : ∀ n, nlR (List.replicate n r) (List.replicate n r')
  | 0 => trivial
  | n + 1 => ⟨h, nlR_rep h n⟩
theorem new_rows (cores : List Cor) : nlR (List.replicate (((cores.map Cor.cells).length : Int)).toNat zeroC) ((cores.map fun _ => newC).map Cst.row) := by
  have e : (cores.map fun _ => newC).map Cst.row = List.replicate (((cores.map Cor.cells).length : Int)).toNat newC.row := by
    rw [List.map_map, Int.toNat_natCast, List.length_map]
    exact List.map_const' ..
  rw [e]
  refine nlR_rep ?_ _
  exact ⟨.inl rfl, .inl rfl, .inl rfl, .inl rfl, .inl rfl, .inl rfl, .inl rfl, .inl rfl, .inl rfl, .inl rfl, .inl rfl, .inl rfl, .inl rfl, .inl rfl, .inl rfl, .inl rfl, .inl rfl, .inl rfl, .inr ⟨rfl, _, _, rfl⟩, trivial⟩
set_option maxRecDepth 100000 in
theorem k_vnew (o : Ob) (h : (checkO o).1 = 0) (hm : o.memory.length ≤ 4096) (hk : o.cores.length ≤ 8) (hcl : ∀ c ∈ o.cores, c.code.length ≤ 16384) : K 54 [o.av] [] (.ret (.tup [.ptr 0 0, .tr (ti 0)])) ((newM o).blks.map some) := by
  have hc := k_check o
  have hcm := k_cloneI o.memory (by omega)
  refine Ctr.new [12, 0] hT hmix Tryz.func54 rfl (fun _ _ => by kernel_rfl) rfl fun hok => ?_
  clear hok
  obtain ⟨memory, shared, locks, buffer, cores⟩ := o
  simp only at hm hk hcl hcm
  generalize checkO ⟨memory, shared, locks, buffer, cores⟩ = R at hc h
  conv => whnf
  refine acall.pure _ (hc) rfl rfl fun _ => ?_
  conv => whnf
  refine csplit (fun h1 => ?_) (fun h1 => ?_)
  · exact absurd (by simpa using h) (by simpa using h1)
  conv => whnf
  refine CutL.by (fun _ : Unit => ⟨[(1, .ptr 0 0), (7, .ptr 1 0)], [(0, .cells 58 [.tr (intsT memory), .tr (ti shared), .tr (ti locks), .tr (ti buffer), .tr (coresT cores)]), (1, .cells 58 [.tr (.v (.slice none 0 0)), .tr (ti shared), .tr (ti locks), .tr (ti buffer), .tr (coresT cores)])], 10⟩) (fun _ => True) ?_ ?_
  · conv => whnf
    refine LoopL.by (fun j : Nat => ⟨[(1, .ptr 0 0), (7, .ptr 1 0), (23, .tr (coresT cores)), (24, .tr (ti cores.length)), (25, .tr (ti j))], [(0, .cells 58 [.tr (intsT memory), .tr (ti shared), .tr (ti locks), .tr (ti buffer), .tr (coresT cores)]), (1, .cells 58 [.tr (.v (.slice none 0 0)), .tr (ti shared), .tr (ti locks), .tr (ti buffer), .sl 2 j]), (2, .own 2 40 ((cores.take j).map Cor.cells) [])], 10⟩)
      (fun j => j ≤ cores.length) (fun j => cores.length - j) 0 [_, _] [2]
      (Sub.mk' rfl ⟨⟨rfl, rfl⟩, ⟨rfl, rfl⟩, .inl rfl, .inl (congrArg (fun n : Nat => ti (n : Int)) (List.length_map ..)), .inl rfl, trivial⟩ ⟨⟨rfl, .inl rfl, .inl rfl, .inl rfl, .inl rfl, .inl rfl, trivial⟩, ⟨rfl, .inl rfl, .inl rfl, .inl rfl, .inl rfl, ⟨rfl, rfl, rfl, rfl⟩, trivial⟩, ⟨rfl, rfl, rfl, by decide⟩, trivial⟩ rfl rfl) (Nat.zero_le _) ?_
    rintro j hj -
    have hj1 : IntKind.i64.wrap ((j : Int) + 1) = ((j + 1 : Nat) : Int) := by rw [w64 (by omega) (by omega)]; omega
    conv => whnf
    refine csplit (fun h1 => ?_) (fun h1 => ?_)
    · have hjl : j < cores.length := by have := of_decide_eq_true h1; omega
      obtain ⟨⟨cn, cc⟩, hd⟩ : ∃ d, cores[j]? = some d := ⟨cores[j], by simp [hjl]⟩
      have hcc : cc.length ≤ 16384 := hcl _ (List.mem_of_getElem? hd)
      have hcn := k_cloneN cc (by omega)
      conv => whnf
      refine ⟨rfl, (show (0 : Int) ≤ (j : Int) by omega), (show (j : Int) < ((cores.map Cor.cells).length : Int) by rw [List.length_map]; omega), fun row hrow => ?_⟩
      replace hrow : (cores.map Cor.cells)[j]? = some row := hrow
      rw [List.getElem?_map, hd] at hrow
      cases hrow
      conv => whnf
      refine acall.new [] [] _ _ _ _ hcn rfl rfl rfl rfl aut aut rfl rfl ?_
      conv => whnf
      refine ⟨by simp; omega, rfl, Nat.le_refl _, (show (j + 1) * 40 ≤ 150000000000000 by omega), trivial, trivial, trivial, ?_⟩
      conv => whnf
      refine ⟨by kernel_rfl, fun _ => ?_⟩
      conv => whnf
      refine ⟨j + 1, [0, 1, 24], [], Sub.pk [24] ?_, hjl, by omega⟩
      conv => whnf
      refine ⟨rfl, rfl, (show cc.length ≤ (cc.map Ins.cells).length by simp), code_leaf0 cc, ?_⟩
      refine Sub0.mk' rfl ⟨⟨rfl, rfl⟩, ⟨rfl, rfl⟩, .inl rfl, .inl rfl, .inl (congrArg ti hj1), trivial⟩ ⟨⟨rfl, .inl rfl, .inl rfl, .inl rfl, .inl rfl, .inl rfl, trivial⟩, ⟨rfl, .inl rfl, .inl rfl, .inl rfl, .inl rfl, ⟨rfl, rfl⟩, trivial⟩, ⟨rfl, rfl, rfl, rfl, .inl ?_⟩, trivial⟩ rfl rfl
      refine (setC_last (by simp; omega)).trans ?_
      show (cores.take j).map Cor.cells ++ [[ts cn, .lst 9 64 ((cc.map Ins.cells).take cc.length)]] = _
      rw [List.take_of_length_le (l := cc.map Ins.cells) (by simp), List.take_add_one, hd, List.map_append]
      rfl
    · have hjl : j = cores.length := by have := of_decide_eq_false h1; omega
      subst hjl
      conv => whnf
      refine ⟨fun _ => ?_, fun h => absurd rfl h⟩
      conv => whnf
      exact ⟨(), [0, 1], [], Sub.mk' rfl ⟨⟨rfl, rfl⟩, ⟨rfl, rfl⟩, trivial⟩ ⟨⟨rfl, .inl rfl, .inl rfl, .inl rfl, .inl rfl, .inl rfl, trivial⟩, ⟨rfl, .inl rfl, .inl rfl, .inl rfl, .inl rfl, ⟨rfl, by simp, by rw [List.take_of_length_le (by simp), List.take_of_length_le (by simp)]⟩, trivial⟩, trivial⟩ rfl rfl, trivial⟩
  · rintro - - -
    refine CutL.by (fun _ : Unit => ⟨[(2, .ptr 0 0), (3, .tr (ti 0))], [(0, maB (newM ⟨memory, shared, locks, buffer, cores⟩)), (1, csB (newM ⟨memory, shared, locks, buffer, cores⟩).cores), (2, meB memory), (3, prB [])], 10⟩) (fun _ => True) ?_ ?_
    · conv => whnf
      refine ⟨(show (0 : Int) ≤ ((cores.map Cor.cells).length : Int) by omega), Int.le_refl _, (show ((cores.map Cor.cells).length : Int) * 168 ≤ 140737488351232 by rw [List.length_map]; omega), ?_⟩
      conv => whnf
      refine acall.new [] [] _ _ _ _ hcm rfl rfl rfl rfl aut aut rfl rfl ?_
      conv => whnf
      refine ⟨by kernel_rfl, fun _ => ?_⟩
      conv => whnf
      refine ⟨(), [_, _, _], [3], Sub.mk' rfl ⟨⟨rfl, rfl⟩, .inl rfl, trivial⟩ ⟨⟨rfl, .inl rfl, .inl rfl, .inl rfl, .inl rfl, .inl rfl, ⟨rfl, ?_⟩, ⟨rfl, rfl⟩, ⟨rfl, rfl, rfl, rfl⟩, trivial⟩, ⟨rfl, rfl, rfl, ?_, .inr ?_⟩, ⟨rfl, rfl, rfl, rfl⟩, ⟨rfl, _, _, _, rfl, by decide⟩, trivial⟩ rfl rfl, trivial⟩
      · simp [newM]
      · exact new_leafC _
      · exact new_rows cores
    · rintro - - -
      conv => whnf
      exact ⟨[0, 1, 2, 3], rfl, rfl, ⟨⟨rfl, rfl⟩, .inl rfl, trivial⟩, ⟨rfl, .inl rfl, .inl rfl, .inl rfl, .inl rfl, .inl rfl, ⟨rfl, rfl⟩, ⟨rfl, rfl⟩, ⟨rfl, rfl⟩, trivial⟩, ⟨rfl, rfl, rfl, rfl, .inl rfl⟩, ⟨rfl, rfl, rfl, rfl⟩, ⟨rfl, rfl, rfl, rfl⟩, trivial⟩
end Go.Proofs.YtcpolpbeimhgfaaGreatDoor.am

namespace Go.Proofs.YtcpolpbeimhgfaaGreatDoor.am
open Go Go.Proofs
theorem within_ok {all n u most : Int} (h : withinB all n u most = true) (hm : 0 < most) : 0 ≤ n ∧ n < most := by
  unfold withinB at h
  rw [Bool.or_eq_true] at h
  rcases h with h | h
  · rw [Bool.and_eq_true] at h
    have : n = 0 := by simpa using h.2
    omega
  · rw [Bool.and_eq_true, Bool.and_eq_true] at h
    exact ⟨of_decide_eq_true h.1.2, of_decide_eq_true h.2⟩
structure RightI (i : Ins) (code mem : Int) : Prop where
  kind : 1 ≤ i.kind ∧ i.kind < 11
  d : 0 ≤ i.d ∧ i.d < 16
  a : 0 ≤ i.a ∧ i.a < 16
  b : 0 ≤ i.b ∧ i.b < 16
  addr : i.kind = 3 ∨ i.kind = 4 ∨ i.kind = 5 → 0 ≤ i.addr ∧ i.addr < mem
  to_ : 0 < code → 0 ≤ i.to_ ∧ i.to_ < code
  op : i.kind = 2 → two i.op = true ∨ i.op = 17 ∨ i.op = 18
theorem op_ok {all op : Int} (ha : (band all 1 == 0) = false) (h : opB all op = true) : two op = true ∨ op = 17 ∨ op = 18 := by
  unfold opB at h
  rw [ha] at h
  simp only [Bool.false_and, Bool.false_or, Bool.and_eq_true, Bool.not_eq_true'] at h
  have h2 := h.2
  by_cases hr : 1 ≤ op ∧ op ≤ 18
  · by_cases h3 : op ≤ 16
    · left; unfold two; simp; omega
    · right; omega
  · exfalso
    have e : opword op = ⟨#[]⟩ := by
      unfold opword byK
      by_cases h0 : op ≤ 0
      · rw [show op.toNat = 0 by omega]; rfl
      · rw [List.getD_eq_getElem?_getD, List.getElem?_eq_none (by show 19 ≤ op.toNat; omega)]; rfl
    rw [e] at h2
    exact absurd h2 (by rw [show seq ⟨#[]⟩ ⟨#[]⟩ = true by kernel_rfl]; decide)
theorem bm3 : (band (kmask 3) 16 == 0) = false := by kernel_rfl
theorem bm4 : (band (kmask 4) 16 == 0) = false := by kernel_rfl
theorem bm5 : (band (kmask 5) 16 == 0) = false := by kernel_rfl
theorem bm7 : (band 7 1 == 0) = false := by kernel_rfl
theorem bm15 : (band (kmask 2) 1 == 0) = false := by kernel_rfl
theorem right_i {i : Ins} {code mem : Int} (h : rightB i code mem = true) : RightI i code mem := by
  have hk := right_kind h
  unfold rightB at h
  simp only [Bool.and_eq_true] at h
  obtain ⟨_, ⟨⟨⟨⟨⟨h1, h2⟩, h3⟩, h4⟩, h5⟩, h6⟩, _⟩ := h
  refine ⟨hk, within_ok h2 (by decide), within_ok h3 (by decide), within_ok h4 (by decide), fun hc => ?_, fun hc => within_ok h6 hc, fun hc => ?_⟩
  · have hb : (band (usedM i.kind i.op) 16 == 0) = false := by
      have e2 : (i.kind == 2) = false := beq_eq_false_iff_ne.2 (by omega)
      have e3 : usedM i.kind i.op = kmask i.kind := by unfold usedM; rw [e2]; rfl
      rw [e3]
      rcases hc with e | e | e <;> rw [e]
      · exact bm3
      · exact bm4
      · exact bm5
    unfold withinB at h5
    rw [hb] at h5
    simp only [Bool.false_and, Bool.false_or, Bool.and_eq_true] at h5
    exact ⟨of_decide_eq_true h5.1.2, of_decide_eq_true h5.2⟩
  · refine op_ok ?_ h1
    unfold usedM
    rw [hc]
    cases two i.op
    · exact bm7
    · exact bm15
theorem good_last {o : Ob} (h : (checkO o).1 = 0) : ∀ c ∈ o.cores, lastBad c = false := by
  obtain ⟨h1, _⟩ := check_iff.1 h
  unfold shapedB at h1
  cases hb : headBad o
  · rw [hb] at h1
    exact fun c hc => (coresOk_mem h1 c hc).2.2.2
  · rw [hb] at h1; cases h1

/-! the step -/
def insAt (s : Mst) (k : Nat) (c : Cst) : Option Ins := (s.o.cores[k]?).bind fun r => r.code[c.at_.toNat]?
abbrev seeS (s : Mst) (c : Cst) (i : Ins) : Int × Bool := seeB c.buf i.addr (s.mem.getD i.addr.toNat 0, false)
def runS (s : Mst) (k : Nat) (c : Cst) (i : Ins) : Mst × Did := match i.kind.toNat with
  | 1 => (s.setCore k ((c1 c).setReg i.d i.word), ⟨1, k, c.at_, 0, 0, 0, false⟩)
  | 2 => (s.setCore k ((c1 c).setReg i.d (aluW i.op (c.reg i.a) (c.reg i.b))), ⟨1, k, c.at_, 0, 0, 0, false⟩)
  | 3 => (s.setCore k ((c1 c).setReg i.d (seeS s c i).1), ⟨2, k, c.at_, i.addr, (seeS s c i).1, 0, (seeS s c i).2⟩)
  | 4 => (s.setCore k { c1 c with buf := c.buf ++ [Sto.mk c.at_ i.addr (c.reg i.a)] }, ⟨3, k, c.at_, i.addr, c.reg i.a, 0, false⟩)
  | 5 => ({ s.setCore k ((c1 c).setReg i.d (s.mem.getD i.addr.toNat 0)) with mem := s.mem.set i.addr.toNat (c.reg i.d) }, ⟨4, k, c.at_, i.addr, s.mem.getD i.addr.toNat 0, c.reg i.d, false⟩)
  | 6 => (s.setCore k (c1 c), ⟨5, k, c.at_, 0, 0, 0, false⟩)
  | 7 => ({ s.setCore k (c1 c) with prints := s.prints ++ [Prn.mk k (c.reg i.a)] }, ⟨6, k, c.at_, 0, c.reg i.a, 0, false⟩)
  | 8 => (s.setCore k { c with at_ := i.to_ }, ⟨1, k, c.at_, 0, 0, 0, false⟩)
  | 9 => (s.setCore k { c with at_ := bif c.reg i.a == 0 then i.to_ else c.at_ + 1 }, ⟨1, k, c.at_, 0, 0, 0, false⟩)
  | 10 => (s.setCore k { c with halted := true, at_ := c.at_ }, ⟨7, k, c.at_, 0, 0, 0, false⟩)
  | _ => (s, zeroD)
def runC (s : Mst) (k : Nat) (c : Cst) : Mst × Did × Int :=
  if c.halted = true then (s, zeroD, 0) else match insAt s k c with
    | none => (s, zeroD, 0)
    | some i => if stallB s c i = true then (s, zeroD, 181) else ((runS s k c i).1, (runS s k c i).2, 0)
def drainC (s : Mst) (k : Nat) (c : Cst) : Mst × Did × Int := match c.buf with
  | [] => (s, zeroD, 0)
  | x :: l => ({ s.setCore k { c with buf := l } with mem := s.mem.set x.addr.toNat x.word }, ⟨8, k, x.at_, x.addr, x.word, 0, false⟩, 0)
def stepS (s : Mst) (kd k : Int) : Mst × Did × Int :=
  if kd ≠ 1 ∧ kd ≠ 2 then (s, zeroD, 182) else if k < 0 ∨ (s.cores.length : Int) ≤ k then (s, zeroD, 180) else
    match s.cores[k.toNat]? with
    | none => (s, zeroD, 180)
    | some c => if kd = 1 then runC s k.toNat c else drainC s k.toNat c

/-! what stays -/
structure InvC (o : Ob) (r : Cor) (c : Cst) : Prop where
  regs : c.regs.length = 16
  at0 : 0 ≤ c.at_
  at1 : c.at_ < r.code.length
  buf : (c.buf.length : Int) ≤ o.buffer
  adr : ∀ x ∈ c.buf, (0 ≤ x.addr ∧ x.addr < o.memory.length) ∧ (0 ≤ x.at_ ∧ x.at_ < 16384)
structure VInv (s : Mst) : Prop where
  chk : (checkO s.o).1 = 0
  len : s.cores.length = s.o.cores.length
  mem : s.mem.length = s.o.memory.length
  core : ∀ (k : Nat) (c : Cst) (r : Cor), s.cores[k]? = some c → s.o.cores[k]? = some r → InvC s.o r c
theorem VInv.new {o : Ob} (h : (checkO o).1 = 0) : VInv (newM o) := by
  have hg := check_good h
  refine ⟨h, by simp [newM], rfl, fun k c r hc hr => ?_⟩
  have hc : (o.cores.map fun _ => newC)[k]? = some c := hc
  have hr : o.cores[k]? = some r := hr
  rw [List.getElem?_map, hr] at hc
  obtain rfl := Option.some.inj hc
  have := (hg.code r (List.mem_of_getElem? hr)).1
  exact ⟨rfl, Int.le_refl _, by show (0 : Int) < _; omega, by show (0 : Int) ≤ o.buffer; have := hg.buffer; omega, fun x hx => by cases hx⟩
theorem VInv.set {s : Mst} (h : VInv s) {k : Nat} {c : Cst} (hc : ∀ r, s.o.cores[k]? = some r → InvC s.o r c) : VInv (s.setCore k c) := by
  refine ⟨h.chk, by show (s.cores.set k c).length = _; rw [List.length_set]; exact h.len, h.mem, fun j x r hx hr => ?_⟩
  have hx : (s.cores.set k c)[j]? = some x := hx
  by_cases e : k = j
  · subst e
    have hlt : k < s.cores.length := by have := (List.getElem?_eq_some_iff.1 hx).1; rwa [List.length_set] at this
    rw [List.getElem?_set_self hlt] at hx
    obtain rfl := Option.some.inj hx
    exact hc r hr
  · rw [List.getElem?_set_ne e] at hx
    exact h.core j x r hx hr
theorem VInv.memory {s : Mst} (h : VInv s) (i : Nat) (w : Int) : VInv { s with mem := s.mem.set i w } := ⟨h.chk, h.len, by rw [List.length_set]; exact h.mem, h.core⟩
theorem VInv.printed {s : Mst} (h : VInv s) (l : List Prn) : VInv { s with prints := l } := ⟨h.chk, h.len, h.mem, h.core⟩
theorem VInv.cor {s : Mst} (h : VInv s) {k : Nat} {c : Cst} (hc : s.cores[k]? = some c) : ∃ r, s.o.cores[k]? = some r := by
  have := (List.getElem?_eq_some_iff.1 hc).1
  rw [h.len] at this
  exact ⟨_, List.getElem?_eq_getElem this⟩
theorem VInv.ins {s : Mst} (h : VInv s) {k : Nat} {c : Cst} {r : Cor} (hc : s.cores[k]? = some c) (hr : s.o.cores[k]? = some r) : ∃ i, insAt s k c = some i ∧ r.code[c.at_.toNat]? = some i ∧ RightI i r.code.length s.o.memory.length := by
  have hi := h.core k c r hc hr
  have hlt : c.at_.toNat < r.code.length := by have := hi.at0; have := hi.at1; omega
  refine ⟨_, ?_, List.getElem?_eq_getElem hlt, right_i ((check_good h.chk).right r (List.mem_of_getElem? hr) _ (List.getElem_mem hlt))⟩
  unfold insAt
  rw [hr]
  exact List.getElem?_eq_getElem hlt
/-- what comes next lies in the code -/
theorem next_in {r : Cor} {n : Nat} {i : Ins} (hi : r.code[n]? = some i) (hl : lastBad r = false) (h10 : i.kind ≠ 10) (h8 : i.kind ≠ 8) : n + 1 < r.code.length := by
  have hk := (List.getElem?_eq_some_iff.1 hi).1
  apply Decidable.byContradiction
  intro hc
  have e : n = r.code.length - 1 := by omega
  unfold lastBad at hl
  rw [← e, hi] at hl
  simp [h10, h8] at hl
theorem runS_inv {s : Mst} (h : VInv s) {k : Nat} {c : Cst} {r : Cor} {i : Ins} (hc : s.cores[k]? = some c) (hr : s.o.cores[k]? = some r) (hi : r.code[c.at_.toNat]? = some i) (hst : stallB s c i = false) : VInv (runS s k c i).1 := by
  have hI := h.core k c r hc hr
  have hg := check_good h.chk
  have hR := right_i (hg.right r (List.mem_of_getElem? hr) i (List.mem_of_getElem? hi))
  have hcode := hg.code r (List.mem_of_getElem? hr)
  have hl := good_last h.chk r (List.mem_of_getElem? hr)
  have h0 := hI.at0
  have h1 := hI.at1
  have nx : i.kind ≠ 10 → i.kind ≠ 8 → c.at_ + 1 < r.code.length := fun a b => by have := next_in hi hl a b; omega
  have one : ∀ {x : Cst}, (c.at_ + 1 < r.code.length) → x.at_ = c.at_ + 1 → x.regs.length = 16 → x.buf = c.buf → InvC s.o r x := fun a e1 e2 e3 => ⟨e2, by omega, by omega, by rw [e3]; exact hI.buf, by rw [e3]; exact hI.adr⟩
  have r16 : ∀ d w, ((c1 c).setReg d w).regs.length = 16 := fun d w => by show (c.regs.set d.toNat w).length = 16; rw [List.length_set]; exact hI.regs
  have un : ∀ {x : Cst}, InvC s.o r x → ∀ r', s.o.cores[k]? = some r' → InvC s.o r' x := fun hx r' hr' => by rw [hr] at hr'; cases hr'; exact hx
  have hk := hR.kind
  have hkc : i.kind = 1 ∨ i.kind = 2 ∨ i.kind = 3 ∨ i.kind = 4 ∨ i.kind = 5 ∨ i.kind = 6 ∨ i.kind = 7 ∨ i.kind = 8 ∨ i.kind = 9 ∨ i.kind = 10 := by omega
  unfold runS
  rcases hkc with e | e | e | e | e | e | e | e | e | e <;> rw [e]
  · exact h.set (un (one (nx (by omega) (by omega)) rfl (r16 _ _) rfl))
  · exact h.set (un (one (nx (by omega) (by omega)) rfl (r16 _ _) rfl))
  · exact h.set (un (one (nx (by omega) (by omega)) rfl (r16 _ _) rfl))
  · have hb : (c.buf.length : Int) < s.o.buffer := by
      unfold stallB at hst
      rw [e] at hst
      have := of_decide_eq_false hst
      omega
    have hA := hR.addr (.inr (.inl e))
    refine h.set (un ⟨hI.regs, (by show (0 : Int) ≤ c.at_ + 1; omega), nx (by omega) (by omega), ?_, fun x hx => ?_⟩)
    · show ((c.buf ++ [_]).length : Int) ≤ _
      rw [List.length_append]
      simp only [List.length_cons, List.length_nil]
      omega
    · have hx : x ∈ c.buf ++ [Sto.mk c.at_ i.addr (c.reg i.a)] := hx
      rw [List.mem_append, List.mem_singleton] at hx
      rcases hx with hx | rfl
      · exact hI.adr x hx
      · exact ⟨hA, h0, by show c.at_ < 16384; omega⟩
  · exact (h.set (un (one (nx (by omega) (by omega)) rfl (r16 _ _) rfl))).memory _ _
  · exact h.set (un (one (x := c1 c) (nx (by omega) (by omega)) rfl hI.regs rfl))
  · exact (h.set (un (one (x := c1 c) (nx (by omega) (by omega)) rfl hI.regs rfl))).printed _
  · have ht := hR.to_ (by omega)
    exact h.set (un ⟨hI.regs, ht.1, ht.2, hI.buf, hI.adr⟩)
  · have ht := hR.to_ (by omega)
    have hn := nx (by omega) (by omega)
    refine h.set (un ⟨hI.regs, ?_, ?_, hI.buf, hI.adr⟩)
    · show 0 ≤ bif c.reg i.a == 0 then i.to_ else c.at_ + 1
      cases c.reg i.a == 0
      · show 0 ≤ c.at_ + 1; omega
      · exact ht.1
    · show (bif c.reg i.a == 0 then i.to_ else c.at_ + 1) < _
      cases c.reg i.a == 0
      · exact hn
      · exact ht.2
  · exact h.set (un ⟨hI.regs, h0, h1, hI.buf, hI.adr⟩)
theorem drainC_inv {s : Mst} (h : VInv s) {k : Nat} {c : Cst} (hc : s.cores[k]? = some c) : VInv (drainC s k c).1 := by
  unfold drainC
  split
  · exact h
  · rename_i x l hb
    refine (h.set (fun r hr => ?_)).memory _ _
    have hI := h.core k c r hc hr
    refine ⟨hI.regs, hI.at0, hI.at1, ?_, fun y hy => hI.adr y (by rw [hb]; exact .tail _ hy)⟩
    have := hI.buf
    rw [hb] at this
    show (l.length : Int) ≤ _
    simp only [List.length_cons] at this
    omega
theorem stepS_inv {s : Mst} (h : VInv s) (kd k : Int) : VInv (stepS s kd k).1 := by
  unfold stepS
  split
  · exact h
  split
  · exact h
  split
  · exact h
  rename_i c hc
  split
  · unfold runC
    split
    · exact h
    obtain ⟨r, hr⟩ := h.cor hc
    obtain ⟨i, e, hi, _⟩ := h.ins hc hr
    rw [e]
    show VInv (if stallB s c i = true then _ else _ : Mst × Did × Int).1
    split
    · exact h
    · rename_i hs
      exact runS_inv h hc hr hi (by simpa using hs)
  · exact drainC_inv h hc
/-- at most one word is printed -/
theorem runS_prints (s : Mst) (k : Nat) (c : Cst) (i : Ins) : (runS s k c i).1.prints.length ≤ s.prints.length + 1 := by
  unfold runS
  split <;> first | exact Nat.le_succ _ | (show (s.prints ++ [_]).length ≤ _; simp)
theorem stepS_prints (s : Mst) (kd k : Int) : (stepS s kd k).1.prints.length ≤ s.prints.length + 1 := by
  unfold stepS runC drainC
  repeat' split
  all_goals first | exact Nat.le_succ _ | exact runS_prints ..
end Go.Proofs.YtcpolpbeimhgfaaGreatDoor.am

namespace Go.Proofs.YtcpolpbeimhgfaaGreatDoor.am
open Go Go.Proofs
/-- what a printing step leaves: the prints lie in a new block -/
abbrev Mst.prA (s : Mst) : List (Option Blk) := [some (maP s 4), some (csB s.cores), some (meB s.mem), none, some (prB s.prints)]
def StepC (s s' : Mst) (kd k : Int) (d : Did) (e : Int) : Prop :=
  K 55 [.ptr 0 0, .agg [.tr (tu kd), .tr (ti k)]] s.blks (.ret (.tup [d.av, .tr (ti e)])) (s'.blks.map some) ∨
  K 55 [.ptr 0 0, .agg [.tr (tu kd), .tr (ti k)]] s.blks (.ret (.tup [d.av, .tr (ti e)])) s'.prA
theorem has_out {s : Mst} {k : Int} (h : k < 0 ∨ (s.cores.length : Int) ≤ k) : hasE s k = 180 := by
  unfold hasE
  rcases h with h | h
  · rw [show decide (k < 0) = true from decide_eq_true h]; rfl
  · rw [show decide (k ≥ (s.cores.length : Int)) = true from decide_eq_true h, Bool.or_true]; rfl
theorem k_step (s : Mst) (h : VInv s) (hp : s.prints.length ≤ 1048576) (kd k : Int) : StepC s (stepS s kd k).1 kd k (stepS s kd k).2.1 (stepS s kd k).2.2 := by
  unfold stepS
  split
  · rename_i hk
    exact .inl (k_stepW s kd k hk.1 hk.2)
  rename_i hkd
  have hkd : kd = 1 ∨ kd = 2 := by omega
  split
  · rename_i hk
    have e := has_out hk
    rcases hkd with rfl | rfl
    · have := k_runE s k (by omega)
      rw [e] at this
      exact .inl (k_stepR s s k zeroD 180 this)
    · have := k_drainE s k (by omega)
      rw [e] at this
      exact .inl (k_stepD s s k zeroD 180 this)
  rename_i hk
  obtain ⟨n, rfl⟩ := Int.eq_ofNat_of_zero_le (a := k) (by omega)
  rw [Int.toNat_natCast]
  have hn : n < s.cores.length := by omega
  obtain ⟨c, hc⟩ : ∃ c, s.cores[n]? = some c := ⟨_, List.getElem?_eq_getElem hn⟩
  obtain ⟨r, hr⟩ := h.cor hc
  obtain ⟨i, e, hi, hR⟩ := h.ins hc hr
  have hI := h.core n c r hc hr
  have hg := check_good h.chk
  have hcode := hg.code r (List.mem_of_getElem? hr)
  have hbuf := hg.buffer
  have h16 := hI.regs
  have h0 := hI.at0
  have h1 := hI.at1
  have hb := hI.buf
  have hmem := h.mem
  have hb64 : c.buf.length ≤ 64 := by omega
  have h9 : c.at_ ≤ 16384 := by omega
  rw [hc]
  show StepC s (if kd = 1 then _ else _ : Mst × Did × Int).1 kd n (if kd = 1 then _ else _ : Mst × Did × Int).2.1 (if kd = 1 then _ else _ : Mst × Did × Int).2.2
  rcases hkd with rfl | rfl
  · rw [if_pos rfl]
    unfold runC
    split
    · rename_i hh
      exact .inl (k_stepR s s n zeroD 0 (k_runH s n i hc h16 hr h0 hi hh h9))
    rename_i hh
    have hh : c.halted = false := by simpa using hh
    rw [e]
    show StepC s (if stallB s c i = true then _ else _ : Mst × Did × Int).1 1 n (if stallB s c i = true then _ else _ : Mst × Did × Int).2.1 (if stallB s c i = true then _ else _ : Mst × Did × Int).2.2
    split
    · rename_i hs
      exact .inl (k_stepR s s n zeroD 181 (k_runS s n i hc h16 hr h0 hi hh hs h9))
    rename_i hs
    have hs : stallB s c i = false := by simpa using hs
    have hk := hR.kind
    have hkc : i.kind = 1 ∨ i.kind = 2 ∨ i.kind = 3 ∨ i.kind = 4 ∨ i.kind = 5 ∨ i.kind = 6 ∨ i.kind = 7 ∨ i.kind = 8 ∨ i.kind = 9 ∨ i.kind = 10 := by omega
    have hd := hR.d
    have ha := hR.a
    have hbb := hR.b
    have hA := hR.addr
    rcases hkc with q | q | q | q | q | q | q | q | q | q
    · have ht := k_run1 s n i hc h16 hr h0 hi hh hs hd.1 hd.2 q h9
      unfold runS; rw [q]
      exact .inl (k_stepR s _ n _ 0 ht)
    · have ht := k_run2 s n i hc h16 hr h0 hi hh hs hd.1 hd.2 ha.1 ha.2 hbb.1 hbb.2 (hR.op q) q h9
      unfold runS; rw [q]
      exact .inl (k_stepR s _ n _ 0 ht)
    · have hA := hA (.inl q)
      have ht := k_run3 s n i hc h16 hr h0 hi hh hs hd.1 hd.2 hA.1 (by omega) hb64 q h9
      unfold runS; rw [q]
      exact .inl (k_stepR s _ n _ 0 ht)
    · have ht := k_run4 s n i hc h16 hr h0 hi hh hs ha.1 ha.2 hb64 q h9
      unfold runS; rw [q]
      exact .inl (k_stepR s _ n _ 0 ht)
    · have hA := hA (.inr (.inr q))
      have ht := k_run5 s n i hc h16 hr h0 hi hh hs hd.1 hd.2 hA.1 (by omega) q h9
      unfold runS; rw [q]
      exact .inl (k_stepR s _ n _ 0 ht)
    · have ht := k_run6 s n i hc h16 hr h0 hi hh hs q h9
      unfold runS; rw [q]
      exact .inl (k_stepR s _ n _ 0 ht)
    · have ht := k_run7 s n i hc h16 hr h0 hi hh hs ha.1 ha.2 hp q h9
      unfold runS; rw [q]
      exact .inr (k_stepP s { s.setCore n (c1 c) with prints := s.prints ++ [Prn.mk n (c.reg i.a)] } n _ 0 ht)
    · have ht := k_run8 s n i hc h16 hr h0 hi hh hs q h9
      unfold runS; rw [q]
      exact .inl (k_stepR s _ n _ 0 ht)
    · have ht := k_run9 s n i hc h16 hr h0 hi hh hs ha.1 ha.2 q h9
      unfold runS; rw [q]
      exact .inl (k_stepR s _ n _ 0 ht)
    · have ht := k_run10 s n i hc h16 hr h0 hi hh hs q h9
      unfold runS; rw [q]
      exact .inl (k_stepR s _ n _ 0 ht)
  · rw [if_neg (by decide)]
    unfold drainC
    split
    · rename_i hb0
      exact .inl (k_stepD s s n zeroD 0 (k_drain0 s n hc h16 hb0))
    · rename_i x l hbx
      have hx := (hI.adr x (by rw [hbx]; exact .head _)).1
      have hl : l.length ≤ 64 := by rw [hbx] at hb64; simp only [List.length_cons] at hb64; omega
      exact .inl (k_stepD s _ n _ 0 (k_drain s n hc h16 hbx hl hx.1 (by omega)))
end Go.Proofs.YtcpolpbeimhgfaaGreatDoor.am

namespace Go.Proofs.YtcpolpbeimhgfaaGreatDoor.am
open Go Go.Proofs
theorem ctf {x : Bool} {p : Prop} (a : x = true) (b : x = false) : p := by rw [a] at b; cases b
def addrK (k : Int) : Bool := k == 2 || (k == 3 || (k == 4 || k == 8))
def outD (d : Did) : Bool := d.kind == 0 || (decide (d.kind ≥ 9) || (decide (d.core < 0) || (decide (d.core ≥ 8) || (decide (d.at_ < 0) || (decide (d.at_ ≥ 16384) || (decide (d.addr < 0) || decide (d.addr ≥ 4096)))))))
def usdD (d : Did) : Bool := (addrK d.kind || d.addr == 0) && ((addrK d.kind || (d.kind == 6 || d.word == 0)) && ((d.kind == 4 || d.put == 0) && (d.kind == 2 || !d.own)))
def rightD (d : Did) : Bool := bif outD d then false else usdD d
abbrev didA (dk dc da dd dw dp : Int) (dn : Bool) : AV := .agg [.tr (tu dk), .tr (ti dc), .tr (ti da), .tr (ti dd), .tr (ti dw), .tr (ti dp), .tr (tb dn)]
end Go.Proofs.YtcpolpbeimhgfaaGreatDoor.am

namespace Go.Proofs.YtcpolpbeimhgfaaGreatDoor.am
open Go Go.Proofs
abbrev alwA (k : Int) : AV := .fn 67 [.ept [tu k]]
abbrev onA (k : Int) : AV := .fn 68 [.ept [tu k]]
def onE (k w : Int) : Int := bif w == 1 then k else 0
theorem t_always (k : Int) : K 49 [.tr (tu k)] [] (.ret (alwA k)) [] := by
  refine Ctr.of hT hmix Tryz.func49 rfl (fun _ _ => by kernel_rfl) rfl fun hok => ?_
  clear hok
  conv => whnf
  exact ⟨⟨rfl, ⟨rfl, rfl⟩, trivial⟩, trivial⟩
theorem t_on (k : Int) : K 50 [.tr (tu k)] [] (.ret (onA k)) [] := by
  refine Ctr.of hT hmix Tryz.func50 rfl (fun _ _ => by kernel_rfl) rfl fun hok => ?_
  clear hok
  conv => whnf
  exact ⟨⟨rfl, ⟨rfl, rfl⟩, trivial⟩, trivial⟩
theorem k_always1 (k w dk dc da dd dw dp : Int) (dn : Bool) : K 67 [.tr (ti w), didA dk dc da dd dw dp dn, .ept [tu k]] [] (.ret (.tr (tu k))) [] := by
  refine Ctr.of hT hmix Tryz.func67 rfl (fun _ _ => by kernel_rfl) rfl fun hok => ?_
  clear hok
  conv => whnf
  exact ⟨.inl rfl, trivial⟩
theorem k_on1 (k w dk dc da dd dw dp : Int) (dn : Bool) : K 68 [.tr (ti w), didA dk dc da dd dw dp dn, .ept [tu k]] [] (.ret (.tr (tu (onE k w)))) [] := by
  refine Ctr.of hT hmix Tryz.func68 rfl (fun _ _ => by kernel_rfl) rfl fun hok => ?_
  clear hok
  unfold onE
  conv => whnf
  refine csplit (fun h => ?_) (fun h => ?_)
  · rw [h]
    conv => whnf
    exact ⟨.inl rfl, trivial⟩
  · rw [h]
    conv => whnf
    exact ⟨.inl rfl, trivial⟩
def drE (w dw : Int) : Int := bif w == 2 && dw == 0 then 5 else onE 2 w
def swE (w dw dp : Int) : Int := bif w == 2 && (dw == 0 && dp != 0) then 4 else onE 3 w
theorem k_drained (w dk dc da dd dw dp : Int) (dn : Bool) : K 52 [.tr (ti w), didA dk dc da dd dw dp dn] [] (.ret (.tr (tu (drE w dw)))) [] := by
  have h1 := t_on 2
  have h2 := k_on1 2 w dk dc da dd dw dp dn
  refine Ctr.of hT hmix Tryz.func52 rfl (fun _ _ => by kernel_rfl) rfl fun hok => ?_
  clear hok
  generalize hR : drE w dw = R
  unfold drE at hR
  generalize onE 2 w = E at h2 hR
  conv => whnf
  (repeat' (refine csplit (fun g => ?_) (fun g => ?_) <;> first | exact ctf g (by assumption) | exact ctf (by assumption) g | conv => whnf))
  all_goals first
    | (refine ⟨.inl (congrArg tu ?_), trivial⟩; rw [← hR]; clear hR; simp only [*, Bool.false_and, Bool.true_and, Bool.and_false, Bool.and_true, cond_true, cond_false] <;> done)
    | (refine acall.pure _ h1 rfl rfl ?_; conv => whnf
       refine acall.au [] [] h2 ?_; conv => whnf
       refine ⟨by kernel_rfl, fun _ => ?_⟩
       conv => whnf
       refine ⟨.inl (congrArg tu ?_), trivial⟩; rw [← hR]; clear hR; simp only [*, Bool.false_and, Bool.true_and, Bool.and_false, Bool.and_true, cond_true, cond_false] <;> done)
theorem k_swapped (w dk dc da dd dw dp : Int) (dn : Bool) : K 51 [.tr (ti w), didA dk dc da dd dw dp dn] [] (.ret (.tr (tu (swE w dw dp)))) [] := by
  have h1 := t_on 3
  have h2 := k_on1 3 w dk dc da dd dw dp dn
  refine Ctr.of hT hmix Tryz.func51 rfl (fun _ _ => by kernel_rfl) rfl fun hok => ?_
  clear hok
  generalize hR : swE w dw dp = R
  unfold swE at hR
  generalize onE 3 w = E at h2 hR
  conv => whnf
  (repeat' (refine csplit (fun g => ?_) (fun g => ?_) <;> first | exact ctf g (by assumption) | exact ctf (by assumption) g | conv => whnf))
  all_goals first
    | (refine ⟨.inl (congrArg tu ?_), trivial⟩; rw [← hR]; clear hR; simp only [*, Bool.false_and, Bool.true_and, Bool.and_false, Bool.and_true, cond_true, cond_false] <;> done)
    | (refine acall.pure _ h1 rfl rfl ?_; conv => whnf
       refine acall.au [] [] h2 ?_; conv => whnf
       refine ⟨by kernel_rfl, fun _ => ?_⟩
       conv => whnf
       refine ⟨.inl (congrArg tu ?_), trivial⟩; rw [← hR]; clear hR; simp only [*, Bool.false_and, Bool.true_and, Bool.and_false, Bool.and_true, cond_true, cond_false] <;> done)
abbrev fmR0 : List AV := [.tr (ts ⟨#[]⟩), .tr (tb false), .tr (tb false), .tr (tb false), .tr (tb false), .tr (.v .nilFunc)]
abbrev fmR1 : List AV := [.tr (ts ⟨#[99, 111, 109, 112, 117, 116, 101]⟩), .tr (tb false), .tr (tb false), .tr (tb false), .tr (tb false), alwA 0]
abbrev fmR2 : List AV := [.tr (ts ⟨#[108, 111, 97, 100]⟩), .tr (tb true), .tr (tb true), .tr (tb false), .tr (tb true), onA 1]
abbrev fmR3 : List AV := [.tr (ts ⟨#[115, 116, 111, 114, 101]⟩), .tr (tb true), .tr (tb true), .tr (tb false), .tr (tb false), alwA 0]
abbrev fmR4 : List AV := [.tr (ts ⟨#[115, 119, 97, 112]⟩), .tr (tb true), .tr (tb true), .tr (tb true), .tr (tb false), .fn 51 []]
abbrev fmR5 : List AV := [.tr (ts ⟨#[102, 101, 110, 99, 101]⟩), .tr (tb false), .tr (tb false), .tr (tb false), .tr (tb false), alwA 0]
abbrev fmR6 : List AV := [.tr (ts ⟨#[112, 114, 105, 110, 116]⟩), .tr (tb false), .tr (tb true), .tr (tb false), .tr (tb false), alwA 6]
abbrev fmR7 : List AV := [.tr (ts ⟨#[104, 97, 108, 116]⟩), .tr (tb false), .tr (tb false), .tr (tb false), .tr (tb false), alwA 7]
abbrev fmR8 : List AV := [.tr (ts ⟨#[100, 114, 97, 105, 110]⟩), .tr (tb true), .tr (tb true), .tr (tb false), .tr (tb false), .fn 52 []]
def fmRs : List (List AV) := [fmR0, fmR1, fmR2, fmR3, fmR4, fmR5, fmR6, fmR7, fmR8]
def formA (k : Int) : AV := .agg (fmRs.getD k.toNat fmR0)
abbrev formsA : AV := .agg [.tr (ts ⟨#[]⟩), .tr (tb false), .tr (tb false), .tr (tb false), .tr (tb false), .tr (.v .nilFunc), .tr (ts ⟨#[99, 111, 109, 112, 117, 116, 101]⟩), .tr (tb false), .tr (tb false), .tr (tb false), .tr (tb false), alwA 0, .tr (ts ⟨#[108, 111, 97, 100]⟩), .tr (tb true), .tr (tb true), .tr (tb false), .tr (tb true), onA 1, .tr (ts ⟨#[115, 116, 111, 114, 101]⟩), .tr (tb true), .tr (tb true), .tr (tb false), .tr (tb false), alwA 0, .tr (ts ⟨#[115, 119, 97, 112]⟩), .tr (tb true), .tr (tb true), .tr (tb true), .tr (tb false), .fn 51 [], .tr (ts ⟨#[102, 101, 110, 99, 101]⟩), .tr (tb false), .tr (tb false), .tr (tb false), .tr (tb false), alwA 0, .tr (ts ⟨#[112, 114, 105, 110, 116]⟩), .tr (tb false), .tr (tb true), .tr (tb false), .tr (tb false), alwA 6, .tr (ts ⟨#[104, 97, 108, 116]⟩), .tr (tb false), .tr (tb false), .tr (tb false), .tr (tb false), alwA 7, .tr (ts ⟨#[100, 114, 97, 105, 110]⟩), .tr (tb true), .tr (tb true), .tr (tb false), .tr (tb false), .fn 52 []]
set_option maxRecDepth 100000 in
theorem t_forms : K 36 [] [] (.ret formsA) [] := by
  refine Ctr.of hT hmix Tryz.func36 rfl (fun _ _ => by kernel_rfl) rfl fun hok => ?_
  clear hok
  conv => whnf
  refine acall.pure _ (t_always 0) rfl rfl fun _ => ?_
  conv => whnf
  refine acall.pure _ (t_on 1) rfl rfl fun _ => ?_
  conv => whnf
  refine acall.pure _ (t_always 6) rfl rfl fun _ => ?_
  conv => whnf
  refine acall.pure _ (t_always 7) rfl rfl fun _ => ?_
  conv => whnf
  exact ⟨aut, trivial⟩
end Go.Proofs.YtcpolpbeimhgfaaGreatDoor.am

namespace Go.Proofs.YtcpolpbeimhgfaaGreatDoor.am
open Go Go.Proofs
def okD (d : Did) : Bool := decide (d.core ≥ 0) && (decide (d.core < 8) && (decide (d.at_ ≥ 0) && (decide (d.at_ < 16384) && (decide (d.addr ≥ 0) && decide (d.addr < 4096)))))
def frm (a w p o : Bool) (d : Did) : Bool := okD d && ((a || d.addr == 0) && ((w || d.word == 0) && ((p || d.put == 0) && (o || !d.own))))
theorem dec_ge {a b : Int} : decide (a ≥ b) = !decide (a < b) := by
  rw [← decide_not]
  exact decide_eq_decide.2 ⟨fun h => by omega, fun h => by omega⟩
theorem dec_lt {a b : Int} : decide (a < b) = !decide (a ≥ b) := by rw [dec_ge, Bool.not_not]
theorem outD_ok (d : Did) : outD d = (d.kind == 0 || (decide (d.kind ≥ 9) || !okD d)) := by
  unfold outD okD
  rw [dec_ge (a := d.core) (b := 0), dec_lt (a := d.core) (b := 8), dec_ge (a := d.at_) (b := 0), dec_lt (a := d.at_) (b := 16384), dec_ge (a := d.addr) (b := 0), dec_lt (a := d.addr) (b := 4096)]
  simp only [Bool.not_and, Bool.not_not]
theorem right_1 (dc da dd dw dp : Int) (dn : Bool) : rightD ⟨1, dc, da, dd, dw, dp, dn⟩ = frm false false false false ⟨1, dc, da, dd, dw, dp, dn⟩ := by
  unfold rightD frm
  rw [outD_ok]
  generalize okD _ = x
  cases x
  · rfl
  · rfl
set_option maxRecDepth 100000 in
set_option maxHeartbeats 1000000 in
theorem t_formOf1 (dc da dd dw dp : Int) (dn : Bool) : K 24 [didA 1 dc da dd dw dp dn] [] (.ret (.tup [formA 1, .tr (tb (rightD ⟨1, dc, da, dd, dw, dp, dn⟩))])) [] := by
  rw [right_1]
  refine Ctr.of hT hmix Tryz.func24 rfl (fun _ _ => by kernel_rfl) rfl fun hok => ?_
  clear hok
  generalize hR : frm false false false false ⟨1, dc, da, dd, dw, dp, dn⟩ = R
  simp only [frm, okD] at hR
  conv => whnf
  refine acall.pure _ (t_forms) rfl rfl ?_
  conv => whnf
  refine ⟨by decide, by decide, by decide, ?_⟩
  conv => whnf
  refine ⟨by kernel_rfl, fun _ => ?_⟩
  conv => whnf
  (repeat' (refine csplit (fun g => ?_) (fun g => ?_) <;> first | exact ctf g (by assumption) | exact ctf (by assumption) g | conv => whnf))
  all_goals (
    refine ⟨by kernel_rfl, fun _ => ?_⟩
    conv => whnf
    refine ⟨⟨aut, .inl (congrArg tb ?_), trivial⟩, trivial⟩; rw [← hR]; clear hR; simp only [*, Bool.true_or, Bool.or_true, Bool.false_or, Bool.or_false, Bool.not_true, Bool.not_false, Bool.false_and, Bool.true_and, Bool.and_false, Bool.and_true, cond_true, cond_false])
theorem right_2 (dc da dd dw dp : Int) (dn : Bool) : rightD ⟨2, dc, da, dd, dw, dp, dn⟩ = frm true true false true ⟨2, dc, da, dd, dw, dp, dn⟩ := by
  unfold rightD frm
  rw [outD_ok]
  generalize okD _ = x
  cases x
  · rfl
  · rfl
set_option maxRecDepth 100000 in
set_option maxHeartbeats 1000000 in
theorem t_formOf2 (dc da dd dw dp : Int) (dn : Bool) : K 24 [didA 2 dc da dd dw dp dn] [] (.ret (.tup [formA 2, .tr (tb (rightD ⟨2, dc, da, dd, dw, dp, dn⟩))])) [] := by
  rw [right_2]
  refine Ctr.of hT hmix Tryz.func24 rfl (fun _ _ => by kernel_rfl) rfl fun hok => ?_
  clear hok
  generalize hR : frm true true false true ⟨2, dc, da, dd, dw, dp, dn⟩ = R
  simp only [frm, okD] at hR
  conv => whnf
  refine acall.pure _ (t_forms) rfl rfl ?_
  conv => whnf
  refine ⟨by decide, by decide, by decide, ?_⟩
  conv => whnf
  refine ⟨by kernel_rfl, fun _ => ?_⟩
  conv => whnf
  (repeat' (refine csplit (fun g => ?_) (fun g => ?_) <;> first | exact ctf g (by assumption) | exact ctf (by assumption) g | conv => whnf))
  all_goals (
    refine ⟨by kernel_rfl, fun _ => ?_⟩
    conv => whnf
    refine ⟨⟨aut, .inl (congrArg tb ?_), trivial⟩, trivial⟩; rw [← hR]; clear hR; simp only [*, Bool.true_or, Bool.or_true, Bool.false_or, Bool.or_false, Bool.not_true, Bool.not_false, Bool.false_and, Bool.true_and, Bool.and_false, Bool.and_true, cond_true, cond_false])
theorem right_3 (dc da dd dw dp : Int) (dn : Bool) : rightD ⟨3, dc, da, dd, dw, dp, dn⟩ = frm true true false false ⟨3, dc, da, dd, dw, dp, dn⟩ := by
  unfold rightD frm
  rw [outD_ok]
  generalize okD _ = x
  cases x
  · rfl
  · rfl
set_option maxRecDepth 100000 in
set_option maxHeartbeats 1000000 in
theorem t_formOf3 (dc da dd dw dp : Int) (dn : Bool) : K 24 [didA 3 dc da dd dw dp dn] [] (.ret (.tup [formA 3, .tr (tb (rightD ⟨3, dc, da, dd, dw, dp, dn⟩))])) [] := by
  rw [right_3]
  refine Ctr.of hT hmix Tryz.func24 rfl (fun _ _ => by kernel_rfl) rfl fun hok => ?_
  clear hok
  generalize hR : frm true true false false ⟨3, dc, da, dd, dw, dp, dn⟩ = R
  simp only [frm, okD] at hR
  conv => whnf
  refine acall.pure _ (t_forms) rfl rfl ?_
  conv => whnf
  refine ⟨by decide, by decide, by decide, ?_⟩
  conv => whnf
  refine ⟨by kernel_rfl, fun _ => ?_⟩
  conv => whnf
  (repeat' (refine csplit (fun g => ?_) (fun g => ?_) <;> first | exact ctf g (by assumption) | exact ctf (by assumption) g | conv => whnf))
  all_goals (
    refine ⟨by kernel_rfl, fun _ => ?_⟩
    conv => whnf
    refine ⟨⟨aut, .inl (congrArg tb ?_), trivial⟩, trivial⟩; rw [← hR]; clear hR; simp only [*, Bool.true_or, Bool.or_true, Bool.false_or, Bool.or_false, Bool.not_true, Bool.not_false, Bool.false_and, Bool.true_and, Bool.and_false, Bool.and_true, cond_true, cond_false])
theorem right_4 (dc da dd dw dp : Int) (dn : Bool) : rightD ⟨4, dc, da, dd, dw, dp, dn⟩ = frm true true true false ⟨4, dc, da, dd, dw, dp, dn⟩ := by
  unfold rightD frm
  rw [outD_ok]
  generalize okD _ = x
  cases x
  · rfl
  · rfl
set_option maxRecDepth 100000 in
set_option maxHeartbeats 1000000 in
theorem t_formOf4 (dc da dd dw dp : Int) (dn : Bool) : K 24 [didA 4 dc da dd dw dp dn] [] (.ret (.tup [formA 4, .tr (tb (rightD ⟨4, dc, da, dd, dw, dp, dn⟩))])) [] := by
  rw [right_4]
  refine Ctr.of hT hmix Tryz.func24 rfl (fun _ _ => by kernel_rfl) rfl fun hok => ?_
  clear hok
  generalize hR : frm true true true false ⟨4, dc, da, dd, dw, dp, dn⟩ = R
  simp only [frm, okD] at hR
  conv => whnf
  refine acall.pure _ (t_forms) rfl rfl ?_
  conv => whnf
  refine ⟨by decide, by decide, by decide, ?_⟩
  conv => whnf
  refine ⟨by kernel_rfl, fun _ => ?_⟩
  conv => whnf
  (repeat' (refine csplit (fun g => ?_) (fun g => ?_) <;> first | exact ctf g (by assumption) | exact ctf (by assumption) g | conv => whnf))
  all_goals (
    refine ⟨by kernel_rfl, fun _ => ?_⟩
    conv => whnf
    refine ⟨⟨aut, .inl (congrArg tb ?_), trivial⟩, trivial⟩; rw [← hR]; clear hR; simp only [*, Bool.true_or, Bool.or_true, Bool.false_or, Bool.or_false, Bool.not_true, Bool.not_false, Bool.false_and, Bool.true_and, Bool.and_false, Bool.and_true, cond_true, cond_false])
theorem right_5 (dc da dd dw dp : Int) (dn : Bool) : rightD ⟨5, dc, da, dd, dw, dp, dn⟩ = frm false false false false ⟨5, dc, da, dd, dw, dp, dn⟩ := by
  unfold rightD frm
  rw [outD_ok]
  generalize okD _ = x
  cases x
  · rfl
  · rfl
set_option maxRecDepth 100000 in
set_option maxHeartbeats 1000000 in
theorem t_formOf5 (dc da dd dw dp : Int) (dn : Bool) : K 24 [didA 5 dc da dd dw dp dn] [] (.ret (.tup [formA 5, .tr (tb (rightD ⟨5, dc, da, dd, dw, dp, dn⟩))])) [] := by
  rw [right_5]
  refine Ctr.of hT hmix Tryz.func24 rfl (fun _ _ => by kernel_rfl) rfl fun hok => ?_
  clear hok
  generalize hR : frm false false false false ⟨5, dc, da, dd, dw, dp, dn⟩ = R
  simp only [frm, okD] at hR
  conv => whnf
  refine acall.pure _ (t_forms) rfl rfl ?_
  conv => whnf
  refine ⟨by decide, by decide, by decide, ?_⟩
  conv => whnf
  refine ⟨by kernel_rfl, fun _ => ?_⟩
  conv => whnf
  (repeat' (refine csplit (fun g => ?_) (fun g => ?_) <;> first | exact ctf g (by assumption) | exact ctf (by assumption) g | conv => whnf))
  all_goals (
    refine ⟨by kernel_rfl, fun _ => ?_⟩
    conv => whnf
    refine ⟨⟨aut, .inl (congrArg tb ?_), trivial⟩, trivial⟩; rw [← hR]; clear hR; simp only [*, Bool.true_or, Bool.or_true, Bool.false_or, Bool.or_false, Bool.not_true, Bool.not_false, Bool.false_and, Bool.true_and, Bool.and_false, Bool.and_true, cond_true, cond_false])
theorem right_6 (dc da dd dw dp : Int) (dn : Bool) : rightD ⟨6, dc, da, dd, dw, dp, dn⟩ = frm false true false false ⟨6, dc, da, dd, dw, dp, dn⟩ := by
  unfold rightD frm
  rw [outD_ok]
  generalize okD _ = x
  cases x
  · rfl
  · rfl
set_option maxRecDepth 100000 in
set_option maxHeartbeats 1000000 in
theorem t_formOf6 (dc da dd dw dp : Int) (dn : Bool) : K 24 [didA 6 dc da dd dw dp dn] [] (.ret (.tup [formA 6, .tr (tb (rightD ⟨6, dc, da, dd, dw, dp, dn⟩))])) [] := by
  rw [right_6]
  refine Ctr.of hT hmix Tryz.func24 rfl (fun _ _ => by kernel_rfl) rfl fun hok => ?_
  clear hok
  generalize hR : frm false true false false ⟨6, dc, da, dd, dw, dp, dn⟩ = R
  simp only [frm, okD] at hR
  conv => whnf
  refine acall.pure _ (t_forms) rfl rfl ?_
  conv => whnf
  refine ⟨by decide, by decide, by decide, ?_⟩
  conv => whnf
  refine ⟨by kernel_rfl, fun _ => ?_⟩
  conv => whnf
  (repeat' (refine csplit (fun g => ?_) (fun g => ?_) <;> first | exact ctf g (by assumption) | exact ctf (by assumption) g | conv => whnf))
  all_goals (
    refine ⟨by kernel_rfl, fun _ => ?_⟩
    conv => whnf
    refine ⟨⟨aut, .inl (congrArg tb ?_), trivial⟩, trivial⟩; rw [← hR]; clear hR; simp only [*, Bool.true_or, Bool.or_true, Bool.false_or, Bool.or_false, Bool.not_true, Bool.not_false, Bool.false_and, Bool.true_and, Bool.and_false, Bool.and_true, cond_true, cond_false])
theorem right_7 (dc da dd dw dp : Int) (dn : Bool) : rightD ⟨7, dc, da, dd, dw, dp, dn⟩ = frm false false false false ⟨7, dc, da, dd, dw, dp, dn⟩ := by
  unfold rightD frm
  rw [outD_ok]
  generalize okD _ = x
  cases x
  · rfl
  · rfl
set_option maxRecDepth 100000 in
set_option maxHeartbeats 1000000 in
theorem t_formOf7 (dc da dd dw dp : Int) (dn : Bool) : K 24 [didA 7 dc da dd dw dp dn] [] (.ret (.tup [formA 7, .tr (tb (rightD ⟨7, dc, da, dd, dw, dp, dn⟩))])) [] := by
  rw [right_7]
  refine Ctr.of hT hmix Tryz.func24 rfl (fun _ _ => by kernel_rfl) rfl fun hok => ?_
  clear hok
  generalize hR : frm false false false false ⟨7, dc, da, dd, dw, dp, dn⟩ = R
  simp only [frm, okD] at hR
  conv => whnf
  refine acall.pure _ (t_forms) rfl rfl ?_
  conv => whnf
  refine ⟨by decide, by decide, by decide, ?_⟩
  conv => whnf
  refine ⟨by kernel_rfl, fun _ => ?_⟩
  conv => whnf
  (repeat' (refine csplit (fun g => ?_) (fun g => ?_) <;> first | exact ctf g (by assumption) | exact ctf (by assumption) g | conv => whnf))
  all_goals (
    refine ⟨by kernel_rfl, fun _ => ?_⟩
    conv => whnf
    refine ⟨⟨aut, .inl (congrArg tb ?_), trivial⟩, trivial⟩; rw [← hR]; clear hR; simp only [*, Bool.true_or, Bool.or_true, Bool.false_or, Bool.or_false, Bool.not_true, Bool.not_false, Bool.false_and, Bool.true_and, Bool.and_false, Bool.and_true, cond_true, cond_false])
theorem right_8 (dc da dd dw dp : Int) (dn : Bool) : rightD ⟨8, dc, da, dd, dw, dp, dn⟩ = frm true true false false ⟨8, dc, da, dd, dw, dp, dn⟩ := by
  unfold rightD frm
  rw [outD_ok]
  generalize okD _ = x
  cases x
  · rfl
  · rfl
set_option maxRecDepth 100000 in
set_option maxHeartbeats 1000000 in
theorem t_formOf8 (dc da dd dw dp : Int) (dn : Bool) : K 24 [didA 8 dc da dd dw dp dn] [] (.ret (.tup [formA 8, .tr (tb (rightD ⟨8, dc, da, dd, dw, dp, dn⟩))])) [] := by
  rw [right_8]
  refine Ctr.of hT hmix Tryz.func24 rfl (fun _ _ => by kernel_rfl) rfl fun hok => ?_
  clear hok
  generalize hR : frm true true false false ⟨8, dc, da, dd, dw, dp, dn⟩ = R
  simp only [frm, okD] at hR
  conv => whnf
  refine acall.pure _ (t_forms) rfl rfl ?_
  conv => whnf
  refine ⟨by decide, by decide, by decide, ?_⟩
  conv => whnf
  refine ⟨by kernel_rfl, fun _ => ?_⟩
  conv => whnf
  (repeat' (refine csplit (fun g => ?_) (fun g => ?_) <;> first | exact ctf g (by assumption) | exact ctf (by assumption) g | conv => whnf))
  all_goals (
    refine ⟨by kernel_rfl, fun _ => ?_⟩
    conv => whnf
    refine ⟨⟨aut, .inl (congrArg tb ?_), trivial⟩, trivial⟩; rw [← hR]; clear hR; simp only [*, Bool.true_or, Bool.or_true, Bool.false_or, Bool.or_false, Bool.not_true, Bool.not_false, Bool.false_and, Bool.true_and, Bool.and_false, Bool.and_true, cond_true, cond_false])
theorem t_formOfN (dk dc da dd dw dp : Int) (dn : Bool) (h : dk ≤ 0 ∨ dk ≥ 9) : K 24 [didA dk dc da dd dw dp dn] [] (.ret (.tup [formA 0, .tr (tb false)])) [] := by
  refine Ctr.of hT hmix Tryz.func24 rfl (fun _ _ => by kernel_rfl) rfl fun hok => ?_
  clear hok
  conv => whnf
  (repeat' (refine csplit (fun g => ?_) (fun g => ?_) <;> first | exact ctf g (by assumption) | exact ctf (by assumption) g | conv => whnf))
  all_goals first
    | exact ⟨⟨aut, .inl rfl, trivial⟩, trivial⟩
    | (exfalso; rename_i h1; have q1 := of_decide_eq_false h1; have q2 := of_decide_eq_false g; (try simp only at q1 q2); omega)
theorem formA_out {k : Int} (h : k ≤ 0 ∨ k ≥ 9) : formA k = formA 0 := by
  unfold formA
  rcases h with h | h
  · rw [show k.toNat = 0 by omega]; rfl
  · rw [List.getD_eq_getElem?_getD, List.getElem?_eq_none (by show 9 ≤ k.toNat; omega)]; rfl
theorem t_formOf (d : Did) : K 24 [d.av] [] (.ret (.tup [formA d.kind, .tr (tb (rightD d))])) [] := by
  obtain ⟨dk, dc, da, dd, dw, dp, dn⟩ := d
  refine Ctr.okd (fun _ _ => by kernel_rfl) fun hok => ?_
  have h0 := ((hok _ (List.mem_cons_self ..)).agg _ (List.mem_cons_self ..)).tr.u8.1
  replace h0 : 0 ≤ dk := h0
  by_cases h : 1 ≤ dk ∧ dk ≤ 8
  · have hc : dk = 1 ∨ dk = 2 ∨ dk = 3 ∨ dk = 4 ∨ dk = 5 ∨ dk = 6 ∨ dk = 7 ∨ dk = 8 := by omega
    rcases hc with rfl | rfl | rfl | rfl | rfl | rfl | rfl | rfl
    · exact t_formOf1 dc da dd dw dp dn
    · exact t_formOf2 dc da dd dw dp dn
    · exact t_formOf3 dc da dd dw dp dn
    · exact t_formOf4 dc da dd dw dp dn
    · exact t_formOf5 dc da dd dw dp dn
    · exact t_formOf6 dc da dd dw dp dn
    · exact t_formOf7 dc da dd dw dp dn
    · exact t_formOf8 dc da dd dw dp dn
  · have hn : dk ≤ 0 ∨ dk ≥ 9 := by omega
    have hr : rightD ⟨dk, dc, da, dd, dw, dp, dn⟩ = false := by
      unfold rightD
      rw [outD_ok]
      rcases hn with hn | hn
      · rw [show ((dk == 0) : Bool) = true by simp; omega]; rfl
      · rw [show decide (dk ≥ 9) = true from decide_eq_true hn, Bool.true_or, Bool.or_true]; rfl
    rw [hr, show formA dk = formA 0 from formA_out hn]
    exact t_formOfN dk dc da dd dw dp dn hn
theorem formA_lit (k : Int) : formA k = formA 0 ∨ formA k = formA 1 ∨ formA k = formA 2 ∨ formA k = formA 3 ∨ formA k = formA 4 ∨ formA k = formA 5 ∨ formA k = formA 6 ∨ formA k = formA 7 ∨ formA k = formA 8 := by
  by_cases h : 1 ≤ k ∧ k ≤ 8
  · have hc : k = 1 ∨ k = 2 ∨ k = 3 ∨ k = 4 ∨ k = 5 ∨ k = 6 ∨ k = 7 ∨ k = 8 := by omega
    rcases hc with rfl | rfl | rfl | rfl | rfl | rfl | rfl | rfl <;> simp
  · exact .inl (formA_out (by omega))
abbrev didsT (l : List Did) : Tr := .lst 7 56 (l.map Did.cells)
theorem did_get {l : List Did} {i : Nat} {row : List Tr} (h : (l.map Did.cells)[i]? = some row) : ∃ d, l[i]? = some d ∧ row = d.cells := by
  rw [List.getElem?_map, Option.map_eq_some_iff] at h
  obtain ⟨d, h1, rfl⟩ := h
  exact ⟨d, h1, rfl⟩
theorem all_drop {α : Type} {p : α → Bool} {l : List α} {i : Nat} {d : α} (h : l[i]? = some d) : (l.drop i).all p = (p d && (l.drop (i + 1)).all p) := by
  have hlt := (List.getElem?_eq_some_iff.1 h).1
  rw [List.drop_eq_getElem_cons hlt, List.all_cons, (List.getElem?_eq_some_iff.1 h).2]
set_option maxRecDepth 100000 in
theorem t_right (l : List Did) : K 11 [.tr (didsT l)] [] (.ret (.tr (tb (l.all rightD)))) [] := by
  refine Ctr.of hT hmix Tryz.func11 rfl (fun _ _ => by kernel_rfl) rfl fun hok => ?_
  have hl : l.length ≤ 9223372036854775807 := by have := (hok.slot 0 rfl).tr.lst.2.1; rwa [List.length_map] at this
  clear hok
  have hlm : (l.map Did.cells).length = l.length := List.length_map ..
  conv => whnf
  refine LoopL.by (fun i : Nat => ⟨[(7, .tr (didsT l)), (8, .tr (ti (l.length : Int))), (9, .tr (ti i))], [], 10⟩) (fun i => i ≤ l.length ∧ l.all rightD = (l.drop i).all rightD) (fun i => l.length - i) 0 [] [] (Sub.mk' rfl ⟨.inl rfl, .inl (by rw [← hlm]), .inl rfl, trivial⟩ trivial rfl rfl) ⟨Nat.zero_le _, rfl⟩ ?_
  rintro i ⟨hi, hall⟩ -
  conv => whnf
  refine csplit (fun hlt => ?_) (fun hge => ?_)
  · have hlt : i < l.length := by have := of_decide_eq_true hlt; omega
    obtain ⟨d, hd⟩ : ∃ d, l[i]? = some d := ⟨l[i], by simp [hlt]⟩
    rw [all_drop hd] at hall
    conv => whnf
    refine ⟨rfl, (show (0 : Int) ≤ i by omega), (show (i : Int) < (l.map Did.cells).length by rw [hlm]; omega), fun row hr => ?_⟩
    obtain ⟨d', hd', rfl⟩ := did_get hr
    obtain rfl : d = d' := Option.some.inj (hd.symm.trans hd')
    clear hr hd'
    have hct := t_formOf d
    generalize rightD d = B at hct hall
    generalize hF : formA d.kind = F at hct
    have hc := formA_lit d.kind
    rw [hF] at hc
    clear hF
    obtain ⟨dk, dc, da, dd, dw, dp, dn⟩ := d
    rcases hc with rfl | rfl | rfl | rfl | rfl | rfl | rfl | rfl | rfl
    all_goals (
      conv => whnf
      refine acall.au [] [] hct ?_
      conv => whnf
      first | intro _ | skip
      conv => whnf
      cases B
      · conv => whnf
        exact ⟨.inl (congrArg tb hall.symm), trivial⟩
      · conv => whnf
        exact ⟨i + 1, [], [], Sub.mk' rfl ⟨.inl rfl, .inl rfl, .inl (ti_succ hlt hl), trivial⟩ trivial rfl rfl, ⟨hlt, hall⟩, by omega⟩)
  · have hge : i = l.length := by have := of_decide_eq_false hge; omega
    subst hge
    conv => whnf
    refine ⟨fun _ => ?_, fun h => absurd rfl h⟩
    conv => whnf
    refine ⟨.inl (congrArg tb ?_), trivial⟩
    rw [hall, List.drop_length]
    rfl
end Go.Proofs.YtcpolpbeimhgfaaGreatDoor.am

namespace Go.Proofs.YtcpolpbeimhgfaaGreatDoor.am
open Go Go.Proofs
structure Stp where
  kind : Int
  core : Int
def Stp.cells (x : Stp) : List Tr := [tu x.kind, ti x.core]
abbrev stepsT (l : List Stp) : Tr := .lst 2 16 (l.map Stp.cells)
theorem stp_get {l : List Stp} {i : Nat} {row : List Tr} (h : (l.map Stp.cells)[i]? = some row) : ∃ d, l[i]? = some d ∧ row = d.cells := by
  rw [List.getElem?_map, Option.map_eq_some_iff] at h
  obtain ⟨d, h1, rfl⟩ := h
  exact ⟨d, h1, rfl⟩
/-- what the steps do, one by one -/
def playL : Mst → List Stp → List (Did × Int)
  | _, [] => []
  | s, x :: l => (stepS s x.kind x.core).2 :: playL (stepS s x.kind x.core).1 l
theorem playL_drop {s : Mst} {l : List Stp} {j : Nat} {x : Stp} (h : l[j]? = some x) : playL s (l.drop j) = (stepS s x.kind x.core).2 :: playL (stepS s x.kind x.core).1 (l.drop (j + 1)) := by
  have hlt := (List.getElem?_eq_some_iff.1 h).1
  rw [List.drop_eq_getElem_cons hlt, (List.getElem?_eq_some_iff.1 h).2]
  rfl
abbrev diV (l : List Did) : Blk := .vec 38 7 56 (l.map Did.cells)
abbrev erV (l : List Int) : Blk := .vec 23 1 8 (l.map irow)
def playE (o : Ob) (l : List Stp) : Int := bif (checkO o).1 == 0 && decide ((l.length : Int) > 1048576) then 3 else (checkO o).1
set_option maxRecDepth 100000 in
set_option maxHeartbeats 1000000 in
theorem k_play (o : Ob) (l : List Stp) (h : (checkO o).1 = 0) (hlen : l.length ≤ 1048576) : K 41 [o.av, .tr (stepsT l)] [] (.ret (.tup [.tr (didsT ((playL (newM o) l).map (·.1))), .tr (intsT ((playL (newM o) l).map (·.2))), .tr (ti 0)])) [] := by
  have hg := check_good h
  have hn1 := k_vnew o h hg.mem hg.cores (fun c hc => (hg.code c hc).2)
  have hI0 := VInv.new h
  generalize hs0 : newM o = s0 at hI0 hn1
  generalize hD : (playL s0 l).map (·.1) = D
  generalize hE : (playL s0 l).map (·.2) = E
  refine Ctr.of hT hmix Tryz.func41 rfl (fun _ _ => by kernel_rfl) rfl fun hok => ?_
  clear hok
  obtain ⟨memory, shared, locks, buffer, cores⟩ := o
  have hp0 : s0.prints.length = 0 := by rw [← hs0]; rfl
  clear hs0
  have hlm : (l.map Stp.cells).length = l.length := List.length_map ..
  have hl63 : l.length ≤ 9223372036854775807 := by omega
  conv => whnf
  refine acall.new [] [] _ _ _ _ hn1 rfl rfl rfl rfl aut aut rfl rfl fun _ => ?_
  conv => whnf
  refine csplit (fun h2 => ?_) (fun h2 => ?_)
  · have : decide (((l.map Stp.cells).length : Int) > 1048576) = true := h2
    rw [hlm] at this
    have := of_decide_eq_true this
    omega
  conv => whnf
  refine LoopL.by (fun x : Mst × List Did × List Int × Nat => ⟨[(1, .tr (stepsT l)), (7, .ptr 0 0), (9, .sl 4 x.2.2.2), (10, .sl 5 x.2.2.2), (30, .tr (stepsT l)), (31, .tr (ti (l.length : Int))), (32, .tr (ti x.2.2.2))], [(0, maB x.1), (1, csB x.1.cores), (2, meB x.1.mem), (3, prB x.1.prints), (4, diV x.2.1), (5, erV x.2.2.1)], 10⟩)
    (fun x => VInv x.1 ∧ x.2.2.2 ≤ l.length ∧ x.1.prints.length ≤ x.2.2.2 ∧ x.2.1.length = x.2.2.2 ∧ x.2.2.1.length = x.2.2.2 ∧ D = x.2.1 ++ (playL x.1 (l.drop x.2.2.2)).map (·.1) ∧ E = x.2.2.1 ++ (playL x.1 (l.drop x.2.2.2)).map (·.2)) (fun x => l.length - x.2.2.2) (s0, [], [], 0) [_, _, _, _] [4, 5]
    (Sub.mk' rfl ⟨.inl rfl, ⟨rfl, rfl⟩, ⟨rfl, rfl, rfl, rfl⟩, ⟨rfl, rfl, rfl, rfl⟩, .inl rfl, .inl (by rw [← hlm]), .inl rfl, trivial⟩ ⟨⟨rfl, .inl rfl, .inl rfl, .inl rfl, .inl rfl, .inl rfl, ⟨rfl, rfl⟩, ⟨rfl, rfl⟩, ⟨rfl, rfl⟩, trivial⟩, ⟨rfl, rfl, rfl, rfl, .inl rfl⟩, ⟨rfl, rfl, rfl, rfl⟩, ⟨rfl, rfl, rfl, rfl⟩, ⟨rfl, _, _, _, rfl, by decide⟩, ⟨rfl, _, _, _, rfl, by decide⟩, trivial⟩ rfl rfl)
    ⟨hI0, Nat.zero_le _, Nat.le_of_eq hp0, rfl, rfl, hD.symm, hE.symm⟩ ?_
  rintro ⟨s, ds, es, j⟩ ⟨hI, hj, hp, hdl, hel, hDj, hEj⟩ -
  simp only at hI hj hp hdl hel hDj hEj
  conv => whnf
  refine csplit (fun hlt => ?_) (fun hge => ?_)
  · have hlt : j < l.length := by have : ((j : Nat) : Int) < (l.length : Int) := of_decide_eq_true hlt; omega
    obtain ⟨x, hx⟩ : ∃ x, l[j]? = some x := ⟨l[j], by simp [hlt]⟩
    rw [playL_drop hx] at hDj hEj
    conv => whnf
    refine ⟨rfl, (show (0 : Int) ≤ j by omega), (show (j : Int) < (l.map Stp.cells).length by rw [hlm]; omega), fun row hr => ?_⟩
    obtain ⟨x', hx', rfl⟩ := stp_get hr
    obtain rfl : x = x' := Option.some.inj (hx.symm.trans hx')
    clear hr hx'
    have hst := k_step s hI (by omega) x.kind x.core
    have hIn := stepS_inv hI x.kind x.core
    have hpn := stepS_prints s x.kind x.core
    obtain ⟨xk, xc⟩ := x
    simp only at hst hIn hpn hDj hEj
    generalize stepS s xk xc = R at hst hIn hpn hDj hEj
    obtain ⟨s', d, e⟩ := R
    simp only at hst hIn hpn hDj hEj
    have hda : (ds.map Did.cells).take j ++ [d.cells] = (ds ++ [d]).map Did.cells := by rw [List.take_of_length_le (by simp; omega), List.map_append]; rfl
    have hea : (es.map irow).take j ++ [irow e] = (es ++ [e]).map irow := by rw [List.take_of_length_le (by simp; omega), List.map_append]; rfl
    have hDn : D = (ds ++ [d]) ++ (playL s' (l.drop (j + 1))).map (·.1) := by rw [hDj]; simp
    have hEn : E = (es ++ [e]) ++ (playL s' (l.drop (j + 1))).map (·.2) := by rw [hEj]; simp
    have hdl' : (ds ++ [d]).length = j + 1 := by simp; omega
    have hel' : (es ++ [e]).length = j + 1 := by simp; omega
    obtain ⟨dk, dc, da, dd, dw, dp, dn⟩ := d
    conv => whnf
    rcases hst with hst | hst
    · refine acall.au [0, 1, 2, 3] [] (hst) ?_
      intro _
      conv => whnf
      refine ⟨rfl, rfl, rfl, (by rw [List.length_map]; show j ≤ ds.length; omega), (show (j + 1) * 56 ≤ 150000000000000 by omega), fun q hq => ?_, ?_⟩
      · cases hq with
        | head => exact Nat.ne_of_beq_eq_false rfl
        | tail _ h => cases h
      conv => whnf
      refine ⟨rfl, rfl, rfl, (by rw [List.length_map]; show j ≤ es.length; omega), (show (j + 1) * 8 ≤ 150000000000000 by omega), fun q hq => ?_, ?_⟩
      · cases hq with
        | head => exact Nat.ne_of_beq_eq_false rfl
        | tail _ h => cases h
      conv => whnf
      exact ⟨(s', _, _, j + 1), [0, 1, 2, 3, _, _], [], Sub.mk' rfl ⟨.inl rfl, ⟨rfl, rfl⟩, ⟨rfl, rfl⟩, ⟨rfl, rfl⟩, .inl rfl, .inl rfl, .inl (ti_succ hlt hl63), trivial⟩ ⟨⟨rfl, .inl rfl, .inl rfl, .inl rfl, .inl rfl, .inl rfl, ⟨rfl, rfl⟩, ⟨rfl, rfl⟩, ⟨rfl, rfl⟩, trivial⟩, ⟨rfl, rfl, rfl, rfl, .inl rfl⟩, ⟨rfl, rfl, rfl, rfl⟩, ⟨rfl, rfl, rfl, rfl⟩, ⟨rfl, rfl, rfl, hda⟩, ⟨rfl, rfl, rfl, hea⟩, trivial⟩ rfl rfl, ⟨hIn, hlt, by show s'.prints.length ≤ j + 1; omega, hdl', hel', hDn, hEn⟩, by show l.length - (j + 1) < l.length - j; omega⟩
    · refine acall.new [0, 1, 2, 3] [] _ _ _ _ hst rfl rfl rfl rfl aut aut rfl rfl fun _ => ?_
      conv => whnf
      refine ⟨rfl, rfl, rfl, (by rw [List.length_map]; show j ≤ ds.length; omega), (show (j + 1) * 56 ≤ 150000000000000 by omega), fun q hq => ?_, ?_⟩
      · cases hq with
        | head => exact Nat.ne_of_beq_eq_false rfl
        | tail _ h => cases h
      conv => whnf
      refine ⟨rfl, rfl, rfl, (by rw [List.length_map]; show j ≤ es.length; omega), (show (j + 1) * 8 ≤ 150000000000000 by omega), fun q hq => ?_, ?_⟩
      · cases hq with
        | head => exact Nat.ne_of_beq_eq_false rfl
        | tail _ h => cases h
      conv => whnf
      exact ⟨(s', _, _, j + 1), [0, 1, 2, _, _, _], [], Sub.mk' rfl ⟨.inl rfl, ⟨rfl, rfl⟩, ⟨rfl, rfl⟩, ⟨rfl, rfl⟩, .inl rfl, .inl rfl, .inl (ti_succ hlt hl63), trivial⟩ ⟨⟨rfl, .inl rfl, .inl rfl, .inl rfl, .inl rfl, .inl rfl, ⟨rfl, rfl⟩, ⟨rfl, rfl⟩, ⟨rfl, rfl⟩, trivial⟩, ⟨rfl, rfl, rfl, rfl, .inl rfl⟩, ⟨rfl, rfl, rfl, rfl⟩, ⟨rfl, rfl, rfl, rfl⟩, ⟨rfl, rfl, rfl, hda⟩, ⟨rfl, rfl, rfl, hea⟩, trivial⟩ rfl rfl, ⟨hIn, hlt, by show s'.prints.length ≤ j + 1; omega, hdl', hel', hDn, hEn⟩, by show l.length - (j + 1) < l.length - j; omega⟩
  · have hge : j = l.length := by have : ¬ ((j : Nat) : Int) < (l.length : Int) := of_decide_eq_false hge; omega
    subst hge
    rw [List.drop_length] at hDj hEj
    have hDj : D = ds := by rw [hDj]; simp [playL]
    have hEj : E = es := by rw [hEj]; simp [playL]
    subst hDj hEj
    conv => whnf
    refine ⟨fun _ => ?_, fun h => absurd rfl h⟩
    conv => whnf
    exact ⟨⟨⟨rfl, by rw [List.length_map]; exact Nat.le_of_eq hdl.symm, by rw [List.take_of_length_le (by simp; omega)]⟩, ⟨rfl, by rw [List.length_map]; exact Nat.le_of_eq hel.symm, by rw [List.take_of_length_le (by simp; omega)]⟩, .inl rfl, trivial⟩, trivial⟩
end Go.Proofs.YtcpolpbeimhgfaaGreatDoor.am

namespace Go.Proofs.YtcpolpbeimhgfaaGreatDoor.ws
open Go Go.RowKit Go.Lib

/-- what stands in the block after j digits -/
def prRow (l : List UInt8) : Array Value := (List.replicate (20 - l.length) (Value.int .u8 0) ++ l.map fun c => Value.int .u8 c.toNat).toArray

theorem prRow_eq (l : List UInt8) : (prRow l).toList = List.replicate (20 - l.length) (Value.int .u8 0) ++ l.map fun c => Value.int .u8 c.toNat := rfl
theorem prRow_get (l : List UInt8) (p : Nat) (hp : 1 ≤ p) (hl : p + l.length = 20) : (prRow l)[p - 1]? = some (.int .u8 0) := by
  unfold prRow
  have h : 20 - l.length = (p - 1) + 1 := by omega
  rw [List.getElem?_toArray, List.getElem?_append_left (by simp; omega), h, List.getElem?_replicate, if_pos (by omega)]
theorem prRow_set (l : List UInt8) (c : UInt8) (p : Nat) (hp : 1 ≤ p) (hl : p + l.length = 20) : (prRow l).setIfInBounds (p - 1) (.int .u8 c.toNat) = prRow (c :: l) := by
  unfold prRow
  have h : 20 - l.length = (p - 1) + 1 := by omega
  have h' : 20 - (c :: l).length = p - 1 := by simp; omega
  rw [h, h', List.setIfInBounds_toArray, List.replicate_succ', List.append_assoc]
  congr 1
  rw [List.set_append_right _ _ (by simp)]
  simp
theorem prRow_at (l : List UInt8) (p i : Nat) (hl : p + l.length = 20) (hi : i < l.length) : (prRow l)[p + i]? = some (.int .u8 (l[i]'hi).toNat) := by
  unfold prRow
  rw [List.getElem?_toArray, List.getElem?_append_right (by simp; omega)]
  simp [show p + i - (20 - l.length) = i by omega, hi]
theorem slice_end (B p : Nat) (hp : 1 ≤ p) (hp2 : p ≤ 20) (W : World) :
    (Instr.sliceAt 104 (.pointer (some ⟨B, 0, none⟩)) (some (.int .i64 ((p : Int) - 1))) none none).run Tryz.prog W = .ok (.slice (some ⟨B, p - 1, none⟩) (21 - p) (21 - p)) W := by
  have hal : Tryz.prog.arrayLen 104 = 20 := by kernel_rfl
  have hu : Tryz.prog.underlying 104 = some (.array (Tryz.prog.arrayLen 104) (Tryz.prog.elem 104)) := by kernel_rfl
  have hz : ∀ W, (sizeOf (Tryz.prog.elem 104)).run Tryz.prog W = .ok 1 W := fun W => by kernel_rfl
  rw [run_sliceAt_array_l W _ _ hu .i64 _ (by omega) (by rw [hal]; omega), hz]
  simp only [Result.andThen, slicedAt, hal]
  have e : ((p : Int) - 1).toNat = p - 1 := by omega
  rw [e, if_neg (by omega)]
  have e2 : (⟨B, 0, none⟩ : Addr).add ((p - 1) * 1) = ⟨B, p - 1, none⟩ := by
    unfold Addr.add
    by_cases h : (p - 1) * 1 = 0
    · rw [if_pos h, show p - 1 = 0 by omega]
    · rw [if_neg h]; simp
  rw [e2, show 20 - (p - 1) = 21 - p by omega]
theorem conv_end (l : List UInt8) (p n : Nat) (w : World) (hl : p + l.length = 20) (hn : l.length = n) :
    (convert 33 9 (.slice (some ⟨w.heap.size, p, none⟩) n n)).run Tryz.prog (w.alloc (.cells (prRow l) 104)) = .ok (.string ⟨l.toArray⟩) (w.alloc (.cells (prRow l) 104)) := by
  subst hn
  refine run_convert_bytes_back _ _ _ 5 _ _ l Tryz.underlying33 Tryz.underlying5 Tryz.underlying9 fun j hj => ?_
  have e : (⟨w.heap.size, p, none⟩ : Addr).add j = ⟨w.heap.size, p + j, none⟩ := by
    unfold Addr.add; split <;> simp_all
  rw [e, World.cell?_alloc_at _ _ _ _ rfl, prRow_at l p j hl hj]
theorem dig_toNat (n : Nat) : (dch (n % 10)).toNat = 48 + n % 10 := dch_toNat (by omega)

theorem pow_bound {n j : Nat} (h : n * 10 ^ j ≤ 9223372036854775808) (hn : 0 < n) : j ≤ 18 := by
  apply Decidable.byContradiction
  intro hj
  have h1 : 10 ^ 19 ≤ 10 ^ j := Nat.pow_le_pow_right (by decide) (by omega)
  have h2 : 1 * 10 ^ j ≤ n * 10 ^ j := Nat.mul_le_mul_right _ hn
  have h3 : (10 : Nat) ^ 19 = 10000000000000000000 := by decide
  omega
theorem pow_step {n j N : Nat} (h : n * 10 ^ j ≤ N) : n / 10 * 10 ^ (j + 1) ≤ N := by
  have h1 : n / 10 * 10 ≤ n := Nat.div_mul_le_self n 10
  have h2 := Nat.mul_le_mul_right (10 ^ j) h1
  have h3 : n / 10 * 10 ^ (j + 1) = n / 10 * 10 * 10 ^ j := by rw [Nat.pow_succ, Nat.mul_assoc, Nat.mul_comm 10]
  omega

def rowOf (p : Nat) (d : Int) (l : List UInt8) : Array Value := (prRow l).setIfInBounds (p - 1) (.int .u8 d)
theorem rowOf_eq (p m : Nat) (l : List UInt8) (hp : 1 ≤ p) (hl : p + l.length = 20) : (prRow l).setIfInBounds (p - 1) (.int .u8 (48 + (m : Int) % 10)) = prRow (dch (m % 10) :: l) := by
  rw [← prRow_set l _ p hp hl, dig_toNat]
  rfl
theorem minus_eq (p : Nat) (l : List UInt8) (hp : 1 ≤ p) (hl : p + l.length = 20) : (prRow l).setIfInBounds (p - 1) (.int .u8 45) = prRow (45 :: l) := prRow_set l 45 p hp hl

set_option maxRecDepth 100000 in
set_option maxHeartbeats 1000000 in
theorem print_pos (N : Nat) (w : World) (hN : N ≤ 9223372036854775807) :
    Calls Tryz.prog 26 #[.int .i64 N] w fun e w' => e = .returned (.string ⟨(prn N).toArray⟩) ∧ Below w.heap.size w w' := by
  have R : Hid (prn N = dig N) := by
    show prn N = dig N
    unfold prn; rw [if_neg (by omega)]; rfl
  go_enter Tryz.func26, Tryz.ntmps26
  go_wp2
  go_loopw [4, 5] (fun a n wr => ∃ (l : List UInt8) (p m : Nat), p + l.length = 20 ∧ 1 ≤ p ∧ a = .int .i64 p ∧ n = .int .u64 m ∧ m ≤ N ∧ Hid ((0 < l.length → 0 < m) ∧ m * 10 ^ l.length ≤ N ∧ dig N = dig m ++ l) ∧ wr = w.alloc (.cells (prRow l) 104)) (fun a _ _ => (intOf a).toNat)
  case atStart => exact ⟨[], 20, N, rfl, by omega, rfl, rfl, by omega, ⟨fun h => absurd h (by decide), by simp, by simp⟩, rfl⟩
  case round =>
    obtain ⟨l, p, m, hp, hp1, rfl, rfl, hmN, H, rfl⟩ := hrel
    have hg := prRow_get l p hp1 hp
    have hsl := slice_end w.heap.size p hp1 (by omega)
    have hrow := rowOf_eq p m l hp1 hp
    by_cases h9 : m < 10
    · have hz : (((m : Int) / 10) == 0) = true := by simp; omega
      have hcv := conv_end (dch (m % 10) :: l) (p - 1) (21 - p) w (by simp; omega) (by simp; omega)
      go_wp2
      go_ret
      refine ⟨ret_str ?_, (Below.refl _ _).alloc (Nat.le_refl _) _⟩
      rw [R.out, H.out.2.2, dig_small h9, show m % 10 = m by omega]
      rfl
    · have hz : (((m : Int) / 10) == 0) = false := by simp; omega
      go_wp2
      have hl18 : l.length + 1 ≤ 18 := pow_bound (n := m / 10) (by have := pow_step H.out.2.1; omega) (by omega)
      go_roundw
      case rel =>
        exact ⟨dch (m % 10) :: l, p - 1, m / 10, by simp; omega, by omega, by go_num, by go_num, by omega, ⟨fun _ => by omega, pow_step H.out.2.1, by rw [H.out.2.2, dig_big h9, List.append_assoc]; rfl⟩, rfl⟩
      case measure => simp [intOf]; omega

set_option maxRecDepth 100000 in
set_option maxHeartbeats 1000000 in
theorem print_neg (N : Nat) (w : World) (hN : N ≤ 9223372036854775808) (h0 : 0 < N) :
    Calls Tryz.prog 26 #[.int .i64 (-(N : Int))] w fun e w' => e = .returned (.string ⟨(prn (-(N : Int))).toArray⟩) ∧ Below w.heap.size w w' := by
  have R : Hid (prn (-(N : Int)) = 45 :: dig N) := by
    show prn _ = _
    unfold prn; rw [if_pos (by omega), Int.neg_neg]; rfl
  have hlt : -(N : Int) < 0 := by omega
  have hw : IntKind.u64.wrap (-(IntKind.u64.wrap (-(N : Int)))) = N := by rw [IntKind.wrap_u64, IntKind.wrap_u64]; omega
  go_enter Tryz.func26, Tryz.ntmps26
  go_wp2
  go_loopw [4, 5] (fun a n wr => ∃ (l : List UInt8) (p m : Nat), p + l.length = 20 ∧ 2 ≤ p ∧ a = .int .i64 p ∧ n = .int .u64 m ∧ m ≤ N ∧ Hid ((0 < l.length → 0 < m) ∧ m * 10 ^ l.length ≤ N ∧ dig N = dig m ++ l) ∧ wr = w.alloc (.cells (prRow l) 104)) (fun a _ _ => (intOf a).toNat)
  case atStart => exact ⟨[], 20, N, rfl, by omega, rfl, rfl, by omega, ⟨fun h => absurd h (by decide), by simp, by simp⟩, rfl⟩
  case round =>
    obtain ⟨l, p, m, hp, hp1, rfl, rfl, hmN, H, rfl⟩ := hrel
    have hg := prRow_get l p (by omega) hp
    have hrow := rowOf_eq p m l (by omega) hp
    by_cases h9 : m < 10
    · have hz : (((m : Int) / 10) == 0) = true := by simp; omega
      have hp' : p - 1 + (dch (m % 10) :: l).length = 20 := by simp; omega
      have hg' := prRow_get (dch (m % 10) :: l) (p - 1) (by omega) hp'
      have hmin := minus_eq (p - 1) (dch (m % 10) :: l) (by omega) hp'
      have hsl := slice_end w.heap.size (p - 1) (by omega) (by omega)
      have hcv := conv_end (45 :: dch (m % 10) :: l) (p - 1 - 1) (21 - (p - 1)) w (by simp; omega) (by simp; omega)
      have e : ((p - 1 : Nat) : Int) = (p : Int) - 1 := by omega
      rw [e] at hsl
      clear e hp'
      go_wp2
      go_ret
      refine ⟨ret_str ?_, (Below.refl _ _).alloc (Nat.le_refl _) _⟩
      rw [R.out, H.out.2.2, dig_small h9, show m % 10 = m by omega]
      rfl
    · have hz : (((m : Int) / 10) == 0) = false := by simp; omega
      go_wp2
      have hl18 : l.length + 1 ≤ 18 := pow_bound (n := m / 10) (by have := pow_step H.out.2.1; omega) (by omega)
      go_roundw
      case rel =>
        exact ⟨dch (m % 10) :: l, p - 1, m / 10, by simp; omega, by omega, by go_num, by go_num, by omega, ⟨fun _ => by omega, pow_step H.out.2.1, by rw [H.out.2.2, dig_big h9, List.append_assoc]; rfl⟩, rfl⟩
      case measure => simp [intOf]; omega

theorem print_any (v : Int) (w : World) (h1 : -9223372036854775808 ≤ v) (h2 : v ≤ 9223372036854775807) :
    Calls Tryz.prog 26 #[.int .i64 v] w fun e w' => e = .returned (.string ⟨(prn v).toArray⟩) ∧ Below w.heap.size w w' := by
  by_cases h : 0 ≤ v
  · obtain ⟨N, rfl⟩ := Int.eq_ofNat_of_zero_le h
    exact print_pos N w (by omega)
  · obtain ⟨N, hN⟩ := Int.eq_ofNat_of_zero_le (a := -v) (by omega)
    obtain rfl : v = -(N : Int) := by omega
    exact print_neg N w (by omega) (by omega)
end Go.Proofs.YtcpolpbeimhgfaaGreatDoor.ws

namespace Go.Proofs.YtcpolpbeimhgfaaGreatDoor.ws
open Go Go.RowKit Go.Lib

theorem maskN (a : Nat) (ha : a < 18446744073709551616) : bits .and .u64 (a : Int) 4294967295 = ((a % 4294967296 : Nat) : Int) := by
  have h := bits_and_u64_nat a 4294967295 ha (by omega)
  have e : a &&& 4294967295 = a % 4294967296 := Nat.and_two_pow_sub_one_eq_mod a 32
  rw [e] at h
  exact h
theorem divN (a : Nat) : (a : Int) / 4294967296 = ((a / 4294967296 : Nat) : Int) := by omega
theorem mulN (a b : Nat) : (a : Int) * (b : Int) = ((a * b : Nat) : Int) := (Int.natCast_mul a b).symm
theorem addN (a b : Nat) : (a : Int) + (b : Int) = ((a + b : Nat) : Int) := (Int.natCast_add a b).symm
theorem wrapN (a : Nat) (ha : a < 18446744073709551616) : IntKind.u64.wrap (a : Int) = (a : Int) := by rw [IntKind.wrap_u64]; omega
theorem wrapM (a : Nat) : IntKind.u64.wrap (a : Int) = ((a % 18446744073709551616 : Nat) : Int) := by rw [IntKind.wrap_u64]; omega

set_option maxHeartbeats 1000000 in
theorem mul64_any (x y : Nat) (hx : x < 18446744073709551616) (hy : y < 18446744073709551616) (w : World) :
    Calls Tryz.prog 69 #[.int .u64 x, .int .u64 y] w fun e w' => e = .returned (.tuple #[.int .u64 ((x * y / 18446744073709551616 : Nat) : Int), .int .u64 ((x * y % 18446744073709551616 : Nat) : Int)]) ∧ w = w' := by
  obtain ⟨bd, bt, bw, hhi⟩ := Lib.mul64_hi x y hx hy
  have ba := Lib.half_mul_le (a := x / 4294967296) (b := y / 4294967296) (by omega) (by omega)
  have bb := Lib.half_mul_le (a := x / 4294967296) (b := y % 4294967296) (by omega) (by omega)
  have bc := Lib.half_mul_le (a := x % 4294967296) (b := y / 4294967296) (by omega) (by omega)
  have ba' : x / 4294967296 * (y / 4294967296) < 18446744073709551616 := by omega
  have bb' : x / 4294967296 * (y % 4294967296) < 18446744073709551616 := by omega
  have bc' : x % 4294967296 * (y / 4294967296) < 18446744073709551616 := by omega
  have bh1 : x / 4294967296 * (y / 4294967296) + (x / 4294967296 * (y % 4294967296) + x % 4294967296 * (y % 4294967296) / 4294967296) / 4294967296 < 18446744073709551616 := by omega
  have bh : x / 4294967296 * (y / 4294967296) + (x / 4294967296 * (y % 4294967296) + x % 4294967296 * (y % 4294967296) / 4294967296) / 4294967296 + ((x / 4294967296 * (y % 4294967296) + x % 4294967296 * (y % 4294967296) / 4294967296) % 4294967296 + x % 4294967296 * (y / 4294967296)) / 4294967296 < 18446744073709551616 := by omega
  go_enter Tryz.func69, Tryz.ntmps69
  go_wp2
  simp only [maskN x hx, maskN y hy, divN, mulN, addN, wrapN _ bd, wrapN _ bb', wrapN _ bt, maskN _ bt, wrapN _ bc', wrapN _ bw, wrapN _ ba', wrapN _ bh1, wrapN _ bh, wrapM (x * y)]
  rw [hhi]
  go_ret2
  exact ⟨rfl, rfl⟩

theorem add64_any (x y : Int) (hx : 0 ≤ x) (hy : 0 ≤ y) (w : World) :
    (callFunc 70 #[.int .u64 x, .int .u64 y, .int .u64 0]).run Tryz.prog w =
      .ok (.value (.tuple #[.int .u64 ((x + y) % 18446744073709551616), .int .u64 ((x + y) / 18446744073709551616)])) w := by
  rw [run_callFunc_extern Tryz.func70 (by kernel_rfl) (by kernel_rfl) (by kernel_rfl) (e := add64Entry) (by kernel_rfl), run_add64 x y 0 hx hy (by omega) (by omega)]
  simp only [Result.andThen, Int.add_zero]
theorem num_u64 {a b : Int} (h : a = b) : Value.int .u64 a = Value.int .u64 b := by rw [h]
theorem ret_int3 {k l m : IntKind} {a b c a' b' c' : Int} (h : a = a') (h2 : b = b') (h3 : c = c') : Ending.returned (.tuple #[.int k a, .int l b, .int m c]) = .returned (.tuple #[.int k a', .int l b', .int m c']) := by rw [h, h2, h3]

end Go.Proofs.YtcpolpbeimhgfaaGreatDoor.ws

namespace Go.Proofs.YtcpolpbeimhgfaaGreatDoor.ws
open Go Go.RowKit Go.Lib

set_option maxHeartbeats 4000000 in
theorem parse_pos (s : ByteArray) (w : World) (hs : s.size ≤ 9223372036854775807) (hne : 0 < s.size) (h0 : (s[0]'hne).toNat ≠ 45) :
    Calls Tryz.prog 53 #[.string s] w fun e w' => e = .returned (.tuple #[.int .i64 (prs s.data.toList).1, .int .i64 (prs s.data.toList).2.1, .int .i64 (prs s.data.toList).2.2]) ∧ w = w' := by
  have P := Lib.hid (prs_pos hne h0)
  have hN : (((s[0]'hne).toNat : Int) == 45) = false := by simp; omega
  have hE := ne_empty hne
  clear h0
  have hz : ((0 : Int) == s.size) = false := by simp; omega
  have hlt : 0 < s.size := hne
  have D := Lib.hid (drop_at s 0 hlt)
  by_cases b : s[0].toNat < 48 ∨ 57 < s[0].toNat
  · have R := Lib.hid (show prs s.data.toList = (0, 10, 0) from by rw [P.out, D.out]; exact pgo_bad (by simp [bad]; omega))
    rcases b with b | b
    all_goals
      go_enter Tryz.func53, Tryz.ntmps53
      go_wp2
      all_goals first | (exfalso; omega) | (go_ret3; rw [R.out]; exact ⟨rfl, rfl⟩)
  have b1 : 48 ≤ s[0].toNat := by omega
  have b2 : s[0].toNat ≤ 57 := by omega
  clear b
  go_enter Tryz.func53, Tryz.ntmps53
  go_wp2_with fail
  go_loop [8, 9] (fun n i => ∃ N k : Nat, 0 ≤ k ∧ k ≤ s.size ∧ n = .int .u64 N ∧ i = .int .i64 k ∧ N ≤ most false ∧ (k = 0 → N = 0) ∧ (0 < k → (N = 0 ↔ (s[0]'hlt).toNat = 48)) ∧ Hid (prs s.data.toList = pgo false 0 (s.data.toList.drop k) k N)) (fun _ i => s.size - (intOf i).toNat)
  case atStart => exact ⟨0, 0, by omega, by omega, rfl, rfl, by omega, fun _ => rfl, fun h => by omega, P.out⟩
  case round =>
    obtain ⟨N, k, hk1, hk, rfl, rfl, hm, hk0, hz0, H⟩ := hrel
    have hml := most_le false
    have HK := Lib.hid hk0
    have HZ := Lib.hid hz0
    clear hk0 hz0
    by_cases hlt' : k < s.size
    · have D' := Lib.hid (drop_at s k hlt')
      by_cases b : s[k].toNat < 48 ∨ 57 < s[k].toNat ∨ (0 < k ∧ N = 0)
      · have R := Lib.hid (show prs s.data.toList = (0, 10, (k : Int)) from by rw [H.out, D'.out]; exact pgo_bad (by simp only [bad, decide_eq_true_eq]; omega))
        rcases b with b | b | ⟨b, bz⟩
        case inr.inr =>
          have b3 : (((s[0]'hlt).toNat : Int) == 48) = true := by have := (HZ.out b).1 bz; simp; omega
          clear bz
          by_cases b1 : s[k].toNat < 48
          · go_wp2
            go_ret3; rw [R.out]; exact ⟨rfl, rfl⟩
          · by_cases b2 : 57 < s[k].toNat
            · go_wp2
              go_ret3; rw [R.out]; exact ⟨rfl, rfl⟩
            · go_wp2
              go_ret3; rw [R.out]; exact ⟨rfl, rfl⟩
        all_goals
          go_wp2
          all_goals first | (exfalso; omega) | (go_ret3; rw [R.out]; exact ⟨rfl, rfl⟩)
      · have c1 : 48 ≤ s[k].toNat := by omega
        have c2 : s[k].toNat ≤ 57 := by omega
        have c3 : k = 0 ∨ (0 < k ∧ (((s[0]'hlt).toNat : Int) == 48) = false) := by
          by_cases hq : k = 0
          · exact .inl hq
          · refine .inr ⟨by omega, ?_⟩
            have := HZ.out (by omega)
            simp; omega
        have NB := Lib.hid (show ¬ (0 < k ∧ N = 0) by omega)
        clear b
        obtain ⟨d, hd⟩ : ∃ d : Nat, d = s[k].toNat - 48 := ⟨_, rfl⟩
        have hd9 : d ≤ 9 := by omega
        have hD := Lib.hid hd
        have hw : IntKind.u8.wrap ((s[k].toNat : Int) - 48) = (d : Int) := by rw [IntKind.wrap_u8]; omega
        clear hd
        have BI := Lib.hid (big_iff false hm hd9)
        have ha := add64_any ((N : Int) * 10 % 18446744073709551616) d (by omega) (by omega)
        by_cases ov : 10 * N + d ≤ most false
        · have NX := Lib.hid (show prs s.data.toList = pgo false 0 (s.data.toList.drop (k + 1)) (k + 1) (10 * N + d) from by
            rw [H.out, D'.out, hD.out]
            refine pgo_go (decide_eq_false ?_)
            have q1 := hD.out
            have q2 := NB.out
            rintro (h | h | h | ⟨h, h2, h3⟩ | h)
            · omega
            · omega
            · exact q2 h
            · cases h
            · omega)
          have ov' : 10 * (N : Int) + d ≤ (most false : Nat) := by omega
          have SM : Hid ((10 * N + d = 0 ↔ (s[0]'hlt).toNat = 48) ∧ 0 < k + 1) := by
            refine ⟨?_, by omega⟩
            rcases c3 with c3 | ⟨c3, c4⟩
            · have := HK.out c3
              have := hD.out
              subst c3
              omega
            · have h1 := HZ.out c3
              have h2 := NB.out
              have h4 : (s[0]'hlt).toNat ≠ 48 := by simp at c4; omega
              omega
          unfold most at ov' hm
          simp only [Bool.false_eq_true, if_false] at ov' hm
          have c5 : k = 0 ∨ (0 < k ∧ (((s[0]'hlt).toNat : Int) == 48) = false) := c3
          clear c3
          rcases c5 with c3 | ⟨c3, c4⟩
          all_goals
            try subst c3
            go_wp2_with (go_at_call 69; refine (mul64_any _ 10 (by omega) (by omega) _).mono ?_; rintro e w' ⟨rfl, rfl⟩)
            all_goals first | (exfalso; omega) | skip
            go_round
            case rel => exact ⟨10 * N + d, _, by omega, by omega, num_u64 (by omega), by go_num, by omega, by omega, fun _ => SM.out.1, NX.out⟩
            case measure => simp [intOf]; omega
        · have R := Lib.hid (show prs s.data.toList = (0, 10, (k : Int)) from by
            rw [H.out, D'.out]
            refine pgo_bad (decide_eq_true ?_)
            have q1 := hD.out
            omega)
          have ov' : ((most false : Nat) : Int) < 10 * (N : Int) + d := by omega
          unfold most at ov' hm
          simp only [Bool.false_eq_true, if_false] at ov' hm
          rcases c3 with c3 | ⟨c3, c4⟩
          all_goals
            try subst c3
            go_wp2_with (go_at_call 69; refine (mul64_any _ 10 (by omega) (by omega) _).mono ?_; rintro e w' ⟨rfl, rfl⟩)
            all_goals first | (exfalso; omega) | (go_ret3; rw [R.out]; exact ⟨rfl, rfl⟩)
    · obtain rfl : k = s.size := by omega
      have R := Lib.hid (show prs s.data.toList = (okV false N, 0, 0) from by
        rw [H.out, drop_end s _ (Nat.le_refl _)]
        unfold pgo
        rw [if_neg (by omega)])
      unfold most at hm
      simp only [Bool.false_eq_true, if_false] at hm
      go_wp2
      go_ret3
      rw [R.out]
      exact ⟨ret_int3 (by show _ = (N : Int); first | rfl | (simp only [wrap64, IntKind.wrap_u64]; omega)) rfl rfl, rfl⟩

end Go.Proofs.YtcpolpbeimhgfaaGreatDoor.ws

namespace Go.Proofs.YtcpolpbeimhgfaaGreatDoor.ws
open Go Go.RowKit Go.Lib

set_option maxHeartbeats 4000000 in
theorem parse_neg (s : ByteArray) (w : World) (hs : s.size ≤ 9223372036854775807) (hne : 0 < s.size) (h0 : (s[0]'hne).toNat = 45) :
    Calls Tryz.prog 53 #[.string s] w fun e w' => e = .returned (.tuple #[.int .i64 (prs s.data.toList).1, .int .i64 (prs s.data.toList).2.1, .int .i64 (prs s.data.toList).2.2]) ∧ w = w' := by
  have P := Lib.hid (prs_neg hne h0)
  have hN : (((s[0]'hne).toNat : Int) == 45) = true := by simp; omega
  have hE := ne_empty hne
  clear h0
  by_cases h1 : s.size = 1
  · have hz : ((1 : Int) == s.size) = true := by simp; omega
    have R := Lib.hid (show prs s.data.toList = (0, 10, 1) from by rw [P.out, drop_end s 1 (by omega)]; rfl)
    clear h1
    go_enter Tryz.func53, Tryz.ntmps53
    go_wp2
    go_ret3
    rw [R.out]
    exact ⟨rfl, rfl⟩
  have hz : ((1 : Int) == s.size) = false := by simp; omega
  have hlt : 1 < s.size := by omega
  clear h1
  have D := Lib.hid (drop_at s 1 hlt)
  by_cases b : s[1].toNat < 48 ∨ 57 < s[1].toNat ∨ s[1].toNat = 48
  · have R := Lib.hid (show prs s.data.toList = (0, 10, 1) from by rw [P.out, D.out]; exact pgo_bad (by simp [bad]; omega))
    rcases b with b | b | b
    case inr.inr =>
      have b3 : ((s[1].toNat : Int) == 48) = true := by simp; omega
      have b1 : 48 ≤ s[1].toNat := by omega
      have b2 : s[1].toNat ≤ 57 := by omega
      clear b
      go_enter Tryz.func53, Tryz.ntmps53
      go_wp2
      go_ret3; rw [R.out]; exact ⟨rfl, rfl⟩
    all_goals
      go_enter Tryz.func53, Tryz.ntmps53
      go_wp2
      all_goals first | (exfalso; omega) | (go_ret3; rw [R.out]; exact ⟨rfl, rfl⟩)
  have b1 : 48 ≤ s[1].toNat := by omega
  have b2 : s[1].toNat ≤ 57 := by omega
  have b3 : ((s[1].toNat : Int) == 48) = false := by simp; omega
  have b4 := Lib.hid (show s[1].toNat ≠ 48 by omega)
  clear b
  go_enter Tryz.func53, Tryz.ntmps53
  go_wp2_with fail
  go_loop [8, 9] (fun n i => ∃ N k : Nat, 1 ≤ k ∧ k ≤ s.size ∧ n = .int .u64 N ∧ i = .int .i64 k ∧ N ≤ most true ∧ (k = 1 → N = 0) ∧ (1 < k → (N = 0 ↔ (s[1]'hlt).toNat = 48)) ∧ Hid (prs s.data.toList = pgo true 1 (s.data.toList.drop k) k N)) (fun _ i => s.size - (intOf i).toNat)
  case atStart => exact ⟨0, 1, by omega, by omega, rfl, rfl, by omega, fun _ => rfl, fun h => by omega, P.out⟩
  case round =>
    obtain ⟨N, k, hk1, hk, rfl, rfl, hm, hk0, hz0, H⟩ := hrel
    have hml := most_le true
    have HK := Lib.hid hk0
    have HZ := Lib.hid hz0
    clear hk0 hz0
    by_cases hlt' : k < s.size
    · have D' := Lib.hid (drop_at s k hlt')
      by_cases b : s[k].toNat < 48 ∨ 57 < s[k].toNat ∨ (1 < k ∧ N = 0)
      · have R := Lib.hid (show prs s.data.toList = (0, 10, (k : Int)) from by rw [H.out, D'.out]; exact pgo_bad (by simp only [bad, decide_eq_true_eq]; omega))
        rcases b with b | b | ⟨b, bz⟩
        case inr.inr =>
          exact absurd ((HZ.out b).1 bz) b4.out
        all_goals
          go_wp2
          all_goals first | (exfalso; omega) | (go_ret3; rw [R.out]; exact ⟨rfl, rfl⟩)
      · have c1 : 48 ≤ s[k].toNat := by omega
        have c2 : s[k].toNat ≤ 57 := by omega
        have c3 : k = 1 ∨ (1 < k ∧ (((s[1]'hlt).toNat : Int) == 48) = false) := by
          by_cases hq : k = 1
          · exact .inl hq
          · refine .inr ⟨by omega, ?_⟩
            have := HZ.out (by omega)
            simp; omega
        have NB := Lib.hid (show ¬ (1 < k ∧ N = 0) by omega)
        clear b
        obtain ⟨d, hd⟩ : ∃ d : Nat, d = s[k].toNat - 48 := ⟨_, rfl⟩
        have hd9 : d ≤ 9 := by omega
        have hD := Lib.hid hd
        have hw : IntKind.u8.wrap ((s[k].toNat : Int) - 48) = (d : Int) := by rw [IntKind.wrap_u8]; omega
        clear hd
        have BI := Lib.hid (big_iff true hm hd9)
        have ha := add64_any ((N : Int) * 10 % 18446744073709551616) d (by omega) (by omega)
        by_cases ov : 10 * N + d ≤ most true
        · have NX := Lib.hid (show prs s.data.toList = pgo true 1 (s.data.toList.drop (k + 1)) (k + 1) (10 * N + d) from by
            rw [H.out, D'.out, hD.out]
            refine pgo_go (decide_eq_false ?_)
            have q1 := hD.out
            have q2 := NB.out
            rintro (h | h | h | ⟨h, h2, h3⟩ | h)
            · omega
            · omega
            · exact q2 h
            · subst h2; exact b4.out h3
            · omega)
          have ov' : 10 * (N : Int) + d ≤ (most true : Nat) := by omega
          have SM : Hid ((10 * N + d = 0 ↔ (s[1]'hlt).toNat = 48) ∧ 1 < k + 1) := by
            refine ⟨?_, by omega⟩
            rcases c3 with c3 | ⟨c3, c4⟩
            · have := HK.out c3
              have := hD.out
              subst c3
              omega
            · have h1 := HZ.out c3
              have h2 := NB.out
              have h4 : (s[1]'hlt).toNat ≠ 48 := by simp at c4; omega
              omega
          unfold most at ov' hm
          simp only [if_true] at ov' hm
          have c5 : k = 1 ∨ (1 < k ∧ (((s[1]'hlt).toNat : Int) == 48) = false) := c3
          clear c3
          rcases c5 with c3 | ⟨c3, c4⟩
          all_goals
            try subst c3
            go_wp2_with (go_at_call 69; refine (mul64_any _ 10 (by omega) (by omega) _).mono ?_; rintro e w' ⟨rfl, rfl⟩)
            all_goals first | (exfalso; omega) | skip
            go_round
            case rel => exact ⟨10 * N + d, _, by omega, by omega, num_u64 (by omega), by go_num, by omega, by omega, fun _ => SM.out.1, NX.out⟩
            case measure => simp [intOf]; omega
        · have R := Lib.hid (show prs s.data.toList = (0, 10, (k : Int)) from by
            rw [H.out, D'.out]
            refine pgo_bad (decide_eq_true ?_)
            have q1 := hD.out
            omega)
          have ov' : ((most true : Nat) : Int) < 10 * (N : Int) + d := by omega
          unfold most at ov' hm
          simp only [if_true] at ov' hm
          rcases c3 with c3 | ⟨c3, c4⟩
          all_goals
            try subst c3
            go_wp2_with (go_at_call 69; refine (mul64_any _ 10 (by omega) (by omega) _).mono ?_; rintro e w' ⟨rfl, rfl⟩)
            all_goals first | (exfalso; omega) | (go_ret3; rw [R.out]; exact ⟨rfl, rfl⟩)
    · obtain rfl : k = s.size := by omega
      have R := Lib.hid (show prs s.data.toList = (okV true N, 0, 0) from by
        rw [H.out, drop_end s _ (Nat.le_refl _)]
        unfold pgo
        rw [if_neg (by omega)])
      unfold most at hm
      simp only [if_true] at hm
      go_wp2
      go_ret3
      rw [R.out]
      exact ⟨ret_int3 (by show _ = -(N : Int); first | rfl | (simp only [wrap64, IntKind.wrap_u64]; omega)) rfl rfl, rfl⟩

end Go.Proofs.YtcpolpbeimhgfaaGreatDoor.ws

namespace Go.Proofs.YtcpolpbeimhgfaaGreatDoor.ws
open Go Go.RowKit Go.Lib

theorem parse_none (s : ByteArray) (w : World) (h : s.size = 0) :
    Calls Tryz.prog 53 #[.string s] w fun e w' => e = .returned (.tuple #[.int .i64 (prs s.data.toList).1, .int .i64 (prs s.data.toList).2.1, .int .i64 (prs s.data.toList).2.2]) ∧ w = w' := by
  have R := Lib.hid (prs_none h)
  have h1 := is_empty h
  have h2 : ((0 : Int) == s.size) = true := by rw [h]; rfl
  have h3 : s.toList.isEmpty = true := by rw [h1]; rfl
  clear h h1
  go_enter Tryz.func53, Tryz.ntmps53
  go_wp2
  go_ret3
  rw [R.out]
  exact ⟨rfl, rfl⟩
theorem parse_any (s : ByteArray) (w : World) (hs : s.size ≤ 9223372036854775807) :
    Calls Tryz.prog 53 #[.string s] w fun e w' => e = .returned (.tuple #[.int .i64 (prs s.data.toList).1, .int .i64 (prs s.data.toList).2.1, .int .i64 (prs s.data.toList).2.2]) ∧ w = w' := by
  by_cases h : s.size = 0
  · exact parse_none s w h
  · by_cases h0 : (s[0]'(by omega)).toNat = 45
    · exact parse_neg s w hs (by omega) h0
    · exact parse_pos s w hs (by omega) h0
end Go.Proofs.YtcpolpbeimhgfaaGreatDoor.ws

namespace Go.Proofs.YtcpolpbeimhgfaaGreatDoor.am
open Go Go.Proofs
structure Evt where
  kind : Int
  core : Int
  thing : Int
  word : Int
  put : Int
  own : Bool
  at_ : Int
def Evt.cells (e : Evt) : List Tr := [tu e.kind, ti e.core, ti e.thing, ti e.word, ti e.put, tb e.own, ti e.at_]
abbrev evtsT (l : List Evt) : Tr := .lst 7 56 (l.map Evt.cells)
abbrev evV (l : List Evt) : Blk := .vec 66 7 56 (l.map Evt.cells)
def wrp (x : Int) : Int := IntKind.i64.wrap x
/-- where an address lies, and which thing it is -/
def whD (o : Ob) (d : Did) : Int × Int := bif addrK d.kind then (bif decide (d.addr < o.shared) then (1, d.addr) else bif decide (d.addr < wrp (o.shared + o.locks)) then (2, wrp (d.addr - o.shared)) else (0, 0)) else (0, 0)
/-- what kind of event it is -/
def evK (w : Int) (d : Did) : Int := match d.kind.toNat with
  | 2 => onE 1 w
  | 4 => swE w d.word d.put
  | 6 => 6
  | 7 => 7
  | 8 => drE w d.word
  | _ => 0
def evD (o : Ob) (d : Did) (i : Int) : List Evt :=
  let w := whD o d
  let k := evK w.1 d
  bif k == 0 then [] else bif k == 1 || k == 2 || k == 3 then [⟨k, d.core, w.2, d.word, d.put, d.own, i⟩] else bif k == 4 || k == 5 then [⟨k, d.core, w.2, 0, 0, false, i⟩] else bif k == 6 then [⟨k, d.core, 0, d.word, 0, false, i⟩] else [⟨k, d.core, 0, 0, 0, false, i⟩]
def evL (o : Ob) : List Did → Nat → List Evt
  | [], _ => []
  | d :: l, i => evD o d i ++ evL o l (i + 1)
theorem whD_var {o : Ob} {d : Did} (h : addrK d.kind = true) (h1 : decide (d.addr < o.shared) = true) : whD o d = (1, d.addr) := by unfold whD; rw [h, h1]; rfl
theorem whD_lock {o : Ob} {d : Did} (h : addrK d.kind = true) (h1 : decide (d.addr < o.shared) = false) (h2 : decide (d.addr < wrp (o.shared + o.locks)) = true) : whD o d = (2, wrp (d.addr - o.shared)) := by unfold whD; rw [h, h1, h2]; rfl
theorem whD_else {o : Ob} {d : Did} (h : addrK d.kind = true) (h1 : decide (d.addr < o.shared) = false) (h2 : decide (d.addr < wrp (o.shared + o.locks)) = false) : whD o d = (0, 0) := by unfold whD; rw [h, h1, h2]; rfl
theorem whD_no {o : Ob} {d : Did} (h : addrK d.kind = false) : whD o d = (0, 0) := by unfold whD; rw [h]; rfl
theorem evD_eq {o : Ob} {d : Did} {i E th : Int} (hE : evK (whD o d).1 d = E) (ht : (whD o d).2 = th) : evD o d i = bif E == 0 then [] else bif E == 1 || E == 2 || E == 3 then [⟨E, d.core, th, d.word, d.put, d.own, i⟩] else bif E == 4 || E == 5 then [⟨E, d.core, th, 0, 0, false, i⟩] else bif E == 6 then [⟨E, d.core, 0, d.word, 0, false, i⟩] else [⟨E, d.core, 0, 0, 0, false, i⟩] := by
  subst hE ht
  rfl
theorem evL_drop {o : Ob} {l : List Did} {j : Nat} {d : Did} (h : l[j]? = some d) : evL o (l.drop j) j = evD o d j ++ evL o (l.drop (j + 1)) (j + 1) := by
  have hlt := (List.getElem?_eq_some_iff.1 h).1
  rw [List.drop_eq_getElem_cons hlt, (List.getElem?_eq_some_iff.1 h).2]
  rfl
abbrev evB (e : Evt) : Blk := .cells 66 (e.cells.map .tr)
/-- what makes a Did's event -/
def EvOk (d : Did) (ev : AV) : Prop := (∃ k, ev = alwA k ∧ ∀ w, evK w d = k) ∨ (ev = onA 1 ∧ ∀ w, evK w d = onE 1 w) ∨ (ev = .fn 51 [] ∧ ∀ w, evK w d = swE w d.word d.put) ∨ (ev = .fn 52 [] ∧ ∀ w, evK w d = drE w d.word)
theorem right_kind' {d : Did} (h : rightD d = true) : d.kind = 1 ∨ d.kind = 2 ∨ d.kind = 3 ∨ d.kind = 4 ∨ d.kind = 5 ∨ d.kind = 6 ∨ d.kind = 7 ∨ d.kind = 8 ∨ d.kind < 0 := by
  unfold rightD at h
  cases ho : outD d with
  | true => rw [ho] at h; cases h
  | false =>
    unfold outD at ho
    simp only [Bool.or_eq_false_iff, beq_eq_false_iff_ne, decide_eq_false_iff_not] at ho
    have h1 := ho.1
    have h2 := ho.2.1
    omega
theorem t_events (o : Ob) (l : List Did) : K 43 [o.av, .tr (didsT l)] [] (.ret (.fn 58 [.ept [didsT l], .ept o.cells])) [] := by
  obtain ⟨memory, shared, locks, buffer, cores⟩ := o
  refine Ctr.of hT hmix Tryz.func43 rfl (fun _ _ => by kernel_rfl) rfl fun hok => ?_
  clear hok
  conv => whnf
  exact ⟨⟨rfl, ⟨rfl, rfl⟩, ⟨rfl, rfl⟩, trivial⟩, trivial⟩
set_option maxRecDepth 100000 in
set_option maxHeartbeats 4000000 in
theorem t_Events (o : Ob) (l : List Did) (hc0 : (checkO o).1 = 0) (hr0 : l.all rightD = true) : K 23 [o.av, .tr (didsT l)] [] (.ret (.tup [.tr (evtsT (evL o l 0)), .tr (ti 0)])) [] := by
  have hc := k_check o
  have hr := t_right l
  rw [hr0] at hr
  have hev := t_events o l
  obtain ⟨memory, shared, locks, buffer, cores⟩ := o
  generalize hO : Ob.mk memory shared locks buffer cores = o' at hc0 ⊢
  generalize hEV : evL o' l 0 = EV
  rw [← hO] at hc0 ⊢
  generalize hR : checkO ⟨memory, shared, locks, buffer, cores⟩ = R at hc hc0
  have hlm : (l.map Did.cells).length = l.length := List.length_map ..
  refine Ctr.range [1000005] [4, 10, 11, 22, 2000022] hT hmix (pre := [_, _, _, _]) Tryz.func23 rfl (fun _ _ => by kernel_rfl) Tryz.func58 rfl (fun _ _ => by kernel_rfl) rfl rfl fun hok => ?_
  have hdk : ∀ d ∈ l, 0 ≤ d.kind := fun d hd => by
    have h2 := ((hok.slot 1 rfl).tr.lst.2.2 d.cells (List.mem_map_of_mem hd)).2 _ (List.mem_cons_self ..)
    exact h2.u8.1
  have hlb := (hok.slot 1 rfl).tr.lst.1
  rw [hlm] at hlb
  clear hok
  have hl63 : l.length ≤ 9223372036854775807 := by omega
  conv => whnf
  refine acall.pure _ (hc) rfl rfl fun _ => ?_
  conv => whnf
  refine csplit (fun h1 => ?_) (fun h1 => ?_)
  · exact absurd h1 (by rw [hc0]; decide)
  conv => whnf
  refine CutL.by (fun _ : Unit => ⟨[(1, .tr (didsT l)), (2, .ptr 0 0), (22, .tr (tb false))], [(0, .cells 58 [.tr (intsT memory), .tr (ti shared), .tr (ti locks), .tr (ti buffer), .tr (coresT cores)])], 1⟩) (fun _ => True) ?_ ?_
  · conv => whnf
    refine acall.pure _ (hr) rfl rfl fun _ => ?_
    conv => whnf
    exact ⟨(), [0], [], Sub.mk' rfl ⟨.inl rfl, ⟨rfl, rfl⟩, .inl rfl, trivial⟩ ⟨⟨rfl, .inl rfl, .inl rfl, .inl rfl, .inl rfl, .inl rfl, trivial⟩, trivial⟩ rfl rfl, trivial⟩
  rintro - - -
  conv => whnf
  refine acall.pure _ (hev) rfl rfl fun _ => ?_
  conv => whnf
  refine ⟨rfl, rfl, _, rfl, rfl, fun y => ?_⟩
  conv => whnf
  refine LoopL.by (fun x : List Evt × Nat => ⟨[(0, yldT y), (1, .ept [didsT l]), (2, .ept [intsT memory, ti shared, ti locks, ti buffer, coresT cores]), (10, .tr (didsT l)), (11, .tr (ti (l.length : Int))), (12, .tr (ti x.2))], [(1, .cells 61 [.sl 5 x.1.length]), (5, evV x.1)], 10⟩)
    (fun x => x.2 ≤ l.length ∧ x.1.length ≤ x.2 ∧ EV = x.1 ++ evL o' (l.drop x.2) x.2) (fun x => l.length - x.2) ([], 0) [0, 1, 2, 3, 4] [5]
    (Sub.mk' rfl ⟨.inl rfl, rfl, rfl, .inl rfl, .inl (by rw [← hlm]), .inl rfl, trivial⟩ ⟨⟨rfl, ⟨rfl, rfl, rfl, rfl⟩, trivial⟩, ⟨rfl, _, _, _, rfl, by decide⟩, trivial⟩ rfl rfl)
    ⟨Nat.zero_le _, Nat.le_refl _, hEV.symm⟩ ?_
  rintro ⟨out, j⟩ ⟨hj, hol, hEj⟩ -
  simp only at hj hol hEj
  conv => whnf
  refine csplit (fun hlt => ?_) (fun hge => ?_)
  · have hlt : j < l.length := by have : ((j : Nat) : Int) < (l.length : Int) := of_decide_eq_true hlt; omega
    obtain ⟨d, hd⟩ : ∃ x, l[j]? = some x := ⟨l[j], by simp [hlt]⟩
    rw [evL_drop hd] at hEj
    have hrd : rightD d = true := List.all_eq_true.1 hr0 d (List.mem_of_getElem? hd)
    have hk := right_kind' hrd
    have hk0 := hdk d (List.mem_of_getElem? hd)
    conv => whnf
    refine ⟨rfl, (show (0 : Int) ≤ j by omega), (show (j : Int) < (l.map Did.cells).length by rw [hlm]; omega), fun row hr => ?_⟩
    obtain ⟨d', hd', rfl⟩ := did_get hr
    obtain rfl : d = d' := Option.some.inj (hd.symm.trans hd')
    clear hr hd'
    conv => whnf
    refine CutL.by (fun x : ByteArray × Bool × Bool × Bool × Bool × AV => ⟨[(0, yldT y), (1, .ept [didsT l]), (2, .ept [intsT memory, ti shared, ti locks, ti buffer, coresT cores]), (4, .tr (ti j)), (5, .ptr 6 0), (6, .ptr 7 0), (10, .tr (didsT l)), (11, .tr (ti (l.length : Int))), (12, .tr (ti j))], [(1, .cells 61 [.sl 5 out.length]), (5, evV out), (6, diB d), (7, .cells 69 [.tr (ts x.1), .tr (tb x.2.1), .tr (tb x.2.2.1), .tr (tb x.2.2.2.1), .tr (tb x.2.2.2.2.1), x.2.2.2.2.2])], 10⟩) (fun x => x.2.1 = addrK d.kind ∧ EvOk d x.2.2.2.2.2) ?_ ?_
    · obtain ⟨dk, dc, da, dd, dw, dp, dn⟩ := d
      simp only at hk hk0
      clear hEj hEV hrd
      rcases hk with rfl | rfl | rfl | rfl | rfl | rfl | rfl | rfl | hk
      · conv => whnf
        refine acall.pure _ (t_forms) rfl rfl ?_
        conv => whnf
        refine ⟨of_decide_eq_true rfl, of_decide_eq_true rfl, of_decide_eq_true rfl, ?_⟩
        conv => whnf
        refine ⟨by kernel_rfl, fun _ => ?_⟩
        conv => whnf
        exact ⟨(⟨#[99, 111, 109, 112, 117, 116, 101]⟩, false, false, false, false, alwA 0), [0, 1, 2, 3, 4, 5, _, _], [], Sub.mk' rfl ⟨.inl rfl, rfl, rfl, .inl rfl, ⟨rfl, rfl⟩, ⟨rfl, rfl⟩, .inl rfl, .inl rfl, .inl rfl, trivial⟩ ⟨⟨rfl, ⟨rfl, rfl⟩, trivial⟩, ⟨rfl, rfl, rfl, rfl⟩, ⟨rfl, .inl rfl, .inl rfl, .inl rfl, .inl rfl, .inl rfl, .inl rfl, .inl rfl, trivial⟩, ⟨rfl, .inl rfl, .inl rfl, .inl rfl, .inl rfl, .inl rfl, ⟨rfl, rfl, trivial⟩, trivial⟩, trivial⟩ rfl rfl, ⟨rfl, .inl ⟨0, rfl, fun _ => rfl⟩⟩⟩
      · conv => whnf
        refine acall.pure _ (t_forms) rfl rfl ?_
        conv => whnf
        refine ⟨of_decide_eq_true rfl, of_decide_eq_true rfl, of_decide_eq_true rfl, ?_⟩
        conv => whnf
        refine ⟨by kernel_rfl, fun _ => ?_⟩
        conv => whnf
        exact ⟨(⟨#[108, 111, 97, 100]⟩, true, true, false, true, onA 1), [0, 1, 2, 3, 4, 5, _, _], [], Sub.mk' rfl ⟨.inl rfl, rfl, rfl, .inl rfl, ⟨rfl, rfl⟩, ⟨rfl, rfl⟩, .inl rfl, .inl rfl, .inl rfl, trivial⟩ ⟨⟨rfl, ⟨rfl, rfl⟩, trivial⟩, ⟨rfl, rfl, rfl, rfl⟩, ⟨rfl, .inl rfl, .inl rfl, .inl rfl, .inl rfl, .inl rfl, .inl rfl, .inl rfl, trivial⟩, ⟨rfl, .inl rfl, .inl rfl, .inl rfl, .inl rfl, .inl rfl, ⟨rfl, rfl, trivial⟩, trivial⟩, trivial⟩ rfl rfl, ⟨rfl, .inr (.inl ⟨rfl, fun _ => rfl⟩)⟩⟩
      · conv => whnf
        refine acall.pure _ (t_forms) rfl rfl ?_
        conv => whnf
        refine ⟨of_decide_eq_true rfl, of_decide_eq_true rfl, of_decide_eq_true rfl, ?_⟩
        conv => whnf
        refine ⟨by kernel_rfl, fun _ => ?_⟩
        conv => whnf
        exact ⟨(⟨#[115, 116, 111, 114, 101]⟩, true, true, false, false, alwA 0), [0, 1, 2, 3, 4, 5, _, _], [], Sub.mk' rfl ⟨.inl rfl, rfl, rfl, .inl rfl, ⟨rfl, rfl⟩, ⟨rfl, rfl⟩, .inl rfl, .inl rfl, .inl rfl, trivial⟩ ⟨⟨rfl, ⟨rfl, rfl⟩, trivial⟩, ⟨rfl, rfl, rfl, rfl⟩, ⟨rfl, .inl rfl, .inl rfl, .inl rfl, .inl rfl, .inl rfl, .inl rfl, .inl rfl, trivial⟩, ⟨rfl, .inl rfl, .inl rfl, .inl rfl, .inl rfl, .inl rfl, ⟨rfl, rfl, trivial⟩, trivial⟩, trivial⟩ rfl rfl, ⟨rfl, .inl ⟨0, rfl, fun _ => rfl⟩⟩⟩
      · conv => whnf
        refine acall.pure _ (t_forms) rfl rfl ?_
        conv => whnf
        refine ⟨of_decide_eq_true rfl, of_decide_eq_true rfl, of_decide_eq_true rfl, ?_⟩
        conv => whnf
        refine ⟨by kernel_rfl, fun _ => ?_⟩
        conv => whnf
        exact ⟨(⟨#[115, 119, 97, 112]⟩, true, true, true, false, .fn 51 []), [0, 1, 2, 3, 4, 5, _, _], [], Sub.mk' rfl ⟨.inl rfl, rfl, rfl, .inl rfl, ⟨rfl, rfl⟩, ⟨rfl, rfl⟩, .inl rfl, .inl rfl, .inl rfl, trivial⟩ ⟨⟨rfl, ⟨rfl, rfl⟩, trivial⟩, ⟨rfl, rfl, rfl, rfl⟩, ⟨rfl, .inl rfl, .inl rfl, .inl rfl, .inl rfl, .inl rfl, .inl rfl, .inl rfl, trivial⟩, ⟨rfl, .inl rfl, .inl rfl, .inl rfl, .inl rfl, .inl rfl, ⟨rfl, trivial⟩, trivial⟩, trivial⟩ rfl rfl, ⟨rfl, .inr (.inr (.inl ⟨rfl, fun _ => rfl⟩))⟩⟩
      · conv => whnf
        refine acall.pure _ (t_forms) rfl rfl ?_
        conv => whnf
        refine ⟨of_decide_eq_true rfl, of_decide_eq_true rfl, of_decide_eq_true rfl, ?_⟩
        conv => whnf
        refine ⟨by kernel_rfl, fun _ => ?_⟩
        conv => whnf
        exact ⟨(⟨#[102, 101, 110, 99, 101]⟩, false, false, false, false, alwA 0), [0, 1, 2, 3, 4, 5, _, _], [], Sub.mk' rfl ⟨.inl rfl, rfl, rfl, .inl rfl, ⟨rfl, rfl⟩, ⟨rfl, rfl⟩, .inl rfl, .inl rfl, .inl rfl, trivial⟩ ⟨⟨rfl, ⟨rfl, rfl⟩, trivial⟩, ⟨rfl, rfl, rfl, rfl⟩, ⟨rfl, .inl rfl, .inl rfl, .inl rfl, .inl rfl, .inl rfl, .inl rfl, .inl rfl, trivial⟩, ⟨rfl, .inl rfl, .inl rfl, .inl rfl, .inl rfl, .inl rfl, ⟨rfl, rfl, trivial⟩, trivial⟩, trivial⟩ rfl rfl, ⟨rfl, .inl ⟨0, rfl, fun _ => rfl⟩⟩⟩
      · conv => whnf
        refine acall.pure _ (t_forms) rfl rfl ?_
        conv => whnf
        refine ⟨of_decide_eq_true rfl, of_decide_eq_true rfl, of_decide_eq_true rfl, ?_⟩
        conv => whnf
        refine ⟨by kernel_rfl, fun _ => ?_⟩
        conv => whnf
        exact ⟨(⟨#[112, 114, 105, 110, 116]⟩, false, true, false, false, alwA 6), [0, 1, 2, 3, 4, 5, _, _], [], Sub.mk' rfl ⟨.inl rfl, rfl, rfl, .inl rfl, ⟨rfl, rfl⟩, ⟨rfl, rfl⟩, .inl rfl, .inl rfl, .inl rfl, trivial⟩ ⟨⟨rfl, ⟨rfl, rfl⟩, trivial⟩, ⟨rfl, rfl, rfl, rfl⟩, ⟨rfl, .inl rfl, .inl rfl, .inl rfl, .inl rfl, .inl rfl, .inl rfl, .inl rfl, trivial⟩, ⟨rfl, .inl rfl, .inl rfl, .inl rfl, .inl rfl, .inl rfl, ⟨rfl, rfl, trivial⟩, trivial⟩, trivial⟩ rfl rfl, ⟨rfl, .inl ⟨6, rfl, fun _ => rfl⟩⟩⟩
      · conv => whnf
        refine acall.pure _ (t_forms) rfl rfl ?_
        conv => whnf
        refine ⟨of_decide_eq_true rfl, of_decide_eq_true rfl, of_decide_eq_true rfl, ?_⟩
        conv => whnf
        refine ⟨by kernel_rfl, fun _ => ?_⟩
        conv => whnf
        exact ⟨(⟨#[104, 97, 108, 116]⟩, false, false, false, false, alwA 7), [0, 1, 2, 3, 4, 5, _, _], [], Sub.mk' rfl ⟨.inl rfl, rfl, rfl, .inl rfl, ⟨rfl, rfl⟩, ⟨rfl, rfl⟩, .inl rfl, .inl rfl, .inl rfl, trivial⟩ ⟨⟨rfl, ⟨rfl, rfl⟩, trivial⟩, ⟨rfl, rfl, rfl, rfl⟩, ⟨rfl, .inl rfl, .inl rfl, .inl rfl, .inl rfl, .inl rfl, .inl rfl, .inl rfl, trivial⟩, ⟨rfl, .inl rfl, .inl rfl, .inl rfl, .inl rfl, .inl rfl, ⟨rfl, rfl, trivial⟩, trivial⟩, trivial⟩ rfl rfl, ⟨rfl, .inl ⟨7, rfl, fun _ => rfl⟩⟩⟩
      · conv => whnf
        refine acall.pure _ (t_forms) rfl rfl ?_
        conv => whnf
        refine ⟨of_decide_eq_true rfl, of_decide_eq_true rfl, of_decide_eq_true rfl, ?_⟩
        conv => whnf
        refine ⟨by kernel_rfl, fun _ => ?_⟩
        conv => whnf
        exact ⟨(⟨#[100, 114, 97, 105, 110]⟩, true, true, false, false, .fn 52 []), [0, 1, 2, 3, 4, 5, _, _], [], Sub.mk' rfl ⟨.inl rfl, rfl, rfl, .inl rfl, ⟨rfl, rfl⟩, ⟨rfl, rfl⟩, .inl rfl, .inl rfl, .inl rfl, trivial⟩ ⟨⟨rfl, ⟨rfl, rfl⟩, trivial⟩, ⟨rfl, rfl, rfl, rfl⟩, ⟨rfl, .inl rfl, .inl rfl, .inl rfl, .inl rfl, .inl rfl, .inl rfl, .inl rfl, trivial⟩, ⟨rfl, .inl rfl, .inl rfl, .inl rfl, .inl rfl, .inl rfl, ⟨rfl, trivial⟩, trivial⟩, trivial⟩ rfl rfl, ⟨rfl, .inr (.inr (.inr ⟨rfl, fun _ => rfl⟩))⟩⟩
      · omega
    rintro ⟨wd, fa, f1, f2, f3, ev⟩ ⟨hfa, hok⟩ -
    simp only at hfa hok
    clear hk hk0
    conv => whnf
    refine CutL.by (fun x : Int × Int => ⟨[(0, yldT y), (1, .ept [didsT l]), (2, .ept [intsT memory, ti shared, ti locks, ti buffer, coresT cores]), (4, .tr (ti j)), (5, .ptr 6 0), (6, .ptr 7 0), (7, .tr (ti x.1)), (8, .tr (ti x.2)), (10, .tr (didsT l)), (11, .tr (ti (l.length : Int))), (12, .tr (ti j))], [(1, .cells 61 [.sl 5 out.length]), (5, evV out), (6, diB d), (7, .cells 69 [.tr (ts wd), .tr (tb fa), .tr (tb f1), .tr (tb f2), .tr (tb f3), ev])], 10⟩) (fun x => whD o' d = x) ?_ ?_
    · subst hO
      obtain ⟨dk, dc, da, dd, dw, dp, dn⟩ := d
      simp only at hfa
      clear hEj hEV hrd
      rcases hok with ⟨k, rfl, -⟩ | ⟨rfl, -⟩ | ⟨rfl, -⟩ | ⟨rfl, -⟩
      all_goals (
        cases fa
        · conv => whnf
          exact ⟨(0, 0), [0, 1, 2, 3, 4, 5, 6, 7], [], Sub.mk' rfl ⟨.inl rfl, rfl, rfl, .inl rfl, ⟨rfl, rfl⟩, ⟨rfl, rfl⟩, .inl rfl, .inl rfl, .inl rfl, .inl rfl, .inl rfl, trivial⟩ ⟨⟨rfl, ⟨rfl, rfl⟩, trivial⟩, ⟨rfl, rfl, rfl, rfl⟩, ⟨rfl, .inl rfl, .inl rfl, .inl rfl, .inl rfl, .inl rfl, .inl rfl, .inl rfl, trivial⟩, ⟨rfl, .inl rfl, .inl rfl, .inl rfl, .inl rfl, .inl rfl, (by first | exact ⟨rfl, rfl, trivial⟩ | exact ⟨rfl, trivial⟩), trivial⟩, trivial⟩ rfl rfl, whD_no hfa.symm⟩
        · conv => whnf
          refine csplit (fun g1 => ?_) (fun g1 => ?_)
          · conv => whnf
            refine ⟨by kernel_rfl, fun _ => ?_⟩
            conv => whnf
            exact ⟨(1, dd), [0, 1, 2, 3, 4, 5, 6, 7], [], Sub.mk' rfl ⟨.inl rfl, rfl, rfl, .inl rfl, ⟨rfl, rfl⟩, ⟨rfl, rfl⟩, .inl rfl, .inl rfl, .inl rfl, .inl rfl, .inl rfl, trivial⟩ ⟨⟨rfl, ⟨rfl, rfl⟩, trivial⟩, ⟨rfl, rfl, rfl, rfl⟩, ⟨rfl, .inl rfl, .inl rfl, .inl rfl, .inl rfl, .inl rfl, .inl rfl, .inl rfl, trivial⟩, ⟨rfl, .inl rfl, .inl rfl, .inl rfl, .inl rfl, .inl rfl, (by first | exact ⟨rfl, rfl, trivial⟩ | exact ⟨rfl, trivial⟩), trivial⟩, trivial⟩ rfl rfl, whD_var hfa.symm g1⟩
          · conv => whnf
            refine csplit (fun g2 => ?_) (fun g2 => ?_)
            · conv => whnf
              refine ⟨by kernel_rfl, fun _ => ?_⟩
              conv => whnf
              exact ⟨(2, wrp (dd - shared)), [0, 1, 2, 3, 4, 5, 6, 7], [], Sub.mk' rfl ⟨.inl rfl, rfl, rfl, .inl rfl, ⟨rfl, rfl⟩, ⟨rfl, rfl⟩, .inl rfl, .inl rfl, .inl rfl, .inl rfl, .inl rfl, trivial⟩ ⟨⟨rfl, ⟨rfl, rfl⟩, trivial⟩, ⟨rfl, rfl, rfl, rfl⟩, ⟨rfl, .inl rfl, .inl rfl, .inl rfl, .inl rfl, .inl rfl, .inl rfl, .inl rfl, trivial⟩, ⟨rfl, .inl rfl, .inl rfl, .inl rfl, .inl rfl, .inl rfl, (by first | exact ⟨rfl, rfl, trivial⟩ | exact ⟨rfl, trivial⟩), trivial⟩, trivial⟩ rfl rfl, whD_lock hfa.symm g1 g2⟩
            · conv => whnf
              exact ⟨(0, 0), [0, 1, 2, 3, 4, 5, 6, 7], [], Sub.mk' rfl ⟨.inl rfl, rfl, rfl, .inl rfl, ⟨rfl, rfl⟩, ⟨rfl, rfl⟩, .inl rfl, .inl rfl, .inl rfl, .inl rfl, .inl rfl, trivial⟩ ⟨⟨rfl, ⟨rfl, rfl⟩, trivial⟩, ⟨rfl, rfl, rfl, rfl⟩, ⟨rfl, .inl rfl, .inl rfl, .inl rfl, .inl rfl, .inl rfl, .inl rfl, .inl rfl, trivial⟩, ⟨rfl, .inl rfl, .inl rfl, .inl rfl, .inl rfl, .inl rfl, (by first | exact ⟨rfl, rfl, trivial⟩ | exact ⟨rfl, trivial⟩), trivial⟩, trivial⟩ rfl rfl, whD_else hfa.symm g1 g2⟩)
    rintro ⟨w, th⟩ hwh -
    conv => whnf
    refine CutL.by (fun E : Int => ⟨[(0, yldT y), (1, .ept [didsT l]), (2, .ept [intsT memory, ti shared, ti locks, ti buffer, coresT cores]), (5, .ptr 6 0), (8, .tr (ti th)), (9, .ptr 7 0), (10, .tr (didsT l)), (11, .tr (ti (l.length : Int))), (12, .tr (ti j))], [(1, .cells 61 [.sl 5 out.length]), (5, evV out), (6, diB d), (7, evB ⟨E, d.core, 0, 0, 0, false, j⟩)], 10⟩) (fun E => evK w d = E) ?_ ?_
    · obtain ⟨dk, dc, da, dd, dw, dp, dn⟩ := d
      clear hEj hEV hrd hfa hwh
      rcases hok with ⟨k, rfl, hw⟩ | ⟨rfl, hw⟩ | ⟨rfl, hw⟩ | ⟨rfl, hw⟩
      · conv => whnf
        refine acall.au [] [] (k_always1 k w dk dc da dd dw dp dn) ?_
        conv => whnf
        refine ⟨by kernel_rfl, fun _ => ?_⟩
        conv => whnf
        exact ⟨k, [0, 1, 2, 3, 4, 5, 6, _], [], Sub.mk' rfl ⟨.inl rfl, rfl, rfl, ⟨rfl, rfl⟩, .inl rfl, ⟨rfl, rfl⟩, .inl rfl, .inl rfl, .inl rfl, trivial⟩ ⟨⟨rfl, ⟨rfl, rfl⟩, trivial⟩, ⟨rfl, rfl, rfl, rfl⟩, ⟨rfl, .inl rfl, .inl rfl, .inl rfl, .inl rfl, .inl rfl, .inl rfl, .inl rfl, trivial⟩, ⟨rfl, .inl rfl, .inl rfl, .inl rfl, .inl rfl, .inl rfl, .inl rfl, .inl rfl, trivial⟩, trivial⟩ rfl rfl, hw w⟩
      · conv => whnf
        refine acall.au [] [] (k_on1 1 w dk dc da dd dw dp dn) ?_
        conv => whnf
        refine ⟨by kernel_rfl, fun _ => ?_⟩
        conv => whnf
        exact ⟨onE 1 w, [0, 1, 2, 3, 4, 5, 6, _], [], Sub.mk' rfl ⟨.inl rfl, rfl, rfl, ⟨rfl, rfl⟩, .inl rfl, ⟨rfl, rfl⟩, .inl rfl, .inl rfl, .inl rfl, trivial⟩ ⟨⟨rfl, ⟨rfl, rfl⟩, trivial⟩, ⟨rfl, rfl, rfl, rfl⟩, ⟨rfl, .inl rfl, .inl rfl, .inl rfl, .inl rfl, .inl rfl, .inl rfl, .inl rfl, trivial⟩, ⟨rfl, .inl rfl, .inl rfl, .inl rfl, .inl rfl, .inl rfl, .inl rfl, .inl rfl, trivial⟩, trivial⟩ rfl rfl, hw w⟩
      · conv => whnf
        refine acall.au [] [] (k_swapped w dk dc da dd dw dp dn) ?_
        conv => whnf
        refine ⟨by kernel_rfl, fun _ => ?_⟩
        conv => whnf
        exact ⟨swE w dw dp, [0, 1, 2, 3, 4, 5, 6, _], [], Sub.mk' rfl ⟨.inl rfl, rfl, rfl, ⟨rfl, rfl⟩, .inl rfl, ⟨rfl, rfl⟩, .inl rfl, .inl rfl, .inl rfl, trivial⟩ ⟨⟨rfl, ⟨rfl, rfl⟩, trivial⟩, ⟨rfl, rfl, rfl, rfl⟩, ⟨rfl, .inl rfl, .inl rfl, .inl rfl, .inl rfl, .inl rfl, .inl rfl, .inl rfl, trivial⟩, ⟨rfl, .inl rfl, .inl rfl, .inl rfl, .inl rfl, .inl rfl, .inl rfl, .inl rfl, trivial⟩, trivial⟩ rfl rfl, hw w⟩
      · conv => whnf
        refine acall.au [] [] (k_drained w dk dc da dd dw dp dn) ?_
        conv => whnf
        refine ⟨by kernel_rfl, fun _ => ?_⟩
        conv => whnf
        exact ⟨drE w dw, [0, 1, 2, 3, 4, 5, 6, _], [], Sub.mk' rfl ⟨.inl rfl, rfl, rfl, ⟨rfl, rfl⟩, .inl rfl, ⟨rfl, rfl⟩, .inl rfl, .inl rfl, .inl rfl, trivial⟩ ⟨⟨rfl, ⟨rfl, rfl⟩, trivial⟩, ⟨rfl, rfl, rfl, rfl⟩, ⟨rfl, .inl rfl, .inl rfl, .inl rfl, .inl rfl, .inl rfl, .inl rfl, .inl rfl, trivial⟩, ⟨rfl, .inl rfl, .inl rfl, .inl rfl, .inl rfl, .inl rfl, .inl rfl, .inl rfl, trivial⟩, trivial⟩ rfl rfl, hw w⟩
    clear hok
    rintro E hE -
    have hth : (whD o' d).2 = th := by rw [hwh]
    replace hE : evK (whD o' d).1 d = E := by rw [hwh]; exact hE
    rw [evD_eq hE hth] at hEj
    clear hE hth hO hwh
    obtain ⟨dk, dc, da, dd, dw, dp, dn⟩ := d
    simp only at hEj
    conv => whnf
    refine CutL.by (fun e : Evt => ⟨[(0, yldT y), (1, .ept [didsT l]), (2, .ept [intsT memory, ti shared, ti locks, ti buffer, coresT cores]), (9, .ptr 6 0), (10, .tr (didsT l)), (11, .tr (ti (l.length : Int))), (12, .tr (ti j))], [(1, .cells 61 [.sl 5 out.length]), (5, evV out), (6, evB e)], 10⟩) (fun e => EV = out ++ ([e] ++ evL o' (l.drop (j + 1)) (j + 1))) ?_ ?_
    · conv => whnf
      refine csplit (fun e0 => ?_) (fun e0 => ?_)
      · conv => whnf
        refine ⟨fun h => absurd h (by decide), fun _ => ?_⟩
        conv => whnf
        refine ⟨fun _ => ?_, fun h => absurd rfl h⟩
        conv => whnf
        have e0 : (E == 0) = true := e0
        exact ⟨(out, j + 1), [0, 1, 2, 3, 4, 5], [], Sub.mk' rfl ⟨.inl rfl, rfl, rfl, .inl rfl, .inl rfl, .inl (ti_succ hlt hl63), trivial⟩ ⟨⟨rfl, ⟨rfl, rfl⟩, trivial⟩, ⟨rfl, rfl, rfl, rfl⟩, trivial⟩ rfl rfl, ⟨hlt, by show out.length ≤ j + 1; omega, by rw [hEj, e0]; rfl⟩, by show l.length - (j + 1) < l.length - j; omega⟩
      replace e0 : (E == 0) = false := e0
      rw [e0] at hEj
      conv => whnf
      refine csplit (fun e1 => ?_) (fun e1 => ?_)
      · replace e1 : (E == 1) = true := e1
        conv => whnf
        refine csplit (fun _ => ?_) (fun g => ctf e1 g)
        conv => whnf
        refine ⟨by kernel_rfl, fun _ => ?_⟩
        conv => whnf
        exact ⟨⟨E, dc, th, dw, dp, dn, j⟩, [0, 1, 2, 3, 4, 5, _], [], Sub.mk' rfl ⟨.inl rfl, rfl, rfl, ⟨rfl, rfl⟩, .inl rfl, .inl rfl, .inl rfl, trivial⟩ ⟨⟨rfl, ⟨rfl, rfl⟩, trivial⟩, ⟨rfl, rfl, rfl, rfl⟩, ⟨rfl, .inl rfl, .inl rfl, .inl rfl, .inl rfl, .inl rfl, .inl rfl, .inl rfl, trivial⟩, trivial⟩ rfl rfl, by rw [hEj, e1]; rfl⟩
      replace e1 : (E == 1) = false := e1
      conv => whnf
      refine csplit (fun e2 => ?_) (fun e2 => ?_)
      · replace e2 : (E == 2) = true := e2
        conv => whnf
        refine csplit (fun _ => ?_) (fun g => ctf e2 g)
        conv => whnf
        refine ⟨by kernel_rfl, fun _ => ?_⟩
        conv => whnf
        exact ⟨⟨E, dc, th, dw, dp, dn, j⟩, [0, 1, 2, 3, 4, 5, _], [], Sub.mk' rfl ⟨.inl rfl, rfl, rfl, ⟨rfl, rfl⟩, .inl rfl, .inl rfl, .inl rfl, trivial⟩ ⟨⟨rfl, ⟨rfl, rfl⟩, trivial⟩, ⟨rfl, rfl, rfl, rfl⟩, ⟨rfl, .inl rfl, .inl rfl, .inl rfl, .inl rfl, .inl rfl, .inl rfl, .inl rfl, trivial⟩, trivial⟩ rfl rfl, by rw [hEj, e1, e2]; rfl⟩
      replace e2 : (E == 2) = false := e2
      conv => whnf
      refine csplit (fun e3 => ?_) (fun e3 => ?_)
      · replace e3 : (E == 3) = true := e3
        conv => whnf
        refine ⟨by kernel_rfl, fun _ => ?_⟩
        conv => whnf
        exact ⟨⟨E, dc, th, dw, dp, dn, j⟩, [0, 1, 2, 3, 4, 5, _], [], Sub.mk' rfl ⟨.inl rfl, rfl, rfl, ⟨rfl, rfl⟩, .inl rfl, .inl rfl, .inl rfl, trivial⟩ ⟨⟨rfl, ⟨rfl, rfl⟩, trivial⟩, ⟨rfl, rfl, rfl, rfl⟩, ⟨rfl, .inl rfl, .inl rfl, .inl rfl, .inl rfl, .inl rfl, .inl rfl, .inl rfl, trivial⟩, trivial⟩ rfl rfl, by rw [hEj, e1, e2, e3]; rfl⟩
      replace e3 : (E == 3) = false := e3
      conv => whnf
      refine csplit (fun e4 => ?_) (fun e4 => ?_)
      · replace e4 : (E == 4) = true := e4
        conv => whnf
        refine csplit (fun _ => ?_) (fun g => ctf e4 g)
        conv => whnf
        exact ⟨⟨E, dc, th, 0, 0, false, j⟩, [0, 1, 2, 3, 4, 5, _], [], Sub.mk' rfl ⟨.inl rfl, rfl, rfl, ⟨rfl, rfl⟩, .inl rfl, .inl rfl, .inl rfl, trivial⟩ ⟨⟨rfl, ⟨rfl, rfl⟩, trivial⟩, ⟨rfl, rfl, rfl, rfl⟩, ⟨rfl, .inl rfl, .inl rfl, .inl rfl, .inl rfl, .inl rfl, .inl rfl, .inl rfl, trivial⟩, trivial⟩ rfl rfl, by rw [hEj, e1, e2, e3, e4]; rfl⟩
      replace e4 : (E == 4) = false := e4
      conv => whnf
      refine csplit (fun e5 => ?_) (fun e5 => ?_)
      · replace e5 : (E == 5) = true := e5
        conv => whnf
        exact ⟨⟨E, dc, th, 0, 0, false, j⟩, [0, 1, 2, 3, 4, 5, _], [], Sub.mk' rfl ⟨.inl rfl, rfl, rfl, ⟨rfl, rfl⟩, .inl rfl, .inl rfl, .inl rfl, trivial⟩ ⟨⟨rfl, ⟨rfl, rfl⟩, trivial⟩, ⟨rfl, rfl, rfl, rfl⟩, ⟨rfl, .inl rfl, .inl rfl, .inl rfl, .inl rfl, .inl rfl, .inl rfl, .inl rfl, trivial⟩, trivial⟩ rfl rfl, by rw [hEj, e1, e2, e3, e4, e5]; rfl⟩
      replace e5 : (E == 5) = false := e5
      conv => whnf
      refine csplit (fun e6 => ?_) (fun e6 => ?_)
      · replace e6 : (E == 6) = true := e6
        conv => whnf
        exact ⟨⟨E, dc, 0, dw, 0, false, j⟩, [0, 1, 2, 3, 4, 5, _], [], Sub.mk' rfl ⟨.inl rfl, rfl, rfl, ⟨rfl, rfl⟩, .inl rfl, .inl rfl, .inl rfl, trivial⟩ ⟨⟨rfl, ⟨rfl, rfl⟩, trivial⟩, ⟨rfl, rfl, rfl, rfl⟩, ⟨rfl, .inl rfl, .inl rfl, .inl rfl, .inl rfl, .inl rfl, .inl rfl, .inl rfl, trivial⟩, trivial⟩ rfl rfl, by rw [hEj, e1, e2, e3, e4, e5, e6]; rfl⟩
      replace e6 : (E == 6) = false := e6
      conv => whnf
      exact ⟨⟨E, dc, 0, 0, 0, false, j⟩, [0, 1, 2, 3, 4, 5, _], [], Sub.mk' rfl ⟨.inl rfl, rfl, rfl, ⟨rfl, rfl⟩, .inl rfl, .inl rfl, .inl rfl, trivial⟩ ⟨⟨rfl, ⟨rfl, rfl⟩, trivial⟩, ⟨rfl, rfl, rfl, rfl⟩, ⟨rfl, .inl rfl, .inl rfl, .inl rfl, .inl rfl, .inl rfl, .inl rfl, .inl rfl, trivial⟩, trivial⟩ rfl rfl, by rw [hEj, e1, e2, e3, e4, e5, e6]; rfl⟩
    · rintro ⟨ek, ec, et, ew, ep, en, ea⟩ hE2 -
      conv => whnf
      refine yield_region (y := YRec.mk _ _ _ _ _) (pre := [_, _]) (r := [_]) hT rfl rfl rfl rfl (by decide) rfl rfl ?_
      conv => whnf
      refine ⟨rfl, rfl, rfl, _, rfl, rfl, ?_⟩
      conv => whnf
      refine ⟨rfl, rfl, rfl, (by rw [List.length_map]; exact Nat.le_refl _), (show (out.length + 1) * 56 ≤ 150000000000000 by omega), fun q hq => ?_, ?_⟩
      · cases hq with
        | head => exact Nat.ne_of_beq_eq_false rfl
        | tail _ h => cases h
      conv => whnf
      refine ⟨rfl, rfl, ?_⟩
      conv => whnf
      have hda : (out.map Evt.cells).take out.length ++ [[tu ek, ti ec, ti et, ti ew, ti ep, tb en, ti ea]] = (out ++ [Evt.mk ek ec et ew ep en ea]).map Evt.cells := by rw [List.take_of_length_le (by simp), List.map_append]; rfl
      exact ⟨(out ++ [Evt.mk ek ec et ew ep en ea], j + 1), [0, 1, 2, 3, 4, _], [], Sub.mk' rfl ⟨.inl rfl, rfl, rfl, .inl rfl, .inl rfl, .inl (ti_succ hlt hl63), trivial⟩ ⟨⟨rfl, ⟨rfl, by simp⟩, trivial⟩, ⟨rfl, rfl, rfl, hda⟩, trivial⟩ rfl rfl, ⟨hlt, by show (out ++ _).length ≤ j + 1; simp; omega, by rw [hE2, List.append_assoc]⟩, by show l.length - (j + 1) < l.length - j; omega⟩
  · have hge : j = l.length := by have : ¬ ((j : Nat) : Int) < (l.length : Int) := of_decide_eq_false hge; omega
    subst hge
    rw [List.drop_length] at hEj
    have hEj : EV = out := by rw [hEj]; exact List.append_nil _
    subst hEj
    conv => whnf
    refine ⟨fun _ => ?_, fun h => absurd rfl h⟩
    conv => whnf
    refine ⟨.inl rfl, rfl, ?_⟩
    conv => whnf
    exact ⟨.inr rfl, [], rfl, rfl, ⟨⟨rfl, by rw [List.length_map]; exact Nat.le_refl _, by rw [List.take_of_length_le (by simp)]⟩, .inl rfl, trivial⟩, trivial⟩
end Go.Proofs.YtcpolpbeimhgfaaGreatDoor.am

namespace Go.Proofs.YtcpolpbeimhgfaaGreatDoor.ws
open Go Go.RowKit Go.Lib
set_option maxRecDepth 100000

theorem bcell {W w1 : World} (hb : Below W.heap.size W w1) : ∀ b o, b < W.heap.size → w1.cell? ⟨b, o, none⟩ = W.cell? ⟨b, o, none⟩ :=
  fun b o h => hb.cell (p := ⟨b, o, none⟩) h
theorem conv_one (B : Nat) (d : Nat) (hd : d < 10) (W : World) (hc : W.cell? ⟨B, 0, none⟩ = some (.int .u8 (48 + (d : Int)))) :
    (convert 33 9 (.slice (some ⟨B, 0, none⟩) 1 1)).run Tryz.prog W = .ok (.string ⟨[dch d].toArray⟩) W := by
  refine run_convert_bytes_back W 33 9 5 ⟨B, 0, none⟩ 1 [dch d] Tryz.underlying33 Tryz.underlying5 Tryz.underlying9 fun j hj => ?_
  obtain rfl : j = 0 := by simpa using hj
  show W.cell? ⟨B, 0, none⟩ = some (.int .u8 (dch d).toNat)
  rw [hc, dch_toNat hd]
  rfl

set_option maxHeartbeats 1000000 in
theorem digits_small (n : Nat) (w : World) (hn : n < 10) :
    Calls Tryz.prog 46 #[.int .u64 n] w fun e w' => e = .returned (.string ⟨(dig n).toArray⟩) ∧ Below w.heap.size w w' := by
  have hcv := conv_one w.heap.size n hn (w.alloc (.cells #[.int .u8 (48 + (n : Int))] 5)) (by rw [World.cell?_alloc_at _ _ _ _ rfl]; rfl)
  have D := Lib.hid (dig_small hn)
  go_enter Tryz.func46, Tryz.ntmps46
  go_wp2
  go_ret
  exact ⟨ret_str (by rw [D.out]), (Below.refl _ _).alloc (Nat.le_refl _) _⟩

set_option maxHeartbeats 1000000 in
theorem digits_big (n : Nat) (w : World) (hn : 10 ≤ n) (hb : n < 18446744073709551616)
    (ih : ∀ w, Calls Tryz.prog 46 #[.int .u64 ((n : Int) / 10)] w fun e w' => e = .returned (.string ⟨(dig (n / 10)).toArray⟩) ∧ Below w.heap.size w w') :
    Calls Tryz.prog 46 #[.int .u64 n] w fun e w' => e = .returned (.string ⟨(dig n).toArray⟩) ∧ Below w.heap.size w w' := by
  have IH := Lib.hid ih
  clear ih
  have hcv : ∀ (B : Nat) (W : World), W.cell? ⟨B, 0, none⟩ = some (.int .u8 (48 + (n : Int) % 10)) → (convert 33 9 (.slice (some ⟨B, 0, none⟩) 1 1)).run Tryz.prog W = .ok (.string ⟨[dch (n % 10)].toArray⟩) W :=
    fun B W h => conv_one B (n % 10) (by omega) W h
  have D := Lib.hid (dig_big (n := n) (by omega))
  have hlen := dig_len64 (n := n / 10) (by omega)
  have q1 : IntKind.u64.wrap ((n : Int) / 10) = (n : Int) / 10 := IntWalk.u64_in _ (by omega)
  have q2 : (n : Int).tmod 10 = (n : Int) % 10 := IntWalk.rem_in _ _ (by omega)
  have q3 : IntKind.u64.wrap (48 + (n : Int) % 10) = 48 + (n : Int) % 10 := IntWalk.u64_in _ (by omega)
  have q4 : IntKind.u8.wrap (48 + (n : Int) % 10) = 48 + (n : Int) % 10 := IntWalk.u8_in _ (by omega)
  go_enter Tryz.func46, Tryz.ntmps46
  go_wp2
  go_region_with (go_at_call 46; refine (IH.out _).mono ?_; rintro e w1 ⟨rfl, hb1⟩; have hc1 := bcell hb1)
  all_goals
    go_wp2
    go_ret
    refine ⟨ret_str (by rw [D.out]; apply ByteArray.ext; simp [ByteArray.data_append]), ?_⟩
    first
      | exact ((Below.refl w.heap.size w).drew.trans (hb1.mono (Nat.le_refl _))).alloc hb1.size _
      | exact ((Below.refl w.heap.size w).alloc (Nat.le_refl _) _).drew.trans (hb1.mono (by simp))

theorem digits_any : ∀ (k n : Nat) (w : World), n < 10 ^ (k + 1) → n < 18446744073709551616 →
    Calls Tryz.prog 46 #[.int .u64 n] w fun e w' => e = .returned (.string ⟨(dig n).toArray⟩) ∧ Below w.heap.size w w'
  | 0, n, w, h, _ => digits_small n w (by simpa using h)
  | k + 1, n, w, h, hb => by
    by_cases hn : n < 10
    · exact digits_small n w hn
    · exact digits_big n w (by omega) hb fun w => digits_any k (n / 10) w (by rw [Nat.pow_succ] at h; omega) (by omega)
theorem digits64 (n : Nat) (w : World) (hb : n < 18446744073709551616) :
    Calls Tryz.prog 46 #[.int .u64 n] w fun e w' => e = .returned (.string ⟨(dig n).toArray⟩) ∧ Below w.heap.size w w' :=
  digits_any 19 n w (Nat.lt_trans hb (by decide)) hb

set_option maxHeartbeats 1000000 in
theorem rprint_pos (N : Nat) (w : World) (hN : N ≤ 9223372036854775807) :
    Calls Tryz.prog 31 #[.int .i64 N] w fun e w' => e = .returned (.string ⟨(prn N).toArray⟩) ∧ Below w.heap.size w w' := by
  have R : Hid (prn N = dig N) := by
    show prn N = dig N
    unfold prn; rw [if_neg (by omega)]; rfl
  go_enter Tryz.func31, Tryz.ntmps31
  go_wp2_with (go_at_call 46; refine (digits64 _ _ (by omega)).mono ?_; rintro e w1 ⟨rfl, hb1⟩)
  go_ret
  exact ⟨ret_str (by rw [R.out]), hb1⟩

set_option maxHeartbeats 1000000 in
theorem rprint_neg (N : Nat) (w : World) (hN : N ≤ 9223372036854775808) (h0 : 0 < N) :
    Calls Tryz.prog 31 #[.int .i64 (-(N : Int))] w fun e w' => e = .returned (.string ⟨(prn (-(N : Int))).toArray⟩) ∧ Below w.heap.size w w' := by
  have R : Hid (prn (-(N : Int)) = 45 :: dig N) := by
    show prn _ = _
    unfold prn; rw [if_pos (by omega), Int.neg_neg]; rfl
  have hlt : -(N : Int) < 0 := by omega
  have hlen := dig_len64 (n := N) (by omega)
  have hw : IntKind.u64.wrap (-(IntKind.u64.wrap (-(N : Int)))) = N := by rw [IntKind.wrap_u64, IntKind.wrap_u64]; omega
  go_enter Tryz.func31, Tryz.ntmps31
  go_wp2_with (go_at_call 46; refine (digits64 N _ (by omega)).mono ?_; rintro e w1 ⟨rfl, hb1⟩)
  go_ret
  exact ⟨ret_str (by rw [R.out]; apply ByteArray.ext; simp [ByteArray.data_append]), hb1⟩

theorem rprint_any (v : Int) (w : World) (h1 : -9223372036854775808 ≤ v) (h2 : v ≤ 9223372036854775807) :
    Calls Tryz.prog 31 #[.int .i64 v] w fun e w' => e = .returned (.string ⟨(prn v).toArray⟩) ∧ Below w.heap.size w w' := by
  by_cases h : 0 ≤ v
  · obtain ⟨N, rfl⟩ := Int.eq_ofNat_of_zero_le h
    exact rprint_pos N w (by omega)
  · obtain ⟨N, hN⟩ := Int.eq_ofNat_of_zero_le (a := -v) (by omega)
    obtain rfl : v = -(N : Int) := by omega
    exact rprint_neg N w (by omega) (by omega)
end Go.Proofs.YtcpolpbeimhgfaaGreatDoor.ws

namespace Go.Proofs.YtcpolpbeimhgfaaGreatDoor.ws
open Go Go.RowKit Go.Lib

set_option maxHeartbeats 4000000 in
theorem rparse_neg (s : ByteArray) (w : World) (hs : s.size ≤ 9223372036854775807) (hne : 0 < s.size) (h0 : (s[0]'hne).toNat = 45) :
    Calls Tryz.prog 39 #[.string s] w fun e w' => e = .returned (.tuple #[.int .i64 (prs s.data.toList).1, .int .i64 (prs s.data.toList).2.1, .int .i64 (prs s.data.toList).2.2]) ∧ w = w' := by
  have P := Lib.hid (prs_neg hne h0)
  have hN : (((s[0]'hne).toNat : Int) == 45) = true := by simp; omega
  clear h0
  have hlt : 1 ≤ s.size := by omega
  go_enter Tryz.func39, Tryz.ntmps39
  go_wp2_with fail
  go_loop [8, 6] (fun n i => ∃ N k : Nat, 1 ≤ k ∧ k ≤ s.size ∧ n = .int .u64 N ∧ i = .int .i64 k ∧ N ≤ most true ∧ (k = 1 → N = 0) ∧ Hid (prs s.data.toList = pgo true 1 (s.data.toList.drop k) k N)) (fun _ i => s.size - (intOf i).toNat)
  case atStart => exact ⟨0, 1, by omega, by omega, rfl, rfl, by omega, fun _ => rfl, P.out⟩
  case round =>
    obtain ⟨N, k, hk1, hk, rfl, rfl, hm, hk0, H⟩ := hrel
    have hml := most_le true
    have HK := Lib.hid hk0
    clear hk0
    by_cases hlt' : k < s.size
    · have D' := Lib.hid (drop_at s k hlt')
      by_cases b : s[k].toNat < 48 ∨ 57 < s[k].toNat ∨ (1 < k ∧ N = 0) ∨ (k = 1 ∧ s[k].toNat = 48)
      · have R := Lib.hid (show prs s.data.toList = (0, 10, (k : Int)) from by rw [H.out, D'.out]; exact pgo_bad (by simp only [bad, decide_eq_true_eq]; simp only [true_and]; omega))
        have b' : s[k].toNat < 48 ∨ 57 < s[k].toNat ∨ (48 ≤ s[k].toNat ∧ s[k].toNat ≤ 57 ∧ 1 < k ∧ N = 0) ∨ (48 ≤ s[k].toNat ∧ s[k].toNat ≤ 57 ∧ k = 1 ∧ s[k].toNat = 48) := by omega
        clear b
        rcases b' with b | b | ⟨c1, c2, b, rfl⟩ | ⟨c1, c2, rfl, b⟩
        case inr.inr.inr =>
          have b3 : ((s[1].toNat : Int) == 48) = true := by simp; omega
          clear b
          go_wp2
          go_ret3; rw [R.out]; exact ⟨ret_int3 rfl rfl (by first | rfl | (dsimp only; omega)), rfl⟩
        all_goals
          go_wp2
          all_goals first | (exfalso; omega) | (go_ret3; rw [R.out]; exact ⟨ret_int3 rfl rfl (by first | rfl | (dsimp only; omega)), rfl⟩)
      · have c1 : 48 ≤ s[k].toNat := by omega
        have c2 : s[k].toNat ≤ 57 := by omega
        have NB := Lib.hid (show ¬ (1 < k ∧ N = 0) by omega)
        have NC := Lib.hid (show ¬ (k = 1 ∧ s[k].toNat = 48) by omega)
        clear b
        obtain ⟨d, hd⟩ : ∃ d : Nat, d = s[k].toNat - 48 := ⟨_, rfl⟩
        have hd9 : d ≤ 9 := by omega
        have hD := Lib.hid hd
        have hw : IntKind.u8.wrap ((s[k].toNat : Int) - 48) = (d : Int) := by rw [IntKind.wrap_u8]; omega
        clear hd
        have c3 : ((k = 1) ∨ (1 < k ∧ ((N : Int) == 0) = false)) ∧ (((s[k].toNat : Int) == 48) = true ∨ ((s[k].toNat : Int) == 48) = false) := by
          refine ⟨?_, by cases ((s[k].toNat : Int) == 48) <;> simp⟩
          have := NB.out
          by_cases hq : k = 1
          · exact .inl hq
          · refine .inr ⟨by omega, ?_⟩
            simp; omega
        by_cases ov : 10 * N + d ≤ most true
        · have NX := Lib.hid (show prs s.data.toList = pgo true 1 (s.data.toList.drop (k + 1)) (k + 1) (10 * N + d) from by
            rw [H.out, D'.out, hD.out]
            refine pgo_go (decide_eq_false ?_)
            have q1 := hD.out
            have q2 := NB.out
            rintro (h | h | h | ⟨h, h2, h3⟩ | h)
            · omega
            · omega
            · exact q2 h
            · exact NC.out ⟨h2, h3⟩
            · omega)
          have ov' : 10 * (N : Int) + d ≤ (most true : Nat) := by omega
          unfold most at ov' hm
          simp only [if_true] at ov' hm
          rcases c3 with ⟨c3 | ⟨c3, c4⟩, c5 | c5⟩
          · exact absurd ⟨c3, by simp at c5; omega⟩ NC.out
          all_goals
            try subst c3
            go_wp2
            all_goals first | (exfalso; omega) | skip
            go_round
            case rel => exact ⟨10 * N + d, _, by omega, by omega, num_u64 (by omega), by go_num, by omega, by omega, NX.out⟩
            case measure => simp [intOf]; omega
        · have R := Lib.hid (show prs s.data.toList = (0, 10, (k : Int)) from by
            rw [H.out, D'.out]
            refine pgo_bad (decide_eq_true ?_)
            have q1 := hD.out
            omega)
          have ov' : ((most true : Nat) : Int) < 10 * (N : Int) + d := by omega
          unfold most at ov' hm
          simp only [if_true] at ov' hm
          rcases c3 with ⟨c3 | ⟨c3, c4⟩, c5 | c5⟩
          · exact absurd ⟨c3, by simp at c5; omega⟩ NC.out
          all_goals
            try subst c3
            go_wp2
            all_goals first | (exfalso; omega) | (go_ret3; rw [R.out]; exact ⟨ret_int3 rfl rfl (by first | rfl | (dsimp only; omega)), rfl⟩)
    · obtain rfl : k = s.size := by omega
      by_cases hat : s.size = 1
      · have R := Lib.hid (show prs s.data.toList = (0, 10, (s.size : Int)) from by
          rw [H.out, drop_end s _ (Nat.le_refl _)]
          unfold pgo
          rw [if_pos hat])
        have hq : ((s.size : Int) == 1) = true := beq_iff_eq.2 (by omega)
        clear hat
        go_wp2
        all_goals first | (exfalso; omega) | (go_ret3; rw [R.out]; exact ⟨ret_int3 rfl rfl (by first | rfl | (dsimp only; omega)), rfl⟩)
      · have R := Lib.hid (show prs s.data.toList = (okV true N, 0, 0) from by
          rw [H.out, drop_end s _ (Nat.le_refl _)]
          unfold pgo
          rw [if_neg hat])
        have hq : ((s.size : Int) == 1) = false := beq_eq_false_iff_ne.2 (by omega)
        unfold most at hm
        simp only [if_true] at hm
        clear hat
        go_wp2
        go_ret3
        rw [R.out]
        exact ⟨ret_int3 (by show _ = -(N : Int); first | rfl | (simp only [wrap64, IntKind.wrap_u64]; omega)) rfl rfl, rfl⟩

end Go.Proofs.YtcpolpbeimhgfaaGreatDoor.ws

namespace Go.Proofs.YtcpolpbeimhgfaaGreatDoor.ws
open Go Go.RowKit Go.Lib

set_option maxHeartbeats 4000000 in
theorem rparse_pos (s : ByteArray) (w : World) (hs : s.size ≤ 9223372036854775807) (hne : 0 < s.size) (h0 : (s[0]'hne).toNat ≠ 45) :
    Calls Tryz.prog 39 #[.string s] w fun e w' => e = .returned (.tuple #[.int .i64 (prs s.data.toList).1, .int .i64 (prs s.data.toList).2.1, .int .i64 (prs s.data.toList).2.2]) ∧ w = w' := by
  have P := Lib.hid (prs_pos hne h0)
  have hN : (((s[0]'hne).toNat : Int) == 45) = false := by simp; omega
  clear h0
  have hlt : 0 ≤ s.size := by omega
  go_enter Tryz.func39, Tryz.ntmps39
  go_wp2_with fail
  go_loop [8, 6] (fun n i => ∃ N k : Nat, 0 ≤ k ∧ k ≤ s.size ∧ n = .int .u64 N ∧ i = .int .i64 k ∧ N ≤ most false ∧ (k = 0 → N = 0) ∧ Hid (prs s.data.toList = pgo false 0 (s.data.toList.drop k) k N)) (fun _ i => s.size - (intOf i).toNat)
  case atStart => exact ⟨0, 0, by omega, by omega, rfl, rfl, by omega, fun _ => rfl, P.out⟩
  case round =>
    obtain ⟨N, k, hk1, hk, rfl, rfl, hm, hk0, H⟩ := hrel
    have hml := most_le false
    have HK := Lib.hid hk0
    clear hk0
    by_cases hlt' : k < s.size
    · have D' := Lib.hid (drop_at s k hlt')
      by_cases b : s[k].toNat < 48 ∨ 57 < s[k].toNat ∨ (0 < k ∧ N = 0)
      · have R := Lib.hid (show prs s.data.toList = (0, 10, (k : Int)) from by rw [H.out, D'.out]; exact pgo_bad (by simp only [bad, decide_eq_true_eq]; omega))
        have b' : s[k].toNat < 48 ∨ 57 < s[k].toNat ∨ (48 ≤ s[k].toNat ∧ s[k].toNat ≤ 57 ∧ 0 < k ∧ N = 0) := by omega
        clear b
        rcases b' with b | b | ⟨c1, c2, b, rfl⟩
        all_goals
          go_wp2
          all_goals first | (exfalso; omega) | (go_ret3; rw [R.out]; exact ⟨ret_int3 rfl rfl (by first | rfl | (dsimp only; omega)), rfl⟩)
      · have c1 : 48 ≤ s[k].toNat := by omega
        have c2 : s[k].toNat ≤ 57 := by omega
        have NB := Lib.hid (show ¬ (0 < k ∧ N = 0) by omega)
        clear b
        obtain ⟨d, hd⟩ : ∃ d : Nat, d = s[k].toNat - 48 := ⟨_, rfl⟩
        have hd9 : d ≤ 9 := by omega
        have hD := Lib.hid hd
        have hw : IntKind.u8.wrap ((s[k].toNat : Int) - 48) = (d : Int) := by rw [IntKind.wrap_u8]; omega
        clear hd
        have c3 : ((k = 0) ∨ (0 < k ∧ ((N : Int) == 0) = false)) ∧ (((s[k].toNat : Int) == 48) = true ∨ ((s[k].toNat : Int) == 48) = false) := by
          refine ⟨?_, by cases ((s[k].toNat : Int) == 48) <;> simp⟩
          have := NB.out
          by_cases hq : k = 0
          · exact .inl hq
          · refine .inr ⟨by omega, ?_⟩
            simp; omega
        by_cases ov : 10 * N + d ≤ most false
        · have NX := Lib.hid (show prs s.data.toList = pgo false 0 (s.data.toList.drop (k + 1)) (k + 1) (10 * N + d) from by
            rw [H.out, D'.out, hD.out]
            refine pgo_go (decide_eq_false ?_)
            have q1 := hD.out
            have q2 := NB.out
            rintro (h | h | h | ⟨h, h2, h3⟩ | h)
            · omega
            · omega
            · exact q2 h
            · cases h
            · omega)
          have ov' : 10 * (N : Int) + d ≤ (most false : Nat) := by omega
          unfold most at ov' hm
          simp only [Bool.false_eq_true, if_false] at ov' hm
          rcases c3 with ⟨c3 | ⟨c3, c4⟩, c5 | c5⟩
          all_goals
            try subst c3
            go_wp2
            all_goals first | (exfalso; omega) | skip
            go_round
            case rel => exact ⟨10 * N + d, _, by omega, by omega, num_u64 (by omega), by go_num, by omega, by omega, NX.out⟩
            case measure => simp [intOf]; omega
        · have R := Lib.hid (show prs s.data.toList = (0, 10, (k : Int)) from by
            rw [H.out, D'.out]
            refine pgo_bad (decide_eq_true ?_)
            have q1 := hD.out
            omega)
          have ov' : ((most false : Nat) : Int) < 10 * (N : Int) + d := by omega
          unfold most at ov' hm
          simp only [Bool.false_eq_true, if_false] at ov' hm
          rcases c3 with ⟨c3 | ⟨c3, c4⟩, c5 | c5⟩
          all_goals
            try subst c3
            go_wp2
            all_goals first | (exfalso; omega) | (go_ret3; rw [R.out]; exact ⟨ret_int3 rfl rfl (by first | rfl | (dsimp only; omega)), rfl⟩)
    · obtain rfl : k = s.size := by omega
      by_cases hat : s.size = 0
      · have R := Lib.hid (show prs s.data.toList = (0, 10, (s.size : Int)) from by
          rw [H.out, drop_end s _ (Nat.le_refl _)]
          unfold pgo
          rw [if_pos hat])
        have hq : ((s.size : Int) == 0) = true := beq_iff_eq.2 (by omega)
        clear hat
        go_wp2
        all_goals first | (exfalso; omega) | (go_ret3; rw [R.out]; exact ⟨ret_int3 rfl rfl (by first | rfl | (dsimp only; omega)), rfl⟩)
      · have R := Lib.hid (show prs s.data.toList = (okV false N, 0, 0) from by
          rw [H.out, drop_end s _ (Nat.le_refl _)]
          unfold pgo
          rw [if_neg hat])
        have hq : ((s.size : Int) == 0) = false := beq_eq_false_iff_ne.2 (by omega)
        unfold most at hm
        simp only [Bool.false_eq_true, if_false] at hm
        clear hat
        go_wp2
        go_ret3
        rw [R.out]
        exact ⟨ret_int3 (by show _ = (N : Int); first | rfl | (simp only [wrap64, IntKind.wrap_u64]; omega)) rfl rfl, rfl⟩

end Go.Proofs.YtcpolpbeimhgfaaGreatDoor.ws

namespace Go.Proofs.YtcpolpbeimhgfaaGreatDoor.am
open Go Go.Proofs
set_option maxRecDepth 100000 in
set_option maxHeartbeats 1000000 in
theorem z_RightX (dk dc da dd dw dp : Int) (dn : Bool) : K 29 [didA dk dc da dd dw dp dn] [] (.ret (.tr (tb (rightD ⟨dk, dc, da, dd, dw, dp, dn⟩)))) [] := by
  refine Ctr.of hT hmix Tryz.func29 rfl (fun _ _ => by kernel_rfl) rfl fun hok => ?_
  clear hok
  generalize hR : rightD ⟨dk, dc, da, dd, dw, dp, dn⟩ = R
  unfold rightD outD usdD addrK at hR
  simp only at hR
  conv => whnf
  (repeat' (refine csplit (fun g => ?_) (fun g => ?_) <;> first | exact ctf g (by assumption) | exact ctf (by assumption) g | conv => whnf))
  all_goals (refine ⟨.inl (congrArg tb ?_), trivial⟩; rw [← hR]; clear hR; simp only [*, Bool.true_or, Bool.or_true, Bool.false_or, Bool.or_false, Bool.not_true, Bool.not_false, Bool.false_and, Bool.true_and, Bool.and_false, Bool.and_true, cond_true, cond_false])
theorem z_Right (d : Did) : K 29 [d.av] [] (.ret (.tr (tb (rightD d)))) [] := z_RightX d.kind d.core d.at_ d.addr d.word d.put d.own
end Go.Proofs.YtcpolpbeimhgfaaGreatDoor.am

namespace Go.Proofs.YtcpolpbeimhgfaaGreatDoor.am
open Go Go.Proofs
set_option maxRecDepth 100000 in
theorem z_Rights (l : List Did) : K 16 [.tr (didsT l)] [] (.ret (.tr (tb (l.all rightD)))) [] := by
  refine Ctr.of hT hmix Tryz.func16 rfl (fun _ _ => by kernel_rfl) rfl fun hok => ?_
  have hl : l.length ≤ 9223372036854775807 := by have := (hok.slot 0 rfl).tr.lst.2.1; rwa [List.length_map] at this
  clear hok
  have hlm : (l.map Did.cells).length = l.length := List.length_map ..
  conv => whnf
  refine LoopL.by (fun i : Nat => ⟨[(5, .tr (didsT l)), (6, .tr (ti (l.length : Int))), (7, .tr (ti i))], [], 10⟩) (fun i => i ≤ l.length ∧ l.all rightD = (l.drop i).all rightD) (fun i => l.length - i) 0 [] [] (Sub.mk' rfl ⟨.inl rfl, .inl (by rw [← hlm]), .inl rfl, trivial⟩ trivial rfl rfl) ⟨Nat.zero_le _, rfl⟩ ?_
  rintro i ⟨hi, hall⟩ -
  conv => whnf
  refine csplit (fun hlt => ?_) (fun hge => ?_)
  · have hlt : i < l.length := by have := of_decide_eq_true hlt; omega
    obtain ⟨d, hd⟩ : ∃ d, l[i]? = some d := ⟨l[i], by simp [hlt]⟩
    rw [all_drop hd] at hall
    conv => whnf
    refine ⟨rfl, (show (0 : Int) ≤ i by omega), (show (i : Int) < (l.map Did.cells).length by rw [hlm]; omega), fun row hr => ?_⟩
    obtain ⟨d', hd', rfl⟩ := did_get hr
    obtain rfl : d = d' := Option.some.inj (hd.symm.trans hd')
    clear hr hd'
    have hct := z_Right d
    generalize rightD d = B at hct hall
    obtain ⟨dk, dc, da, dd, dw, dp, dn⟩ := d
    all_goals (
      conv => whnf
      refine acall.au [] [] hct ?_
      conv => whnf
      first | intro _ | skip
      conv => whnf
      cases B
      · conv => whnf
        exact ⟨.inl (congrArg tb hall.symm), trivial⟩
      · conv => whnf
        exact ⟨i + 1, [], [], Sub.mk' rfl ⟨.inl rfl, .inl rfl, .inl (ti_succ hlt hl), trivial⟩ trivial rfl rfl, ⟨hlt, hall⟩, by omega⟩)
  · have hge : i = l.length := by have := of_decide_eq_false hge; omega
    subst hge
    conv => whnf
    refine ⟨fun _ => ?_, fun h => absurd rfl h⟩
    conv => whnf
    refine ⟨.inl (congrArg tb ?_), trivial⟩
    rw [hall, List.drop_length]
    rfl
end Go.Proofs.YtcpolpbeimhgfaaGreatDoor.am

namespace Go.Proofs.YtcpolpbeimhgfaaGreatDoor.am
open Go Go.Proofs
def keepB (p : Did × Int) : Bool := p.2 == 0 && p.1.kind != 0
/-- what a schedule's steps did -/
def ofP (l : List (Did × Int)) : List Did := (l.filter keepB).map (·.1)
def ofS (o : Ob) (l : List Stp) : List Did := ofP (playL (newM o) l)
theorem ofP_snoc (l : List (Did × Int)) (p : Did × Int) : ofP (l ++ [p]) = ofP l ++ (bif keepB p then [p.1] else []) := by
  unfold ofP
  rw [List.filter_append, List.map_append]
  congr 1
  cases h : keepB p <;> simp [h]
theorem ofP_len (l : List (Did × Int)) : (ofP l).length ≤ l.length := by
  unfold ofP
  rw [List.length_map]
  exact List.length_filter_le ..
theorem take_succ' {α : Type} {l : List α} {i : Nat} {x : α} (h : l[i]? = some x) : l.take (i + 1) = l.take i ++ [x] := by
  rw [List.take_add_one, h]; rfl
theorem playL_len (s : Mst) (l : List Stp) : (playL s l).length = l.length := by
  induction l generalizing s with
  | nil => rfl
  | cons x l ih => show _ + 1 = _ + 1; rw [ih]
theorem int_get {l : List Int} {i : Nat} {row : List Tr} (h : (l.map irow)[i]? = some row) : ∃ x, l[i]? = some x ∧ row = irow x := by
  rw [List.getElem?_map, Option.map_eq_some_iff] at h
  obtain ⟨d, h1, rfl⟩ := h
  exact ⟨d, h1, rfl⟩
set_option maxRecDepth 100000 in
set_option maxHeartbeats 1000000 in
theorem k_of (o : Ob) (l : List Stp) (h : (checkO o).1 = 0) (hlen : l.length ≤ 1048576) : K 21 [o.av, .tr (stepsT l)] [] (.ret (.tup [.tr (didsT (ofS o l)), .tr (ti 0)])) [] := by
  have hp := k_play o l h hlen
  have hpl := playL_len (newM o) l
  unfold ofS
  generalize playL (newM o) l = pl at hp hpl
  refine Ctr.of hT hmix Tryz.func21 rfl (fun _ _ => by kernel_rfl) rfl fun hok => ?_
  clear hok
  obtain ⟨memory, shared, locks, buffer, cores⟩ := o
  have hlm : ((pl.map (·.1)).map Did.cells).length = pl.length := by simp
  have hl63 : pl.length ≤ 9223372036854775807 := by omega
  generalize hD : pl.map (·.1) = D at hp hlm
  generalize hE : pl.map (·.2) = E at hp
  have hEm : (E.map irow).length = pl.length := by rw [← hE]; simp
  conv => whnf
  refine acall.pure _ (hp) rfl rfl fun _ => ?_
  conv => whnf
  refine LoopL.by (fun x : Nat × List Did => ⟨[(6, .tr (didsT D)), (7, .tr (intsT E)), (9, .sl 0 x.2.length), (22, .tr (didsT D)), (23, .tr (ti (pl.length : Int))), (24, .tr (ti x.1))], [(0, diV x.2)], 10⟩)
    (fun x => x.1 ≤ pl.length ∧ x.2 = ofP (pl.take x.1) ∧ x.2.length ≤ x.1) (fun x => pl.length - x.1) (0, []) [] [0]
    (Sub.mk' rfl ⟨.inl rfl, .inl rfl, ⟨rfl, rfl, rfl, rfl⟩, .inl rfl, .inl (by rw [← hlm]), .inl rfl, trivial⟩ ⟨⟨rfl, _, _, _, rfl, by decide⟩, trivial⟩ rfl rfl) ⟨Nat.zero_le _, rfl, Nat.le_refl _⟩ ?_
  rintro ⟨j, out⟩ ⟨hj, ho, hol⟩ -
  simp only at hj ho hol
  conv => whnf
  refine csplit (fun hlt => ?_) (fun hge => ?_)
  · have hlt : j < pl.length := by have : ((j : Nat) : Int) < (pl.length : Int) := of_decide_eq_true hlt; omega
    obtain ⟨p, hp⟩ : ∃ x, pl[j]? = some x := ⟨pl[j], by simp [hlt]⟩
    have hsn := ofP_snoc (pl.take j) p
    rw [← take_succ' hp, ← ho] at hsn
    have hnl := ofP_len (pl.take (j + 1))
    rw [List.length_take] at hnl
    have hDj : D[j]? = some p.1 := by rw [← hD, List.getElem?_map, hp]; rfl
    have hEj : E[j]? = some p.2 := by rw [← hE, List.getElem?_map, hp]; rfl
    obtain ⟨d, e⟩ := p
    simp only at hsn hDj hEj
    conv => whnf
    refine ⟨rfl, (show (0 : Int) ≤ j by omega), (show (j : Int) < (D.map Did.cells).length by omega), fun row hr => ?_⟩
    obtain ⟨d', hd', rfl⟩ := did_get hr
    obtain rfl : d = d' := Option.some.inj (hDj.symm.trans hd')
    clear hr hd'
    obtain ⟨dk, dc, da, dd, dw, dp, dn⟩ := d
    conv => whnf
    refine ⟨rfl, (show (0 : Int) ≤ j by omega), (show (j : Int) < (E.map irow).length by omega), fun row hr => ?_⟩
    obtain ⟨e', he', rfl⟩ := int_get hr
    obtain rfl : e = e' := Option.some.inj (hEj.symm.trans he')
    clear hr he'
    conv => whnf
    have skip : keepB (⟨dk, dc, da, dd, dw, dp, dn⟩, e) = false → ofP (pl.take (j + 1)) = out := fun q => by rw [hsn, q]; exact List.append_nil _
    refine csplit (fun h1 => ?_) (fun h1 => ?_)
    · replace h1 : (e == 0) = true := h1
      conv => whnf
      refine csplit (fun h2 => ?_) (fun h2 => ?_)
      · replace h2 : (dk != 0) = true := h2
        have hk : keepB (⟨dk, dc, da, dd, dw, dp, dn⟩, e) = true := by show ((e == 0) && (dk != 0)) = true; rw [h1, h2]; rfl
        rw [hk] at hsn
        have hsn : ofP (pl.take (j + 1)) = out ++ [⟨dk, dc, da, dd, dw, dp, dn⟩] := hsn
        have hda : (out.map Did.cells).take out.length ++ [[tu dk, ti dc, ti da, ti dd, ti dw, ti dp, tb dn]] = (ofP (pl.take (j + 1))).map Did.cells := by rw [hsn, List.take_of_length_le (by simp), List.map_append]; rfl
        have hll : (ofP (pl.take (j + 1))).length = out.length + 1 := by rw [hsn]; simp
        conv => whnf
        refine ⟨rfl, rfl, rfl, (by rw [List.length_map]; exact Nat.le_refl _), (show (out.length + 1) * 56 ≤ 150000000000000 by omega), fun q hq => ?_, ?_⟩
        · cases hq with
          | head => exact Nat.ne_of_beq_eq_false rfl
          | tail _ h => cases h
        conv => whnf
        exact ⟨(j + 1, ofP (pl.take (j + 1))), [_], [], Sub.mk' rfl ⟨.inl rfl, .inl rfl, ⟨rfl, hll.symm⟩, .inl rfl, .inl rfl, .inl (ti_succ hlt hl63), trivial⟩ ⟨⟨rfl, rfl, rfl, hda⟩, trivial⟩ rfl rfl, ⟨hlt, rfl, by show (ofP (pl.take (j + 1))).length ≤ j + 1; omega⟩, by show pl.length - (j + 1) < pl.length - j; omega⟩
      · replace h2 : (dk != 0) = false := h2
        have hk : keepB (⟨dk, dc, da, dd, dw, dp, dn⟩, e) = false := by show ((e == 0) && (dk != 0)) = false; rw [h2, Bool.and_false]
        have hsn := skip hk
        conv => whnf
        exact ⟨(j + 1, out), [0], [], Sub.mk' rfl ⟨.inl rfl, .inl rfl, ⟨rfl, rfl⟩, .inl rfl, .inl rfl, .inl (ti_succ hlt hl63), trivial⟩ ⟨⟨rfl, rfl, rfl, rfl⟩, trivial⟩ rfl rfl, ⟨hlt, hsn.symm, by show out.length ≤ j + 1; omega⟩, by show pl.length - (j + 1) < pl.length - j; omega⟩
    · replace h1 : (e == 0) = false := h1
      have hk : keepB (⟨dk, dc, da, dd, dw, dp, dn⟩, e) = false := by show ((e == 0) && (dk != 0)) = false; rw [h1, Bool.false_and]
      have hsn := skip hk
      conv => whnf
      exact ⟨(j + 1, out), [0], [], Sub.mk' rfl ⟨.inl rfl, .inl rfl, ⟨rfl, rfl⟩, .inl rfl, .inl rfl, .inl (ti_succ hlt hl63), trivial⟩ ⟨⟨rfl, rfl, rfl, rfl⟩, trivial⟩ rfl rfl, ⟨hlt, hsn.symm, by show out.length ≤ j + 1; omega⟩, by show pl.length - (j + 1) < pl.length - j; omega⟩
  · have hge : j = pl.length := by have : ¬ ((j : Nat) : Int) < (pl.length : Int) := of_decide_eq_false hge; omega
    subst hge
    rw [List.take_length] at ho
    subst ho
    conv => whnf
    refine ⟨fun _ => ?_, fun h => absurd rfl h⟩
    conv => whnf
    exact ⟨⟨⟨rfl, by rw [List.length_map]; exact Nat.le_refl _, by rw [List.take_of_length_le (by simp)]⟩, .inl rfl, trivial⟩, trivial⟩
end Go.Proofs.YtcpolpbeimhgfaaGreatDoor.am
