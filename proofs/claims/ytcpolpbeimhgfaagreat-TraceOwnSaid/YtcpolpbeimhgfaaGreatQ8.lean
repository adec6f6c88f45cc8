/- Contracts of vm: Run of a print, of a core that waits, that has halted, that is none. Contracts of vm: Drain. Contracts of vm: Drain of nothing, Step. Contracts of vm: New. Plain: what a step of the machine does; what stays. Contracts of vm: Step, in one. Plain: right Dids. Contracts of trace: the forms of Dids. Contracts of trace: right Dids. Contracts of vm: Play. Contracts of the reference's words: Do, One. Contracts of trace: Of. Contracts of trace: stepOf. Contracts of trace: Steps. Contracts of trace: Check. Plain: what a step leaves, and what it tells. Contracts of the reference's machine: New, Waits. Contracts of the reference's machine: Copy, what a load sees. -/
import Derived.Test.YtcpolpbeimhgfaaGreatQ7
set_option linter.all false

namespace Go.Proofs.YtcpolpbeimhgfaaGreat.am
open Go Go.Proofs
def zeroD : Did := ⟨0, 0, 0, 0, 0, 0, false⟩
set_option maxRecDepth 100000 in
set_option maxHeartbeats 1000000 in
theorem k_run7 (s : Mst) (k : Nat) (i : Ins) {c : Cst} {r : Cor} (hc : s.cores[k]? = some c) (h16 : c.regs.length = 16) (hr : s.o.cores[k]? = some r) (h0 : 0 ≤ c.at_) (hi : r.code[c.at_.toNat]? = some i)
    (hh : c.halted = false) (hst : stallB s c i = false) (ha0 : 0 ≤ i.a) (ha1 : i.a < 16) (hp : s.prints.length ≤ 1048576) (hk : i.kind = 7) (ha9 : c.at_ ≤ 16384) :
    K 50 [.ptr 0 0, .tr (ti k)] s.blks (.ret (.tup [(Did.mk 6 k c.at_ 0 (c.reg i.a) 0 false).av, .tr (ti 0)])) [some (maP { s.setCore k (c1 c) with prints := s.prints ++ [Prn.mk k (c.reg i.a)] } 4), some (csB (s.setCore k (c1 c)).cores), some (meB s.mem), none, some (prB (s.prints ++ [Prn.mk k (c.reg i.a)]))] := by
  have hkl : k < s.cores.length := (List.getElem?_eq_some_iff.1 hc).1
  have hhas := k_has s k
  rw [has_ok hkl] at hhas
  have hnx := k_next s k (d0 k 0) hc h16 hr h0 hi
  have hsl := k_stalls s k i (d0 k 0) hc h16
  rw [hst] at hsl
  have hlt := core_lt hc
  have hx := k_vprint (s1 s k c) k i (d0 k c.at_) (s1_get hc) h16 ha0 ha1 hp
  obtain ⟨kind, op, D, a, b, addr, to_, word, from_⟩ := i
  refine Ctr.new [] hT hmix Tryz.func50 rfl (fun _ _ => by kernel_rfl) rfl fun hok => ?_
  clear hok
  have hw1 : IntKind.i64.wrap (c.at_ + 1) = c.at_ + 1 := by rw [w64 (by omega) (by omega)]
  conv => whnf
  refine acall.au [0, 1, 2, 3] [] (hhas) ?_
  intro _
  conv => whnf
  refine acall.au [0, 1, 2, 3, _] [] (hnx) ?_
  intro _
  conv => whnf
  refine ⟨rfl, hlt, fun row hrow => ?_⟩
  obtain rfl := row_of hc hrow
  refine ⟨by rw [row_len h16]; show 0 + 1 < 19; decide, fun t ht => ?_⟩
  obtain rfl : t = tb false := by rw [← hh]; exact (Option.some.inj ht).symm
  clear ht hrow
  conv => whnf
  refine acall.au [0, 1, 2, 3, _] [] (hsl) ?_
  intro _
  conv => whnf
  simp only at hk
  subst hk
  refine ⟨rfl, hlt, fun row hrow => ?_⟩
  obtain rfl := row_of hc hrow
  refine ⟨by rw [row_len h16]; show 0 + 0 < 19; decide, fun t ht => ?_⟩
  obtain rfl : t = ti c.at_ := (Option.some.inj ht).symm
  clear ht hrow
  conv => whnf
  refine ⟨rfl, hlt, fun row hrow => ?_⟩
  obtain rfl := row_of hc hrow
  refine ⟨by rw [row_len h16]; show 0 + 0 < 19; decide, fun t ht => ?_⟩
  obtain rfl : t = ti c.at_ := (Option.some.inj ht).symm
  clear ht hrow
  conv => whnf
  refine ⟨rfl, rfl, rfl, hlt, trivial, fun row hrow => ?_⟩
  obtain rfl := row_of hc hrow
  refine ⟨by rw [row_len h16]; show 0 + 0 + 1 ≤ 19; decide, ?_⟩
  clear hrow
  conv => whnf
  refine acall.pure _ (k_does7) rfl rfl ?_
  conv => whnf
  refine acall.new [0, 1, 2, 3, 14] [] _ _ _ _ hx rfl rfl rfl rfl aut ⟨⟨rfl, .inl rfl, .inl rfl, .inl rfl, .inl rfl, .inl rfl, ⟨rfl, by simp [Mst.setCore]⟩, ⟨rfl, by simp [Mst.setCore]⟩, ⟨rfl, by simp [Mst.setCore]⟩, trivial⟩, ⟨rfl, rfl, rfl, rfl, .inl (by rw [hw1]; exact csB_at s _)⟩, ⟨rfl, rfl, rfl, rfl⟩, ⟨rfl, rfl, rfl, rfl⟩, ⟨rfl, .inl rfl, .inl rfl, .inl rfl, .inl rfl, .inl rfl, .inl rfl, .inl rfl, trivial⟩, trivial⟩ rfl rfl ?_
  conv => whnf
  refine ⟨by kernel_rfl, fun _ => ?_⟩
  conv => whnf
  exact ⟨[0, 1, 2, 3, _], rfl, rfl, ⟨aut, .inl rfl, trivial⟩, ⟨rfl, .inl rfl, .inl rfl, .inl rfl, .inl rfl, .inl rfl, ⟨rfl, rfl⟩, ⟨rfl, rfl⟩, ⟨rfl, rfl⟩, trivial⟩, ⟨rfl, rfl, rfl, rfl, .inl rfl⟩, ⟨rfl, rfl, rfl, rfl⟩, ⟨rfl, rfl, rfl, rfl⟩, trivial⟩
set_option maxRecDepth 100000 in
set_option maxHeartbeats 1000000 in
theorem k_runS (s : Mst) (k : Nat) (i : Ins) {c : Cst} {r : Cor} (hc : s.cores[k]? = some c) (h16 : c.regs.length = 16) (hr : s.o.cores[k]? = some r) (h0 : 0 ≤ c.at_) (hi : r.code[c.at_.toNat]? = some i)
    (hh : c.halted = false) (hst : stallB s c i = true) (ha9 : c.at_ ≤ 16384) :
    K 50 [.ptr 0 0, .tr (ti k)] s.blks (.ret (.tup [zeroD.av, .tr (ti 181)])) (s.blks.map some) := by
  have hkl : k < s.cores.length := (List.getElem?_eq_some_iff.1 hc).1
  have hhas := k_has s k
  rw [has_ok hkl] at hhas
  have hnx := k_next s k (d0 k 0) hc h16 hr h0 hi
  have hsl := k_stalls s k i (d0 k 0) hc h16
  rw [hst] at hsl
  have hlt := core_lt hc
  obtain ⟨kind, op, D, a, b, addr, to_, word, from_⟩ := i
  refine Ctr.of hT hmix Tryz.func50 rfl (fun _ _ => by kernel_rfl) rfl fun hok => ?_
  clear hok
  have hw1 : IntKind.i64.wrap (c.at_ + 1) = c.at_ + 1 := by rw [w64 (by omega) (by omega)]
  conv => whnf
  refine acall.au [0, 1, 2, 3] [] (hhas) ?_
  intro _
  conv => whnf
  refine acall.au [0, 1, 2, 3, _] [] (hnx) ?_
  intro _
  conv => whnf
  refine ⟨rfl, hlt, fun row hrow => ?_⟩
  obtain rfl := row_of hc hrow
  refine ⟨by rw [row_len h16]; show 0 + 1 < 19; decide, fun t ht => ?_⟩
  obtain rfl : t = tb false := by rw [← hh]; exact (Option.some.inj ht).symm
  clear ht hrow
  conv => whnf
  refine acall.au [0, 1, 2, 3, _] [] (hsl) ?_
  intro _
  conv => whnf
  exact ⟨⟨aut, .inl rfl, trivial⟩, ⟨rfl, .inl rfl, .inl rfl, .inl rfl, .inl rfl, .inl rfl, ⟨rfl, by simp [Mst.setCore]⟩, ⟨rfl, by simp [Mst.setCore]⟩, ⟨rfl, by simp [Mst.setCore]⟩, trivial⟩, ⟨rfl, rfl, rfl, rfl, .inl rfl⟩, ⟨rfl, rfl, rfl, rfl⟩, ⟨rfl, rfl, rfl, rfl⟩, trivial⟩
set_option maxRecDepth 100000 in
set_option maxHeartbeats 1000000 in
theorem k_runH (s : Mst) (k : Nat) (i : Ins) {c : Cst} {r : Cor} (hc : s.cores[k]? = some c) (h16 : c.regs.length = 16) (hr : s.o.cores[k]? = some r) (h0 : 0 ≤ c.at_) (hi : r.code[c.at_.toNat]? = some i)
    (hh : c.halted = true) (ha9 : c.at_ ≤ 16384) :
    K 50 [.ptr 0 0, .tr (ti k)] s.blks (.ret (.tup [zeroD.av, .tr (ti 0)])) (s.blks.map some) := by
  have hkl : k < s.cores.length := (List.getElem?_eq_some_iff.1 hc).1
  have hhas := k_has s k
  rw [has_ok hkl] at hhas
  have hnx := k_next s k (d0 k 0) hc h16 hr h0 hi
  have hlt := core_lt hc
  obtain ⟨kind, op, D, a, b, addr, to_, word, from_⟩ := i
  refine Ctr.of hT hmix Tryz.func50 rfl (fun _ _ => by kernel_rfl) rfl fun hok => ?_
  clear hok
  have hw1 : IntKind.i64.wrap (c.at_ + 1) = c.at_ + 1 := by rw [w64 (by omega) (by omega)]
  conv => whnf
  refine acall.au [0, 1, 2, 3] [] (hhas) ?_
  intro _
  conv => whnf
  refine acall.au [0, 1, 2, 3, _] [] (hnx) ?_
  intro _
  conv => whnf
  refine ⟨rfl, hlt, fun row hrow => ?_⟩
  obtain rfl := row_of hc hrow
  refine ⟨by rw [row_len h16]; show 0 + 1 < 19; decide, fun t ht => ?_⟩
  obtain rfl : t = tb true := by rw [← hh]; exact (Option.some.inj ht).symm
  clear ht hrow
  conv => whnf
  exact ⟨⟨aut, .inl rfl, trivial⟩, ⟨rfl, .inl rfl, .inl rfl, .inl rfl, .inl rfl, .inl rfl, ⟨rfl, by simp [Mst.setCore]⟩, ⟨rfl, by simp [Mst.setCore]⟩, ⟨rfl, by simp [Mst.setCore]⟩, trivial⟩, ⟨rfl, rfl, rfl, rfl, .inl rfl⟩, ⟨rfl, rfl, rfl, rfl⟩, ⟨rfl, rfl, rfl, rfl⟩, trivial⟩
set_option maxRecDepth 100000 in
theorem k_runE (s : Mst) (k : Int) (hE : hasE s k ≠ 0) : K 50 [.ptr 0 0, .tr (ti k)] s.blks (.ret (.tup [zeroD.av, .tr (ti (hasE s k))])) (s.blks.map some) := by
  have hhas := k_has s k
  generalize hasE s k = e at hE hhas
  refine Ctr.of hT hmix Tryz.func50 rfl (fun _ _ => by kernel_rfl) rfl fun hok => ?_
  clear hok
  conv => whnf
  refine acall.au [0, 1, 2, 3] [] (hhas) ?_
  intro _
  conv => whnf
  refine csplit (fun h1 => ?_) (fun h1 => ?_)
  · conv => whnf
    exact ⟨⟨aut, .inl rfl, trivial⟩, ⟨rfl, .inl rfl, .inl rfl, .inl rfl, .inl rfl, .inl rfl, ⟨rfl, by simp [Mst.setCore]⟩, ⟨rfl, by simp [Mst.setCore]⟩, ⟨rfl, by simp [Mst.setCore]⟩, trivial⟩, ⟨rfl, rfl, rfl, rfl, .inl rfl⟩, ⟨rfl, rfl, rfl, rfl⟩, ⟨rfl, rfl, rfl, rfl⟩, trivial⟩
  · exact absurd h1 (by simpa using hE)
end Go.Proofs.YtcpolpbeimhgfaaGreat.am

namespace Go.Proofs.YtcpolpbeimhgfaaGreat.am
open Go Go.Proofs
theorem lnk_head {i j : Nat} {x : Nat × Nat} {r : List ((Nat × Nat) × (Nat × Nat))} : lnk (((i, j), x) :: r) i j = some x := by
  show (bif Nat.beq j j && Nat.beq i i then some x else lnk r i j) = some x
  rw [Nat.beq_refl, Nat.beq_refl]
  rfl
theorem sto_leaf (l : List Sto) : leafR (l.map Sto.row) := by
  intro row hr t ht
  obtain ⟨x, _, rfl⟩ := List.mem_map.1 hr
  have ht : t ∈ [ti x.at_, ti x.addr, ti x.word] := ht
  simp only [List.mem_cons, List.not_mem_nil, or_false] at ht
  rcases ht with rfl | rfl | rfl <;> exact ⟨_, rfl⟩
theorem cp_rows (l : List Sto) {N : List (List Tr)} {n : Nat} {z : List Tr} (hN : N = l.map Sto.row) (hn : n = l.length) : N.take (Nat.min N.length n) ++ (List.replicate n z).drop (Nat.min N.length n) = l.map Sto.row := by
  subst hN hn
  have e : Nat.min (l.map Sto.row).length l.length = l.length := by rw [List.length_map]; exact Nat.min_self _
  rw [e, List.take_of_length_le (by simp), List.drop_of_length_le (by simp), List.append_nil]
set_option maxRecDepth 100000 in
theorem k_drain (s : Mst) (k : Nat) {c : Cst} {x : Sto} {l : List Sto} (hc : s.cores[k]? = some c) (h16 : c.regs.length = 16) (hb : c.buf = x :: l) (hl : l.length ≤ 64) (hm0 : 0 ≤ x.addr) (hm1 : x.addr < (s.mem.length : Int)) :
    K 51 [.ptr 0 0, .tr (ti k)] s.blks (.ret (.tup [(Did.mk 8 k x.at_ x.addr x.word 0 false).av, .tr (ti 0)])) (({ s.setCore k { c with buf := l } with mem := s.mem.set x.addr.toNat x.word } : Mst).blks.map some) := by
  have hkl : k < s.cores.length := (List.getElem?_eq_some_iff.1 hc).1
  have hhas := k_has s k
  rw [show hasE s k = 0 by unfold hasE; rw [show decide ((k : Int) < 0) = false from decide_eq_false (by omega), show decide ((k : Int) ≥ (s.cores.length : Int)) = false from decide_eq_false (by omega)]; rfl] at hhas
  have hlt := core_lt hc
  have hbl : (c.buf.map Sto.row).length = l.length + 1 := by rw [hb]; simp
  have hw : IntKind.i64.wrap (((c.buf.map Sto.row).length : Int) - 1) = (l.length : Int) := by rw [hbl, w64 (by omega) (by omega)]; omega
  have hnews : List.take ((c.buf.map Sto.row).length - 1) (List.drop 1 (c.buf.map Sto.row)) = l.map Sto.row := by
    rw [hbl, Nat.add_sub_cancel, hb]
    exact List.take_of_length_le (by simp)
  have hwn : (IntKind.i64.wrap (((c.buf.map Sto.row).length : Int) - 1)).toNat = l.length := by rw [hw]; rfl
  refine Ctr.pk [] hT hmix Tryz.func51 rfl (fun _ _ => by kernel_rfl) rfl fun hok => ?_
  clear hok
  conv => whnf
  refine acall.au [0, 1, 2, 3] [] (hhas) ?_
  intro _
  conv => whnf
  refine ⟨rfl, (show (0 : Int) ≤ (k : Int) by omega), (show (k : Int) < (s.cores.length : Int) by omega), ?_⟩
  conv => whnf
  refine ⟨rfl, hlt, fun row hrow => ?_⟩
  obtain rfl := row_of hc hrow
  refine ⟨by rw [row_len h16]; show 0 + 18 < 19; decide, fun t ht => ?_⟩
  obtain rfl := row_buf h16 ht
  clear ht hrow
  conv => whnf
  refine ⟨by decide, ?_⟩
  conv => whnf
  refine csplit (fun h1 => ?_) (fun h1 => ?_)
  · replace h1 : (((c.buf.map Sto.row).length : Int) == 0) = true := h1
    rw [hbl] at h1
    exact absurd h1 (by simp; omega)
  conv => whnf
  refine ⟨rfl, hlt, fun row hrow => ?_⟩
  obtain rfl := row_of hc hrow
  refine ⟨by rw [row_len h16]; show 0 + 18 < 19; decide, fun t ht => ?_⟩
  rw [lnk_head]
  clear ht hrow
  conv => whnf
  refine ⟨rfl, Int.le_refl _, (show (0 : Int) < ((c.buf.map Sto.row).length : Int) by rw [hbl]; omega), ?_⟩
  conv => whnf
  refine ⟨rfl, (show 0 < (c.buf.map Sto.row).length by rw [hbl]; omega), fun row hrow => ?_⟩
  obtain rfl : row = x.row := by
    have hrow : (c.buf.map Sto.row)[0]? = some row := hrow
    rw [hb] at hrow
    exact (Option.some.inj hrow).symm
  refine ⟨(show 0 + 3 ≤ 3 by decide), fun t ht => ?_, fun j _ h => ?_, ?_⟩
  · have ht : t ∈ [ti x.at_, ti x.addr, ti x.word] := ht
    simp only [List.mem_cons, List.not_mem_nil, or_false] at ht
    rcases ht with rfl | rfl | rfl <;> exact ⟨_, rfl⟩
  · rfl
  clear hrow
  conv => whnf
  refine ⟨rfl, hlt, fun row hrow => ?_⟩
  obtain rfl := row_of hc hrow
  refine ⟨by rw [row_len h16]; show 0 + 18 < 19; decide, fun t ht => ?_⟩
  rw [lnk_head]
  clear ht hrow
  conv => whnf
  refine ⟨(show (0 : Int) ≤ IntKind.i64.wrap (((c.buf.map Sto.row).length : Int) - 1) by rw [hw]; omega), Int.le_refl _, (show IntKind.i64.wrap (((c.buf.map Sto.row).length : Int) - 1) * 24 ≤ 140737488351232 by rw [hw]; omega), ?_⟩
  conv => whnf
  refine ⟨rfl, hlt, fun row hrow => ?_⟩
  obtain rfl := row_of hc hrow
  refine ⟨by rw [row_len h16]; show 0 + 18 < 19; decide, fun t ht => ?_⟩
  rw [lnk_head]
  clear ht hrow
  conv => whnf
  refine ⟨rfl, (show (0 : Int) < 1 by decide), (show (1 : Int) ≤ ((c.buf.map Sto.row).length : Int) by rw [hbl]; omega), ?_⟩
  conv => whnf
  refine csplit (fun h2 => ?_) (fun h2 => ?_)
  · replace h2 : decide ((1 : Int) < ((c.buf.map Sto.row).length : Int)) = true := h2
    conv => whnf
    refine ⟨rfl, (by simp), (show (List.take ((c.buf.map Sto.row).length - 1) (List.drop 1 (c.buf.map Sto.row))).length = (c.buf.map Sto.row).length - 1 by rw [hb]; simp), (show leafR (List.take ((c.buf.map Sto.row).length - 1) (List.drop 1 (c.buf.map Sto.row))) by rw [hnews]; exact sto_leaf l), (fun p hp => by simp at hp; subst hp; simp), ?_⟩
    conv => whnf
    refine ⟨rfl, rfl, rfl, hlt, ⟨fun _ => rfl, trivial⟩, fun row hrow => ?_⟩
    obtain rfl := row_of hc hrow
    refine ⟨by rw [row_len h16]; show 0 + 18 + 1 ≤ 19; decide, ?_⟩
    clear hrow
    conv => whnf
    refine ⟨rfl, hm0, hm1, ?_⟩
    conv => whnf
    refine ⟨rfl, rfl, by rw [List.length_map]; show x.addr.toNat < s.mem.length; omega, fun row hrow => ?_⟩
    obtain ⟨y, _, rfl⟩ := mem_get hrow
    refine ⟨Nat.le_refl _, ?_⟩
    clear hrow
    conv => whnf
    refine ⟨by kernel_rfl, fun _ => ?_⟩
    conv => whnf
    refine ⟨[1], ?_⟩
    conv => whnf
    have key := cp_rows l (z := [ti 0, ti 0, ti 0]) hnews hwn
    refine ⟨rfl, rfl, Nat.le_of_eq (hwn.trans (Eq.symm ((congrArg List.length key).trans (List.length_map ..)))), Eq.mpr (congrArg leafR key) (sto_leaf l), ?_⟩
    refine ⟨[0, 1, 2, 3], rfl, rfl, ⟨aut, .inl rfl, trivial⟩, ⟨rfl, .inl rfl, .inl rfl, .inl rfl, .inl rfl, .inl rfl, ⟨rfl, by simp [Mst.setCore]⟩, ⟨rfl, by simp [Mst.setCore]⟩, ⟨rfl, by simp [Mst.setCore]⟩, trivial⟩, ⟨rfl, rfl, rfl, rfl, .inl ?_⟩, ⟨rfl, rfl, rfl, mem_set s.mem x.addr.toNat _ rfl⟩, ⟨rfl, rfl, rfl, rfl⟩, trivial⟩
    exact (congrArg (fun r => setC ((s.cores.map Cst.row).set k (c.row.take (0 + 18) ++ [Tr.v (.slice none 0 0)] ++ c.row.drop (0 + 18 + 1))) k 18 (.lst 3 24 r)) ((congrArg (List.take (IntKind.i64.wrap (((c.buf.map Sto.row).length : Int) - 1)).toNat) key).trans (List.take_of_length_le (by rw [hwn]; simp)))).trans (csB_buf s hc h16 _ l)
  · replace h2 : decide ((1 : Int) < ((c.buf.map Sto.row).length : Int)) = false := h2
    rw [hbl] at h2
    have hl0 : l = [] := List.eq_nil_of_length_eq_zero (by have := of_decide_eq_false h2; omega)
    have hnil : ([] : List (List Tr)) = l.map Sto.row := by rw [hl0]; rfl
    conv => whnf
    refine ⟨rfl, (by simp), trivial, (fun _ h => by cases h), (fun p hp => by cases hp), ?_⟩
    conv => whnf
    refine ⟨rfl, rfl, rfl, hlt, ⟨fun _ => rfl, trivial⟩, fun row hrow => ?_⟩
    obtain rfl := row_of hc hrow
    refine ⟨by rw [row_len h16]; show 0 + 18 + 1 ≤ 19; decide, ?_⟩
    clear hrow
    conv => whnf
    refine ⟨rfl, hm0, hm1, ?_⟩
    conv => whnf
    refine ⟨rfl, rfl, by rw [List.length_map]; show x.addr.toNat < s.mem.length; omega, fun row hrow => ?_⟩
    obtain ⟨y, _, rfl⟩ := mem_get hrow
    refine ⟨Nat.le_refl _, ?_⟩
    clear hrow
    conv => whnf
    refine ⟨by kernel_rfl, fun _ => ?_⟩
    conv => whnf
    refine ⟨[1], ?_⟩
    conv => whnf
    have key := cp_rows l (z := [ti 0, ti 0, ti 0]) hnil hwn
    refine ⟨rfl, rfl, Nat.le_of_eq (hwn.trans (Eq.symm ((congrArg List.length key).trans (List.length_map ..)))), Eq.mpr (congrArg leafR key) (sto_leaf l), ?_⟩
    refine ⟨[0, 1, 2, 3], rfl, rfl, ⟨aut, .inl rfl, trivial⟩, ⟨rfl, .inl rfl, .inl rfl, .inl rfl, .inl rfl, .inl rfl, ⟨rfl, by simp [Mst.setCore]⟩, ⟨rfl, by simp [Mst.setCore]⟩, ⟨rfl, by simp [Mst.setCore]⟩, trivial⟩, ⟨rfl, rfl, rfl, rfl, .inl ?_⟩, ⟨rfl, rfl, rfl, mem_set s.mem x.addr.toNat _ rfl⟩, ⟨rfl, rfl, rfl, rfl⟩, trivial⟩
    exact (congrArg (fun r => setC ((s.cores.map Cst.row).set k (c.row.take (0 + 18) ++ [Tr.v (.slice none 0 0)] ++ c.row.drop (0 + 18 + 1))) k 18 (.lst 3 24 r)) ((congrArg (List.take (IntKind.i64.wrap (((c.buf.map Sto.row).length : Int) - 1)).toNat) key).trans (List.take_of_length_le (by rw [hwn]; simp)))).trans (csB_buf s hc h16 _ l)
end Go.Proofs.YtcpolpbeimhgfaaGreat.am

namespace Go.Proofs.YtcpolpbeimhgfaaGreat.am
open Go Go.Proofs
theorem lnk_no {i j : Nat} : lnk [] i j = none := rfl
set_option maxRecDepth 100000 in
theorem k_drainE (s : Mst) (k : Int) (hE : hasE s k ≠ 0) : K 51 [.ptr 0 0, .tr (ti k)] s.blks (.ret (.tup [zeroD.av, .tr (ti (hasE s k))])) (s.blks.map some) := by
  have hhas := k_has s k
  generalize hasE s k = e at hE hhas
  refine Ctr.of hT hmix Tryz.func51 rfl (fun _ _ => by kernel_rfl) rfl fun hok => ?_
  clear hok
  conv => whnf
  refine acall.au [0, 1, 2, 3] [] (hhas) ?_
  intro _
  conv => whnf
  refine csplit (fun h1 => ?_) (fun h1 => ?_)
  · conv => whnf
    exact ⟨⟨aut, .inl rfl, trivial⟩, aut, aut, aut, aut, trivial⟩
  · exact absurd h1 (by simpa using hE)
set_option maxRecDepth 100000 in
theorem k_drain0 (s : Mst) (k : Nat) {c : Cst} (hc : s.cores[k]? = some c) (h16 : c.regs.length = 16) (hb : c.buf = []) : K 51 [.ptr 0 0, .tr (ti k)] s.blks (.ret (.tup [zeroD.av, .tr (ti 0)])) (s.blks.map some) := by
  have hkl : k < s.cores.length := (List.getElem?_eq_some_iff.1 hc).1
  have hhas := k_has s k
  rw [has_ok hkl] at hhas
  have hlt := core_lt hc
  refine Ctr.pk [] hT hmix Tryz.func51 rfl (fun _ _ => by kernel_rfl) rfl fun hok => ?_
  clear hok
  conv => whnf
  refine acall.au [0, 1, 2, 3] [] (hhas) ?_
  intro _
  conv => whnf
  refine ⟨rfl, (show (0 : Int) ≤ (k : Int) by omega), (show (k : Int) < (s.cores.length : Int) by omega), ?_⟩
  conv => whnf
  refine ⟨rfl, hlt, fun row hrow => ?_⟩
  obtain rfl := row_of hc hrow
  refine ⟨by rw [row_len h16]; show 0 + 18 < 19; decide, fun t ht => ?_⟩
  obtain rfl := row_buf h16 ht
  clear ht hrow
  conv => whnf
  refine ⟨by decide, ?_⟩
  conv => whnf
  refine csplit (fun h1 => ?_) (fun h1 => ?_)
  · conv => whnf
    refine ⟨[1], ?_⟩
    conv => whnf
    refine ⟨rfl, lnk_no, Nat.le_refl _, ?_⟩
    refine ⟨[0, 1, 2, 3], rfl, rfl, ⟨aut, .inl rfl, trivial⟩, aut, ⟨rfl, rfl, rfl, rfl, .inl ?_⟩, aut, aut, trivial⟩
    show setC (s.cores.map Cst.row) k 18 (.lst 3 24 ((c.buf.map Sto.row).take (c.buf.map Sto.row).length)) = s.cores.map Cst.row
    rw [List.take_of_length_le (by simp)]
    exact setC_buf hc h16
  · replace h1 : (((c.buf.map Sto.row).length : Int) == 0) = false := h1
    rw [hb] at h1
    exact absurd h1 (by decide)
/-! Step -/
set_option maxRecDepth 100000 in
theorem k_stepW (s : Mst) (kd k : Int) (h1 : kd ≠ 1) (h2 : kd ≠ 2) : K 34 [.ptr 0 0, .agg [.tr (tu kd), .tr (ti k)]] s.blks (.ret (.tup [zeroD.av, .tr (ti 182)])) (s.blks.map some) := by
  refine Ctr.of hT hmix Tryz.func34 rfl (fun _ _ => by kernel_rfl) rfl fun hok => ?_
  clear hok
  conv => whnf
  refine csplit (fun a1 => ?_) (fun a1 => ?_)
  · exact absurd a1 (by simpa using h1)
  conv => whnf
  refine csplit (fun a2 => ?_) (fun a2 => ?_)
  · exact absurd a2 (by simpa using h2)
  conv => whnf
  exact ⟨⟨aut, .inl rfl, trivial⟩, aut, aut, aut, aut, trivial⟩
set_option maxRecDepth 100000 in
/-- a step that runs, where the prints stay -/
theorem k_stepR (s s' : Mst) (k : Int) (d : Did) (e : Int) (h : K 50 [.ptr 0 0, .tr (ti k)] s.blks (.ret (.tup [d.av, .tr (ti e)])) (s'.blks.map some)) : K 34 [.ptr 0 0, .agg [.tr (tu 1), .tr (ti k)]] s.blks (.ret (.tup [d.av, .tr (ti e)])) (s'.blks.map some) := by
  obtain ⟨dk, dc, da, dd, dw, dp, dn⟩ := d
  refine Ctr.of hT hmix Tryz.func34 rfl (fun _ _ => by kernel_rfl) rfl fun hok => ?_
  clear hok
  conv => whnf
  refine acall.au [0, 1, 2, 3] [] (h) ?_
  intro _
  conv => whnf
  exact ⟨⟨aut, .inl rfl, trivial⟩, aut, aut, aut, aut, trivial⟩
set_option maxRecDepth 100000 in
theorem k_stepD (s s' : Mst) (k : Int) (d : Did) (e : Int) (h : K 51 [.ptr 0 0, .tr (ti k)] s.blks (.ret (.tup [d.av, .tr (ti e)])) (s'.blks.map some)) : K 34 [.ptr 0 0, .agg [.tr (tu 2), .tr (ti k)]] s.blks (.ret (.tup [d.av, .tr (ti e)])) (s'.blks.map some) := by
  obtain ⟨dk, dc, da, dd, dw, dp, dn⟩ := d
  refine Ctr.of hT hmix Tryz.func34 rfl (fun _ _ => by kernel_rfl) rfl fun hok => ?_
  clear hok
  conv => whnf
  refine acall.au [0, 1, 2, 3] [] (h) ?_
  intro _
  conv => whnf
  exact ⟨⟨aut, .inl rfl, trivial⟩, aut, aut, aut, aut, trivial⟩
set_option maxRecDepth 100000 in
/-- a step that prints -/
theorem k_stepP (s s' : Mst) (k : Int) (d : Did) (e : Int) (h : K 50 [.ptr 0 0, .tr (ti k)] s.blks (.ret (.tup [d.av, .tr (ti e)])) [some (maP s' 4), some (csB s'.cores), some (meB s'.mem), none, some (prB s'.prints)]) : K 34 [.ptr 0 0, .agg [.tr (tu 1), .tr (ti k)]] s.blks (.ret (.tup [d.av, .tr (ti e)])) [some (maP s' 4), some (csB s'.cores), some (meB s'.mem), none, some (prB s'.prints)] := by
  obtain ⟨dk, dc, da, dd, dw, dp, dn⟩ := d
  refine Ctr.new [] hT hmix Tryz.func34 rfl (fun _ _ => by kernel_rfl) rfl fun hok => ?_
  clear hok
  conv => whnf
  refine acall.new [0, 1, 2, 3] [] _ _ _ _ h rfl rfl rfl rfl aut aut rfl rfl fun _ => ?_
  conv => whnf
  exact ⟨[0, 1, 2, 3, _], rfl, rfl, ⟨aut, .inl rfl, trivial⟩, aut, aut, aut, aut, trivial⟩
end Go.Proofs.YtcpolpbeimhgfaaGreat.am

namespace Go.Proofs.YtcpolpbeimhgfaaGreat.am
open Go Go.Proofs
set_option maxRecDepth 100000 in
theorem k_vnew0 (o : Ob) (h : (checkO o).1 ≠ 0) : K 32 [o.av] [] (.ret (.tup [.tr (.v (.pointer none)), .tr (ti (checkO o).1)])) [] := by
  have hc := k_check o
  refine Ctr.of hT hmix Tryz.func32 rfl (fun _ _ => by kernel_rfl) rfl fun hok => ?_
  clear hok
  obtain ⟨memory, shared, locks, buffer, cores⟩ := o
  generalize checkO ⟨memory, shared, locks, buffer, cores⟩ = R at hc h ⊢
  conv => whnf
  refine acall.pure _ (hc) rfl rfl fun _ => ?_
  conv => whnf
  refine csplit (fun h1 => ?_) (fun h1 => ?_)
  · conv => whnf
    exact ⟨⟨.inl rfl, .inl rfl, trivial⟩, trivial⟩
  · exact absurd (by simpa using h1) h
theorem code_leaf0 (l : List Ins) : leafR (l.map Ins.cells) := by
  intro row hr t ht
  obtain ⟨i, _, rfl⟩ := List.mem_map.1 hr
  have ht : t ∈ [tu i.kind, tu i.op, ti i.d, ti i.a, ti i.b, ti i.addr, ti i.to_, ti i.word, ti i.from_] := ht
  simp only [List.mem_cons, List.not_mem_nil, or_false] at ht
  rcases ht with rfl | rfl | rfl | rfl | rfl | rfl | rfl | rfl | rfl <;> exact ⟨_, rfl⟩
theorem setC_last {A : List (List Tr)} {r : List Tr} {i j : Nat} {t : Tr} (h : i = A.length) : setC (A ++ [r]) i j t = A ++ [r.set j t] := by
  subst h
  unfold setC
  rw [List.getElem?_append_right (Nat.le_refl _), Nat.sub_self]
  show (A ++ [r]).set A.length (r.set j t) = _
  rw [List.set_append_right _ _ (Nat.le_refl _), Nat.sub_self]
  rfl
/-- a machine at its beginning -/
def newC : Cst := ⟨0, false, List.replicate 16 0, []⟩
def newM (o : Ob) : Mst := ⟨o, o.cores.map fun _ => newC, o.memory, []⟩
abbrev zeroC : List Tr := [ti 0, tb false, ti 0, ti 0, ti 0, ti 0, ti 0, ti 0, ti 0, ti 0, ti 0, ti 0, ti 0, ti 0, ti 0, ti 0, ti 0, ti 0, .v (.slice none 0 0)]
theorem new_leafC (n : Nat) : leafR (List.replicate n zeroC) := by
  intro row hr t ht
  obtain rfl := (List.mem_replicate.1 hr).2
  simp only [List.mem_cons, List.not_mem_nil, or_false] at ht
  rcases ht with rfl | rfl | rfl | rfl | rfl | rfl | rfl | rfl | rfl | rfl | rfl | rfl | rfl | rfl | rfl | rfl | rfl | rfl | rfl <;> exact ⟨_, rfl⟩
theorem nlR_rep {r r' : List Tr} (h : nlL r r') : ∀ n, nlR (List.replicate n r) (List.replicate n r')
  | 0 => trivial
  | n + 1 => ⟨h, nlR_rep h n⟩
theorem new_rows (cores : List Cor) : nlR (List.replicate (((cores.map Cor.cells).length : Int)).toNat zeroC) ((cores.map fun _ => newC).map Cst.row) := by
  have e : (cores.map fun _ => newC).map Cst.row = List.replicate (((cores.map Cor.cells).length : Int)).toNat newC.row := by
    rw [List.map_map, Int.toNat_natCast, List.length_map]
    exact List.map_const' ..
  rw [e]
  refine nlR_rep ?_ _
  exact ⟨.inl rfl, .inl rfl, .inl rfl, .inl rfl, .inl rfl, .inl rfl, .inl rfl, .inl rfl, .inl rfl, .inl rfl, .inl rfl, .inl rfl, .inl rfl, .inl rfl, .inl rfl, .inl rfl, .inl rfl, .inl rfl, .inr ⟨rfl, _, _, rfl⟩, trivial⟩
set_option maxRecDepth 100000 in
theorem k_vnew (o : Ob) (h : (checkO o).1 = 0) (hm : o.memory.length ≤ 4096) (hk : o.cores.length ≤ 8) (hcl : ∀ c ∈ o.cores, c.code.length ≤ 16384) : K 32 [o.av] [] (.ret (.tup [.ptr 0 0, .tr (ti 0)])) ((newM o).blks.map some) := by
  have hc := k_check o
  have hcm := k_cloneI o.memory (by omega)
  refine Ctr.new [12, 0] hT hmix Tryz.func32 rfl (fun _ _ => by kernel_rfl) rfl fun hok => ?_
  clear hok
  obtain ⟨memory, shared, locks, buffer, cores⟩ := o
  simp only at hm hk hcl hcm
  generalize checkO ⟨memory, shared, locks, buffer, cores⟩ = R at hc h
  conv => whnf
  refine acall.pure _ (hc) rfl rfl fun _ => ?_
  conv => whnf
  refine csplit (fun h1 => ?_) (fun h1 => ?_)
  · exact absurd (by simpa using h) (by simpa using h1)
  conv => whnf
  refine CutL.by (fun _ : Unit => ⟨[(1, .ptr 0 0), (7, .ptr 1 0)], [(0, .cells 25 [.tr (intsT memory), .tr (ti shared), .tr (ti locks), .tr (ti buffer), .tr (coresT cores)]), (1, .cells 25 [.tr (.v (.slice none 0 0)), .tr (ti shared), .tr (ti locks), .tr (ti buffer), .tr (coresT cores)])], 10⟩) (fun _ => True) ?_ ?_
  · conv => whnf
    refine LoopL.by (fun j : Nat => ⟨[(1, .ptr 0 0), (7, .ptr 1 0), (23, .tr (coresT cores)), (24, .tr (ti cores.length)), (25, .tr (ti j))], [(0, .cells 25 [.tr (intsT memory), .tr (ti shared), .tr (ti locks), .tr (ti buffer), .tr (coresT cores)]), (1, .cells 25 [.tr (.v (.slice none 0 0)), .tr (ti shared), .tr (ti locks), .tr (ti buffer), .sl 2 j]), (2, .own 2 40 ((cores.take j).map Cor.cells) [])], 10⟩)
      (fun j => j ≤ cores.length) (fun j => cores.length - j) 0 [_, _] [2]
      (Sub.mk' rfl ⟨⟨rfl, rfl⟩, ⟨rfl, rfl⟩, .inl rfl, .inl (congrArg (fun n : Nat => ti (n : Int)) (List.length_map ..)), .inl rfl, trivial⟩ ⟨⟨rfl, .inl rfl, .inl rfl, .inl rfl, .inl rfl, .inl rfl, trivial⟩, ⟨rfl, .inl rfl, .inl rfl, .inl rfl, .inl rfl, ⟨rfl, rfl, rfl, rfl⟩, trivial⟩, ⟨rfl, rfl, rfl, by decide⟩, trivial⟩ rfl rfl) (Nat.zero_le _) ?_
    rintro j hj -
    have hj1 : IntKind.i64.wrap ((j : Int) + 1) = ((j + 1 : Nat) : Int) := by rw [w64 (by omega) (by omega)]; omega
    conv => whnf
    refine csplit (fun h1 => ?_) (fun h1 => ?_)
    · have hjl : j < cores.length := by have := of_decide_eq_true h1; omega
      obtain ⟨⟨cn, cc⟩, hd⟩ : ∃ d, cores[j]? = some d := ⟨cores[j], by simp [hjl]⟩
      have hcc : cc.length ≤ 16384 := hcl _ (List.mem_of_getElem? hd)
      have hcn := k_cloneN cc (by omega)
      conv => whnf
      refine ⟨rfl, (show (0 : Int) ≤ (j : Int) by omega), (show (j : Int) < ((cores.map Cor.cells).length : Int) by rw [List.length_map]; omega), fun row hrow => ?_⟩
      replace hrow : (cores.map Cor.cells)[j]? = some row := hrow
      rw [List.getElem?_map, hd] at hrow
      cases hrow
      conv => whnf
      refine acall.new [] [] _ _ _ _ hcn rfl rfl rfl rfl aut aut rfl rfl ?_
      conv => whnf
      refine ⟨by simp; omega, rfl, Nat.le_refl _, (show (j + 1) * 40 ≤ 150000000000000 by omega), trivial, trivial, trivial, ?_⟩
      conv => whnf
      refine ⟨by kernel_rfl, fun _ => ?_⟩
      conv => whnf
      refine ⟨j + 1, [0, 1, 24], [], Sub.pk [24] ?_, hjl, by omega⟩
      conv => whnf
      refine ⟨rfl, rfl, (show cc.length ≤ (cc.map Ins.cells).length by simp), code_leaf0 cc, ?_⟩
      refine Sub0.mk' rfl ⟨⟨rfl, rfl⟩, ⟨rfl, rfl⟩, .inl rfl, .inl rfl, .inl (congrArg ti hj1), trivial⟩ ⟨⟨rfl, .inl rfl, .inl rfl, .inl rfl, .inl rfl, .inl rfl, trivial⟩, ⟨rfl, .inl rfl, .inl rfl, .inl rfl, .inl rfl, ⟨rfl, rfl⟩, trivial⟩, ⟨rfl, rfl, rfl, rfl, .inl ?_⟩, trivial⟩ rfl rfl
      refine (setC_last (by simp; omega)).trans ?_
      show (cores.take j).map Cor.cells ++ [[ts cn, .lst 9 64 ((cc.map Ins.cells).take cc.length)]] = _
      rw [List.take_of_length_le (l := cc.map Ins.cells) (by simp), List.take_add_one, hd, List.map_append]
      rfl
    · have hjl : j = cores.length := by have := of_decide_eq_false h1; omega
      subst hjl
      conv => whnf
      refine ⟨fun _ => ?_, fun h => absurd rfl h⟩
      conv => whnf
      exact ⟨(), [0, 1], [], Sub.mk' rfl ⟨⟨rfl, rfl⟩, ⟨rfl, rfl⟩, trivial⟩ ⟨⟨rfl, .inl rfl, .inl rfl, .inl rfl, .inl rfl, .inl rfl, trivial⟩, ⟨rfl, .inl rfl, .inl rfl, .inl rfl, .inl rfl, ⟨rfl, by simp, by rw [List.take_of_length_le (by simp), List.take_of_length_le (by simp)]⟩, trivial⟩, trivial⟩ rfl rfl, trivial⟩
  · rintro - - -
    refine CutL.by (fun _ : Unit => ⟨[(2, .ptr 0 0), (3, .tr (ti 0))], [(0, maB (newM ⟨memory, shared, locks, buffer, cores⟩)), (1, csB (newM ⟨memory, shared, locks, buffer, cores⟩).cores), (2, meB memory), (3, prB [])], 10⟩) (fun _ => True) ?_ ?_
    · conv => whnf
      refine ⟨(show (0 : Int) ≤ ((cores.map Cor.cells).length : Int) by omega), Int.le_refl _, (show ((cores.map Cor.cells).length : Int) * 168 ≤ 140737488351232 by rw [List.length_map]; omega), ?_⟩
      conv => whnf
      refine acall.new [] [] _ _ _ _ hcm rfl rfl rfl rfl aut aut rfl rfl ?_
      conv => whnf
      refine ⟨by kernel_rfl, fun _ => ?_⟩
      conv => whnf
      refine ⟨(), [_, _, _], [3], Sub.mk' rfl ⟨⟨rfl, rfl⟩, .inl rfl, trivial⟩ ⟨⟨rfl, .inl rfl, .inl rfl, .inl rfl, .inl rfl, .inl rfl, ⟨rfl, ?_⟩, ⟨rfl, rfl⟩, ⟨rfl, rfl, rfl, rfl⟩, trivial⟩, ⟨rfl, rfl, rfl, ?_, .inr ?_⟩, ⟨rfl, rfl, rfl, rfl⟩, ⟨rfl, _, _, _, rfl, by decide⟩, trivial⟩ rfl rfl, trivial⟩
      · simp [newM]
      · exact new_leafC _
      · exact new_rows cores
    · rintro - - -
      conv => whnf
      exact ⟨[0, 1, 2, 3], rfl, rfl, ⟨⟨rfl, rfl⟩, .inl rfl, trivial⟩, ⟨rfl, .inl rfl, .inl rfl, .inl rfl, .inl rfl, .inl rfl, ⟨rfl, rfl⟩, ⟨rfl, rfl⟩, ⟨rfl, rfl⟩, trivial⟩, ⟨rfl, rfl, rfl, rfl, .inl rfl⟩, ⟨rfl, rfl, rfl, rfl⟩, ⟨rfl, rfl, rfl, rfl⟩, trivial⟩
end Go.Proofs.YtcpolpbeimhgfaaGreat.am

namespace Go.Proofs.YtcpolpbeimhgfaaGreat.am
open Go Go.Proofs
theorem within_ok {all n u most : Int} (h : withinB all n u most = true) (hm : 0 < most) : 0 ≤ n ∧ n < most := by
  unfold withinB at h
  rw [Bool.or_eq_true] at h
  rcases h with h | h
  · rw [Bool.and_eq_true] at h
    have : n = 0 := by simpa using h.2
    omega
  · rw [Bool.and_eq_true, Bool.and_eq_true] at h
    exact ⟨of_decide_eq_true h.1.2, of_decide_eq_true h.2⟩
structure RightI (i : Ins) (code mem : Int) : Prop where
  kind : 1 ≤ i.kind ∧ i.kind < 11
  d : 0 ≤ i.d ∧ i.d < 16
  a : 0 ≤ i.a ∧ i.a < 16
  b : 0 ≤ i.b ∧ i.b < 16
  addr : i.kind = 3 ∨ i.kind = 4 ∨ i.kind = 5 → 0 ≤ i.addr ∧ i.addr < mem
  to_ : 0 < code → 0 ≤ i.to_ ∧ i.to_ < code
  op : i.kind = 2 → two i.op = true ∨ i.op = 17 ∨ i.op = 18
theorem op_ok {all op : Int} (ha : (band all 1 == 0) = false) (h : opB all op = true) : two op = true ∨ op = 17 ∨ op = 18 := by
  unfold opB at h
  rw [ha] at h
  simp only [Bool.false_and, Bool.false_or, Bool.and_eq_true, Bool.not_eq_true'] at h
  have h2 := h.2
  by_cases hr : 1 ≤ op ∧ op ≤ 18
  · by_cases h3 : op ≤ 16
    · left; unfold two; simp; omega
    · right; omega
  · exfalso
    have e : opword op = ⟨#[]⟩ := by
      unfold opword byK
      by_cases h0 : op ≤ 0
      · rw [show op.toNat = 0 by omega]; rfl
      · rw [List.getD_eq_getElem?_getD, List.getElem?_eq_none (by show 19 ≤ op.toNat; omega)]; rfl
    rw [e] at h2
    exact absurd h2 (by rw [show seq ⟨#[]⟩ ⟨#[]⟩ = true by kernel_rfl]; decide)
theorem bm3 : (band (kmask 3) 16 == 0) = false := by kernel_rfl
theorem bm4 : (band (kmask 4) 16 == 0) = false := by kernel_rfl
theorem bm5 : (band (kmask 5) 16 == 0) = false := by kernel_rfl
theorem bm7 : (band 7 1 == 0) = false := by kernel_rfl
theorem bm15 : (band (kmask 2) 1 == 0) = false := by kernel_rfl
theorem right_i {i : Ins} {code mem : Int} (h : rightB i code mem = true) : RightI i code mem := by
  have hk := right_kind h
  unfold rightB at h
  simp only [Bool.and_eq_true] at h
  obtain ⟨_, ⟨⟨⟨⟨⟨h1, h2⟩, h3⟩, h4⟩, h5⟩, h6⟩, _⟩ := h
  refine ⟨hk, within_ok h2 (by decide), within_ok h3 (by decide), within_ok h4 (by decide), fun hc => ?_, fun hc => within_ok h6 hc, fun hc => ?_⟩
  · have hb : (band (usedM i.kind i.op) 16 == 0) = false := by
      have e2 : (i.kind == 2) = false := beq_eq_false_iff_ne.2 (by omega)
      have e3 : usedM i.kind i.op = kmask i.kind := by unfold usedM; rw [e2]; rfl
      rw [e3]
      rcases hc with e | e | e <;> rw [e]
      · exact bm3
      · exact bm4
      · exact bm5
    unfold withinB at h5
    rw [hb] at h5
    simp only [Bool.false_and, Bool.false_or, Bool.and_eq_true] at h5
    exact ⟨of_decide_eq_true h5.1.2, of_decide_eq_true h5.2⟩
  · refine op_ok ?_ h1
    unfold usedM
    rw [hc]
    cases two i.op
    · exact bm7
    · exact bm15
theorem good_last {o : Ob} (h : (checkO o).1 = 0) : ∀ c ∈ o.cores, lastBad c = false := by
  obtain ⟨h1, _⟩ := check_iff.1 h
  unfold shapedB at h1
  cases hb : headBad o
  · rw [hb] at h1
    exact fun c hc => (coresOk_mem h1 c hc).2.2.2
  · rw [hb] at h1; cases h1

/-! the step -/
def insAt (s : Mst) (k : Nat) (c : Cst) : Option Ins := (s.o.cores[k]?).bind fun r => r.code[c.at_.toNat]?
abbrev seeS (s : Mst) (c : Cst) (i : Ins) : Int × Bool := seeB c.buf i.addr (s.mem.getD i.addr.toNat 0, false)
def runS (s : Mst) (k : Nat) (c : Cst) (i : Ins) : Mst × Did := match i.kind.toNat with
  | 1 => (s.setCore k ((c1 c).setReg i.d i.word), ⟨1, k, c.at_, 0, 0, 0, false⟩)
  | 2 => (s.setCore k ((c1 c).setReg i.d (aluW i.op (c.reg i.a) (c.reg i.b))), ⟨1, k, c.at_, 0, 0, 0, false⟩)
  | 3 => (s.setCore k ((c1 c).setReg i.d (seeS s c i).1), ⟨2, k, c.at_, i.addr, (seeS s c i).1, 0, (seeS s c i).2⟩)
  | 4 => (s.setCore k { c1 c with buf := c.buf ++ [Sto.mk c.at_ i.addr (c.reg i.a)] }, ⟨3, k, c.at_, i.addr, c.reg i.a, 0, false⟩)
  | 5 => ({ s.setCore k ((c1 c).setReg i.d (s.mem.getD i.addr.toNat 0)) with mem := s.mem.set i.addr.toNat (c.reg i.d) }, ⟨4, k, c.at_, i.addr, s.mem.getD i.addr.toNat 0, c.reg i.d, false⟩)
  | 6 => (s.setCore k (c1 c), ⟨5, k, c.at_, 0, 0, 0, false⟩)
  | 7 => ({ s.setCore k (c1 c) with prints := s.prints ++ [Prn.mk k (c.reg i.a)] }, ⟨6, k, c.at_, 0, c.reg i.a, 0, false⟩)
  | 8 => (s.setCore k { c with at_ := i.to_ }, ⟨1, k, c.at_, 0, 0, 0, false⟩)
  | 9 => (s.setCore k { c with at_ := bif c.reg i.a == 0 then i.to_ else c.at_ + 1 }, ⟨1, k, c.at_, 0, 0, 0, false⟩)
  | 10 => (s.setCore k { c with halted := true, at_ := c.at_ }, ⟨7, k, c.at_, 0, 0, 0, false⟩)
  | _ => (s, zeroD)
def runC (s : Mst) (k : Nat) (c : Cst) : Mst × Did × Int :=
  if c.halted = true then (s, zeroD, 0) else match insAt s k c with
    | none => (s, zeroD, 0)
    | some i => if stallB s c i = true then (s, zeroD, 181) else ((runS s k c i).1, (runS s k c i).2, 0)
def drainC (s : Mst) (k : Nat) (c : Cst) : Mst × Did × Int := match c.buf with
  | [] => (s, zeroD, 0)
  | x :: l => ({ s.setCore k { c with buf := l } with mem := s.mem.set x.addr.toNat x.word }, ⟨8, k, x.at_, x.addr, x.word, 0, false⟩, 0)
def stepS (s : Mst) (kd k : Int) : Mst × Did × Int :=
  if kd ≠ 1 ∧ kd ≠ 2 then (s, zeroD, 182) else if k < 0 ∨ (s.cores.length : Int) ≤ k then (s, zeroD, 180) else
    match s.cores[k.toNat]? with
    | none => (s, zeroD, 180)
    | some c => if kd = 1 then runC s k.toNat c else drainC s k.toNat c

/-! what stays -/
structure InvC (o : Ob) (r : Cor) (c : Cst) : Prop where
  regs : c.regs.length = 16
  at0 : 0 ≤ c.at_
  at1 : c.at_ < r.code.length
  buf : (c.buf.length : Int) ≤ o.buffer
  adr : ∀ x ∈ c.buf, (0 ≤ x.addr ∧ x.addr < o.memory.length) ∧ (0 ≤ x.at_ ∧ x.at_ < 16384)
structure VInv (s : Mst) : Prop where
  chk : (checkO s.o).1 = 0
  len : s.cores.length = s.o.cores.length
  mem : s.mem.length = s.o.memory.length
  core : ∀ (k : Nat) (c : Cst) (r : Cor), s.cores[k]? = some c → s.o.cores[k]? = some r → InvC s.o r c
theorem VInv.new {o : Ob} (h : (checkO o).1 = 0) : VInv (newM o) := by
  have hg := check_good h
  refine ⟨h, by simp [newM], rfl, fun k c r hc hr => ?_⟩
  have hc : (o.cores.map fun _ => newC)[k]? = some c := hc
  have hr : o.cores[k]? = some r := hr
  rw [List.getElem?_map, hr] at hc
  obtain rfl := Option.some.inj hc
  have := (hg.code r (List.mem_of_getElem? hr)).1
  exact ⟨rfl, Int.le_refl _, by show (0 : Int) < _; omega, by show (0 : Int) ≤ o.buffer; have := hg.buffer; omega, fun x hx => by cases hx⟩
theorem VInv.set {s : Mst} (h : VInv s) {k : Nat} {c : Cst} (hc : ∀ r, s.o.cores[k]? = some r → InvC s.o r c) : VInv (s.setCore k c) := by
  refine ⟨h.chk, by show (s.cores.set k c).length = _; rw [List.length_set]; exact h.len, h.mem, fun j x r hx hr => ?_⟩
  have hx : (s.cores.set k c)[j]? = some x := hx
  by_cases e : k = j
  · subst e
    have hlt : k < s.cores.length := by have := (List.getElem?_eq_some_iff.1 hx).1; rwa [List.length_set] at this
    rw [List.getElem?_set_self hlt] at hx
    obtain rfl := Option.some.inj hx
    exact hc r hr
  · rw [List.getElem?_set_ne e] at hx
    exact h.core j x r hx hr
theorem VInv.memory {s : Mst} (h : VInv s) (i : Nat) (w : Int) : VInv { s with mem := s.mem.set i w } := ⟨h.chk, h.len, by rw [List.length_set]; exact h.mem, h.core⟩
theorem VInv.printed {s : Mst} (h : VInv s) (l : List Prn) : VInv { s with prints := l } := ⟨h.chk, h.len, h.mem, h.core⟩
theorem VInv.cor {s : Mst} (h : VInv s) {k : Nat} {c : Cst} (hc : s.cores[k]? = some c) : ∃ r, s.o.cores[k]? = some r := by
  have := (List.getElem?_eq_some_iff.1 hc).1
  rw [h.len] at this
  exact ⟨_, List.getElem?_eq_getElem this⟩
theorem VInv.ins {s : Mst} (h : VInv s) {k : Nat} {c : Cst} {r : Cor} (hc : s.cores[k]? = some c) (hr : s.o.cores[k]? = some r) : ∃ i, insAt s k c = some i ∧ r.code[c.at_.toNat]? = some i ∧ RightI i r.code.length s.o.memory.length := by
  have hi := h.core k c r hc hr
  have hlt : c.at_.toNat < r.code.length := by have := hi.at0; have := hi.at1; omega
  refine ⟨_, ?_, List.getElem?_eq_getElem hlt, right_i ((check_good h.chk).right r (List.mem_of_getElem? hr) _ (List.getElem_mem hlt))⟩
  unfold insAt
  rw [hr]
  exact List.getElem?_eq_getElem hlt
/-- what comes next lies in the code -/
theorem next_in {r : Cor} {n : Nat} {i : Ins} (hi : r.code[n]? = some i) (hl : lastBad r = false) (h10 : i.kind ≠ 10) (h8 : i.kind ≠ 8) : n + 1 < r.code.length := by
  have hk := (List.getElem?_eq_some_iff.1 hi).1
  apply Decidable.byContradiction
  intro hc
  have e : n = r.code.length - 1 := by omega
  unfold lastBad at hl
  rw [← e, hi] at hl
  simp [h10, h8] at hl
theorem runS_inv {s : Mst} (h : VInv s) {k : Nat} {c : Cst} {r : Cor} {i : Ins} (hc : s.cores[k]? = some c) (hr : s.o.cores[k]? = some r) (hi : r.code[c.at_.toNat]? = some i) (hst : stallB s c i = false) : VInv (runS s k c i).1 := by
  have hI := h.core k c r hc hr
  have hg := check_good h.chk
  have hR := right_i (hg.right r (List.mem_of_getElem? hr) i (List.mem_of_getElem? hi))
  have hcode := hg.code r (List.mem_of_getElem? hr)
  have hl := good_last h.chk r (List.mem_of_getElem? hr)
  have h0 := hI.at0
  have h1 := hI.at1
  have nx : i.kind ≠ 10 → i.kind ≠ 8 → c.at_ + 1 < r.code.length := fun a b => by have := next_in hi hl a b; omega
  have one : ∀ {x : Cst}, (c.at_ + 1 < r.code.length) → x.at_ = c.at_ + 1 → x.regs.length = 16 → x.buf = c.buf → InvC s.o r x := fun a e1 e2 e3 => ⟨e2, by omega, by omega, by rw [e3]; exact hI.buf, by rw [e3]; exact hI.adr⟩
  have r16 : ∀ d w, ((c1 c).setReg d w).regs.length = 16 := fun d w => by show (c.regs.set d.toNat w).length = 16; rw [List.length_set]; exact hI.regs
  have un : ∀ {x : Cst}, InvC s.o r x → ∀ r', s.o.cores[k]? = some r' → InvC s.o r' x := fun hx r' hr' => by rw [hr] at hr'; cases hr'; exact hx
  have hk := hR.kind
  have hkc : i.kind = 1 ∨ i.kind = 2 ∨ i.kind = 3 ∨ i.kind = 4 ∨ i.kind = 5 ∨ i.kind = 6 ∨ i.kind = 7 ∨ i.kind = 8 ∨ i.kind = 9 ∨ i.kind = 10 := by omega
  unfold runS
  rcases hkc with e | e | e | e | e | e | e | e | e | e <;> rw [e]
  · exact h.set (un (one (nx (by omega) (by omega)) rfl (r16 _ _) rfl))
  · exact h.set (un (one (nx (by omega) (by omega)) rfl (r16 _ _) rfl))
  · exact h.set (un (one (nx (by omega) (by omega)) rfl (r16 _ _) rfl))
  · have hb : (c.buf.length : Int) < s.o.buffer := by
      unfold stallB at hst
      rw [e] at hst
      have := of_decide_eq_false hst
      omega
    have hA := hR.addr (.inr (.inl e))
    refine h.set (un ⟨hI.regs, (by show (0 : Int) ≤ c.at_ + 1; omega), nx (by omega) (by omega), ?_, fun x hx => ?_⟩)
    · show ((c.buf ++ [_]).length : Int) ≤ _
      rw [List.length_append]
      simp only [List.length_cons, List.length_nil]
      omega
    · have hx : x ∈ c.buf ++ [Sto.mk c.at_ i.addr (c.reg i.a)] := hx
      rw [List.mem_append, List.mem_singleton] at hx
      rcases hx with hx | rfl
      · exact hI.adr x hx
      · exact ⟨hA, h0, by show c.at_ < 16384; omega⟩
  · exact (h.set (un (one (nx (by omega) (by omega)) rfl (r16 _ _) rfl))).memory _ _
  · exact h.set (un (one (x := c1 c) (nx (by omega) (by omega)) rfl hI.regs rfl))
  · exact (h.set (un (one (x := c1 c) (nx (by omega) (by omega)) rfl hI.regs rfl))).printed _
  · have ht := hR.to_ (by omega)
    exact h.set (un ⟨hI.regs, ht.1, ht.2, hI.buf, hI.adr⟩)
  · have ht := hR.to_ (by omega)
    have hn := nx (by omega) (by omega)
    refine h.set (un ⟨hI.regs, ?_, ?_, hI.buf, hI.adr⟩)
    · show 0 ≤ bif c.reg i.a == 0 then i.to_ else c.at_ + 1
      cases c.reg i.a == 0
      · show 0 ≤ c.at_ + 1; omega
      · exact ht.1
    · show (bif c.reg i.a == 0 then i.to_ else c.at_ + 1) < _
      cases c.reg i.a == 0
      · exact hn
      · exact ht.2
  · exact h.set (un ⟨hI.regs, h0, h1, hI.buf, hI.adr⟩)
theorem drainC_inv {s : Mst} (h : VInv s) {k : Nat} {c : Cst} (hc : s.cores[k]? = some c) : VInv (drainC s k c).1 := by
  unfold drainC
  split
  · exact h
  · rename_i x l hb
    refine (h.set (fun r hr => ?_)).memory _ _
    have hI := h.core k c r hc hr
    refine ⟨hI.regs, hI.at0, hI.at1, ?_, fun y hy => hI.adr y (by rw [hb]; exact .tail _ hy)⟩
    have := hI.buf
    rw [hb] at this
    show (l.length : Int) ≤ _
    simp only [List.length_cons] at this
    omega
theorem stepS_inv {s : Mst} (h : VInv s) (kd k : Int) : VInv (stepS s kd k).1 := by
  unfold stepS
  split
  · exact h
  split
  · exact h
  split
  · exact h
  rename_i c hc
  split
  · unfold runC
    split
    · exact h
    obtain ⟨r, hr⟩ := h.cor hc
    obtain ⟨i, e, hi, _⟩ := h.ins hc hr
    rw [e]
    show VInv (if stallB s c i = true then _ else _ : Mst × Did × Int).1
    split
    · exact h
    · rename_i hs
      exact runS_inv h hc hr hi (by simpa using hs)
  · exact drainC_inv h hc
/-- at most one word is printed -/
theorem runS_prints (s : Mst) (k : Nat) (c : Cst) (i : Ins) : (runS s k c i).1.prints.length ≤ s.prints.length + 1 := by
  unfold runS
  split <;> first | exact Nat.le_succ _ | (show (s.prints ++ [_]).length ≤ _; simp)
theorem stepS_prints (s : Mst) (kd k : Int) : (stepS s kd k).1.prints.length ≤ s.prints.length + 1 := by
  unfold stepS runC drainC
  repeat' split
  all_goals first | exact Nat.le_succ _ | exact runS_prints ..
end Go.Proofs.YtcpolpbeimhgfaaGreat.am

namespace Go.Proofs.YtcpolpbeimhgfaaGreat.am
open Go Go.Proofs
/-- what a printing step leaves: the prints lie in a new block -/
abbrev Mst.prA (s : Mst) : List (Option Blk) := [some (maP s 4), some (csB s.cores), some (meB s.mem), none, some (prB s.prints)]
def StepC (s s' : Mst) (kd k : Int) (d : Did) (e : Int) : Prop :=
  K 34 [.ptr 0 0, .agg [.tr (tu kd), .tr (ti k)]] s.blks (.ret (.tup [d.av, .tr (ti e)])) (s'.blks.map some) ∨
  K 34 [.ptr 0 0, .agg [.tr (tu kd), .tr (ti k)]] s.blks (.ret (.tup [d.av, .tr (ti e)])) s'.prA
theorem has_out {s : Mst} {k : Int} (h : k < 0 ∨ (s.cores.length : Int) ≤ k) : hasE s k = 180 := by
  unfold hasE
  rcases h with h | h
  · rw [show decide (k < 0) = true from decide_eq_true h]; rfl
  · rw [show decide (k ≥ (s.cores.length : Int)) = true from decide_eq_true h, Bool.or_true]; rfl
theorem k_step (s : Mst) (h : VInv s) (hp : s.prints.length ≤ 1048576) (kd k : Int) : StepC s (stepS s kd k).1 kd k (stepS s kd k).2.1 (stepS s kd k).2.2 := by
  unfold stepS
  split
  · rename_i hk
    exact .inl (k_stepW s kd k hk.1 hk.2)
  rename_i hkd
  have hkd : kd = 1 ∨ kd = 2 := by omega
  split
  · rename_i hk
    have e := has_out hk
    rcases hkd with rfl | rfl
    · have := k_runE s k (by omega)
      rw [e] at this
      exact .inl (k_stepR s s k zeroD 180 this)
    · have := k_drainE s k (by omega)
      rw [e] at this
      exact .inl (k_stepD s s k zeroD 180 this)
  rename_i hk
  obtain ⟨n, rfl⟩ := Int.eq_ofNat_of_zero_le (a := k) (by omega)
  rw [Int.toNat_natCast]
  have hn : n < s.cores.length := by omega
  obtain ⟨c, hc⟩ : ∃ c, s.cores[n]? = some c := ⟨_, List.getElem?_eq_getElem hn⟩
  obtain ⟨r, hr⟩ := h.cor hc
  obtain ⟨i, e, hi, hR⟩ := h.ins hc hr
  have hI := h.core n c r hc hr
  have hg := check_good h.chk
  have hcode := hg.code r (List.mem_of_getElem? hr)
  have hbuf := hg.buffer
  have h16 := hI.regs
  have h0 := hI.at0
  have h1 := hI.at1
  have hb := hI.buf
  have hmem := h.mem
  have hb64 : c.buf.length ≤ 64 := by omega
  have h9 : c.at_ ≤ 16384 := by omega
  rw [hc]
  show StepC s (if kd = 1 then _ else _ : Mst × Did × Int).1 kd n (if kd = 1 then _ else _ : Mst × Did × Int).2.1 (if kd = 1 then _ else _ : Mst × Did × Int).2.2
  rcases hkd with rfl | rfl
  · rw [if_pos rfl]
    unfold runC
    split
    · rename_i hh
      exact .inl (k_stepR s s n zeroD 0 (k_runH s n i hc h16 hr h0 hi hh h9))
    rename_i hh
    have hh : c.halted = false := by simpa using hh
    rw [e]
    show StepC s (if stallB s c i = true then _ else _ : Mst × Did × Int).1 1 n (if stallB s c i = true then _ else _ : Mst × Did × Int).2.1 (if stallB s c i = true then _ else _ : Mst × Did × Int).2.2
    split
    · rename_i hs
      exact .inl (k_stepR s s n zeroD 181 (k_runS s n i hc h16 hr h0 hi hh hs h9))
    rename_i hs
    have hs : stallB s c i = false := by simpa using hs
    have hk := hR.kind
    have hkc : i.kind = 1 ∨ i.kind = 2 ∨ i.kind = 3 ∨ i.kind = 4 ∨ i.kind = 5 ∨ i.kind = 6 ∨ i.kind = 7 ∨ i.kind = 8 ∨ i.kind = 9 ∨ i.kind = 10 := by omega
    have hd := hR.d
    have ha := hR.a
    have hbb := hR.b
    have hA := hR.addr
    rcases hkc with q | q | q | q | q | q | q | q | q | q
    · have ht := k_run1 s n i hc h16 hr h0 hi hh hs hd.1 hd.2 q h9
      unfold runS; rw [q]
      exact .inl (k_stepR s _ n _ 0 ht)
    · have ht := k_run2 s n i hc h16 hr h0 hi hh hs hd.1 hd.2 ha.1 ha.2 hbb.1 hbb.2 (hR.op q) q h9
      unfold runS; rw [q]
      exact .inl (k_stepR s _ n _ 0 ht)
    · have hA := hA (.inl q)
      have ht := k_run3 s n i hc h16 hr h0 hi hh hs hd.1 hd.2 hA.1 (by omega) hb64 q h9
      unfold runS; rw [q]
      exact .inl (k_stepR s _ n _ 0 ht)
    · have ht := k_run4 s n i hc h16 hr h0 hi hh hs ha.1 ha.2 hb64 q h9
      unfold runS; rw [q]
      exact .inl (k_stepR s _ n _ 0 ht)
    · have hA := hA (.inr (.inr q))
      have ht := k_run5 s n i hc h16 hr h0 hi hh hs hd.1 hd.2 hA.1 (by omega) q h9
      unfold runS; rw [q]
      exact .inl (k_stepR s _ n _ 0 ht)
    · have ht := k_run6 s n i hc h16 hr h0 hi hh hs q h9
      unfold runS; rw [q]
      exact .inl (k_stepR s _ n _ 0 ht)
    · have ht := k_run7 s n i hc h16 hr h0 hi hh hs ha.1 ha.2 hp q h9
      unfold runS; rw [q]
      exact .inr (k_stepP s { s.setCore n (c1 c) with prints := s.prints ++ [Prn.mk n (c.reg i.a)] } n _ 0 ht)
    · have ht := k_run8 s n i hc h16 hr h0 hi hh hs q h9
      unfold runS; rw [q]
      exact .inl (k_stepR s _ n _ 0 ht)
    · have ht := k_run9 s n i hc h16 hr h0 hi hh hs ha.1 ha.2 q h9
      unfold runS; rw [q]
      exact .inl (k_stepR s _ n _ 0 ht)
    · have ht := k_run10 s n i hc h16 hr h0 hi hh hs q h9
      unfold runS; rw [q]
      exact .inl (k_stepR s _ n _ 0 ht)
  · rw [if_neg (by decide)]
    unfold drainC
    split
    · rename_i hb0
      exact .inl (k_stepD s s n zeroD 0 (k_drain0 s n hc h16 hb0))
    · rename_i x l hbx
      have hx := (hI.adr x (by rw [hbx]; exact .head _)).1
      have hl : l.length ≤ 64 := by rw [hbx] at hb64; simp only [List.length_cons] at hb64; omega
      exact .inl (k_stepD s _ n _ 0 (k_drain s n hc h16 hbx hl hx.1 (by omega)))
end Go.Proofs.YtcpolpbeimhgfaaGreat.am

namespace Go.Proofs.YtcpolpbeimhgfaaGreat.am
open Go Go.Proofs
theorem ctf {x : Bool} {p : Prop} (a : x = true) (b : x = false) : p := by rw [a] at b; cases b
def addrK (k : Int) : Bool := k == 2 || (k == 3 || (k == 4 || k == 8))
def outD (d : Did) : Bool := d.kind == 0 || (decide (d.kind ≥ 9) || (decide (d.core < 0) || (decide (d.core ≥ 8) || (decide (d.at_ < 0) || (decide (d.at_ ≥ 16384) || (decide (d.addr < 0) || decide (d.addr ≥ 4096)))))))
def usdD (d : Did) : Bool := (addrK d.kind || d.addr == 0) && ((addrK d.kind || (d.kind == 6 || d.word == 0)) && ((d.kind == 4 || d.put == 0) && (d.kind == 2 || !d.own)))
def rightD (d : Did) : Bool := bif outD d then false else usdD d
abbrev didA (dk dc da dd dw dp : Int) (dn : Bool) : AV := .agg [.tr (tu dk), .tr (ti dc), .tr (ti da), .tr (ti dd), .tr (ti dw), .tr (ti dp), .tr (tb dn)]
end Go.Proofs.YtcpolpbeimhgfaaGreat.am

namespace Go.Proofs.YtcpolpbeimhgfaaGreat.am
open Go Go.Proofs
abbrev alwA (k : Int) : AV := .fn 85 [.ept [tu k]]
abbrev onA (k : Int) : AV := .fn 86 [.ept [tu k]]
def onE (k w : Int) : Int := bif w == 1 then k else 0
theorem t_always (k : Int) : K 58 [.tr (tu k)] [] (.ret (alwA k)) [] := by
  refine Ctr.of hT hmix Tryz.func58 rfl (fun _ _ => by kernel_rfl) rfl fun hok => ?_
  clear hok
  conv => whnf
  exact ⟨⟨rfl, ⟨rfl, rfl⟩, trivial⟩, trivial⟩
theorem t_on (k : Int) : K 59 [.tr (tu k)] [] (.ret (onA k)) [] := by
  refine Ctr.of hT hmix Tryz.func59 rfl (fun _ _ => by kernel_rfl) rfl fun hok => ?_
  clear hok
  conv => whnf
  exact ⟨⟨rfl, ⟨rfl, rfl⟩, trivial⟩, trivial⟩
theorem k_always1 (k w dk dc da dd dw dp : Int) (dn : Bool) : K 85 [.tr (ti w), didA dk dc da dd dw dp dn, .ept [tu k]] [] (.ret (.tr (tu k))) [] := by
  refine Ctr.of hT hmix Tryz.func85 rfl (fun _ _ => by kernel_rfl) rfl fun hok => ?_
  clear hok
  conv => whnf
  exact ⟨.inl rfl, trivial⟩
theorem k_on1 (k w dk dc da dd dw dp : Int) (dn : Bool) : K 86 [.tr (ti w), didA dk dc da dd dw dp dn, .ept [tu k]] [] (.ret (.tr (tu (onE k w)))) [] := by
  refine Ctr.of hT hmix Tryz.func86 rfl (fun _ _ => by kernel_rfl) rfl fun hok => ?_
  clear hok
  unfold onE
  conv => whnf
  refine csplit (fun h => ?_) (fun h => ?_)
  · rw [h]
    conv => whnf
    exact ⟨.inl rfl, trivial⟩
  · rw [h]
    conv => whnf
    exact ⟨.inl rfl, trivial⟩
def drE (w dw : Int) : Int := bif w == 2 && dw == 0 then 5 else onE 2 w
def swE (w dw dp : Int) : Int := bif w == 2 && (dw == 0 && dp != 0) then 4 else onE 3 w
theorem k_drained (w dk dc da dd dw dp : Int) (dn : Bool) : K 61 [.tr (ti w), didA dk dc da dd dw dp dn] [] (.ret (.tr (tu (drE w dw)))) [] := by
  have h1 := t_on 2
  have h2 := k_on1 2 w dk dc da dd dw dp dn
  refine Ctr.of hT hmix Tryz.func61 rfl (fun _ _ => by kernel_rfl) rfl fun hok => ?_
  clear hok
  generalize hR : drE w dw = R
  unfold drE at hR
  generalize onE 2 w = E at h2 hR
  conv => whnf
  (repeat' (refine csplit (fun g => ?_) (fun g => ?_) <;> first | exact ctf g (by assumption) | exact ctf (by assumption) g | conv => whnf))
  all_goals first
    | (refine ⟨.inl (congrArg tu ?_), trivial⟩; rw [← hR]; clear hR; simp only [*, Bool.false_and, Bool.true_and, Bool.and_false, Bool.and_true, cond_true, cond_false] <;> done)
    | (refine acall.pure _ h1 rfl rfl ?_; conv => whnf
       refine acall.au [] [] h2 ?_; conv => whnf
       refine ⟨by kernel_rfl, fun _ => ?_⟩
       conv => whnf
       refine ⟨.inl (congrArg tu ?_), trivial⟩; rw [← hR]; clear hR; simp only [*, Bool.false_and, Bool.true_and, Bool.and_false, Bool.and_true, cond_true, cond_false] <;> done)
theorem k_swapped (w dk dc da dd dw dp : Int) (dn : Bool) : K 60 [.tr (ti w), didA dk dc da dd dw dp dn] [] (.ret (.tr (tu (swE w dw dp)))) [] := by
  have h1 := t_on 3
  have h2 := k_on1 3 w dk dc da dd dw dp dn
  refine Ctr.of hT hmix Tryz.func60 rfl (fun _ _ => by kernel_rfl) rfl fun hok => ?_
  clear hok
  generalize hR : swE w dw dp = R
  unfold swE at hR
  generalize onE 3 w = E at h2 hR
  conv => whnf
  (repeat' (refine csplit (fun g => ?_) (fun g => ?_) <;> first | exact ctf g (by assumption) | exact ctf (by assumption) g | conv => whnf))
  all_goals first
    | (refine ⟨.inl (congrArg tu ?_), trivial⟩; rw [← hR]; clear hR; simp only [*, Bool.false_and, Bool.true_and, Bool.and_false, Bool.and_true, cond_true, cond_false] <;> done)
    | (refine acall.pure _ h1 rfl rfl ?_; conv => whnf
       refine acall.au [] [] h2 ?_; conv => whnf
       refine ⟨by kernel_rfl, fun _ => ?_⟩
       conv => whnf
       refine ⟨.inl (congrArg tu ?_), trivial⟩; rw [← hR]; clear hR; simp only [*, Bool.false_and, Bool.true_and, Bool.and_false, Bool.and_true, cond_true, cond_false] <;> done)
abbrev fmR0 : List AV := [.tr (ts ⟨#[]⟩), .tr (tb false), .tr (tb false), .tr (tb false), .tr (tb false), .tr (.v .nilFunc)]
abbrev fmR1 : List AV := [.tr (ts ⟨#[99, 111, 109, 112, 117, 116, 101]⟩), .tr (tb false), .tr (tb false), .tr (tb false), .tr (tb false), alwA 0]
abbrev fmR2 : List AV := [.tr (ts ⟨#[108, 111, 97, 100]⟩), .tr (tb true), .tr (tb true), .tr (tb false), .tr (tb true), onA 1]
abbrev fmR3 : List AV := [.tr (ts ⟨#[115, 116, 111, 114, 101]⟩), .tr (tb true), .tr (tb true), .tr (tb false), .tr (tb false), alwA 0]
abbrev fmR4 : List AV := [.tr (ts ⟨#[115, 119, 97, 112]⟩), .tr (tb true), .tr (tb true), .tr (tb true), .tr (tb false), .fn 60 []]
abbrev fmR5 : List AV := [.tr (ts ⟨#[102, 101, 110, 99, 101]⟩), .tr (tb false), .tr (tb false), .tr (tb false), .tr (tb false), alwA 0]
abbrev fmR6 : List AV := [.tr (ts ⟨#[112, 114, 105, 110, 116]⟩), .tr (tb false), .tr (tb true), .tr (tb false), .tr (tb false), alwA 6]
abbrev fmR7 : List AV := [.tr (ts ⟨#[104, 97, 108, 116]⟩), .tr (tb false), .tr (tb false), .tr (tb false), .tr (tb false), alwA 7]
abbrev fmR8 : List AV := [.tr (ts ⟨#[100, 114, 97, 105, 110]⟩), .tr (tb true), .tr (tb true), .tr (tb false), .tr (tb false), .fn 61 []]
def fmRs : List (List AV) := [fmR0, fmR1, fmR2, fmR3, fmR4, fmR5, fmR6, fmR7, fmR8]
def formA (k : Int) : AV := .agg (fmRs.getD k.toNat fmR0)
abbrev formsA : AV := .agg [.tr (ts ⟨#[]⟩), .tr (tb false), .tr (tb false), .tr (tb false), .tr (tb false), .tr (.v .nilFunc), .tr (ts ⟨#[99, 111, 109, 112, 117, 116, 101]⟩), .tr (tb false), .tr (tb false), .tr (tb false), .tr (tb false), alwA 0, .tr (ts ⟨#[108, 111, 97, 100]⟩), .tr (tb true), .tr (tb true), .tr (tb false), .tr (tb true), onA 1, .tr (ts ⟨#[115, 116, 111, 114, 101]⟩), .tr (tb true), .tr (tb true), .tr (tb false), .tr (tb false), alwA 0, .tr (ts ⟨#[115, 119, 97, 112]⟩), .tr (tb true), .tr (tb true), .tr (tb true), .tr (tb false), .fn 60 [], .tr (ts ⟨#[102, 101, 110, 99, 101]⟩), .tr (tb false), .tr (tb false), .tr (tb false), .tr (tb false), alwA 0, .tr (ts ⟨#[112, 114, 105, 110, 116]⟩), .tr (tb false), .tr (tb true), .tr (tb false), .tr (tb false), alwA 6, .tr (ts ⟨#[104, 97, 108, 116]⟩), .tr (tb false), .tr (tb false), .tr (tb false), .tr (tb false), alwA 7, .tr (ts ⟨#[100, 114, 97, 105, 110]⟩), .tr (tb true), .tr (tb true), .tr (tb false), .tr (tb false), .fn 61 []]
set_option maxRecDepth 100000 in
theorem t_forms : K 39 [] [] (.ret formsA) [] := by
  refine Ctr.of hT hmix Tryz.func39 rfl (fun _ _ => by kernel_rfl) rfl fun hok => ?_
  clear hok
  conv => whnf
  refine acall.pure _ (t_always 0) rfl rfl fun _ => ?_
  conv => whnf
  refine acall.pure _ (t_on 1) rfl rfl fun _ => ?_
  conv => whnf
  refine acall.pure _ (t_always 6) rfl rfl fun _ => ?_
  conv => whnf
  refine acall.pure _ (t_always 7) rfl rfl fun _ => ?_
  conv => whnf
  exact ⟨aut, trivial⟩
end Go.Proofs.YtcpolpbeimhgfaaGreat.am

namespace Go.Proofs.YtcpolpbeimhgfaaGreat.am
open Go Go.Proofs
def okD (d : Did) : Bool := decide (d.core ≥ 0) && (decide (d.core < 8) && (decide (d.at_ ≥ 0) && (decide (d.at_ < 16384) && (decide (d.addr ≥ 0) && decide (d.addr < 4096)))))
def frm (a w p o : Bool) (d : Did) : Bool := okD d && ((a || d.addr == 0) && ((w || d.word == 0) && ((p || d.put == 0) && (o || !d.own))))
theorem dec_ge {a b : Int} : decide (a ≥ b) = !decide (a < b) := by
  rw [← decide_not]
  exact decide_eq_decide.2 ⟨fun h => by omega, fun h => by omega⟩
theorem dec_lt {a b : Int} : decide (a < b) = !decide (a ≥ b) := by rw [dec_ge, Bool.not_not]
theorem outD_ok (d : Did) : outD d = (d.kind == 0 || (decide (d.kind ≥ 9) || !okD d)) := by
  unfold outD okD
  rw [dec_ge (a := d.core) (b := 0), dec_lt (a := d.core) (b := 8), dec_ge (a := d.at_) (b := 0), dec_lt (a := d.at_) (b := 16384), dec_ge (a := d.addr) (b := 0), dec_lt (a := d.addr) (b := 4096)]
  simp only [Bool.not_and, Bool.not_not]
theorem right_1 (dc da dd dw dp : Int) (dn : Bool) : rightD ⟨1, dc, da, dd, dw, dp, dn⟩ = frm false false false false ⟨1, dc, da, dd, dw, dp, dn⟩ := by
  unfold rightD frm
  rw [outD_ok]
  generalize okD _ = x
  cases x
  · rfl
  · rfl
set_option maxRecDepth 100000 in
set_option maxHeartbeats 1000000 in
theorem t_formOf1 (dc da dd dw dp : Int) (dn : Bool) : K 33 [didA 1 dc da dd dw dp dn] [] (.ret (.tup [formA 1, .tr (tb (rightD ⟨1, dc, da, dd, dw, dp, dn⟩))])) [] := by
  rw [right_1]
  refine Ctr.of hT hmix Tryz.func33 rfl (fun _ _ => by kernel_rfl) rfl fun hok => ?_
  clear hok
  generalize hR : frm false false false false ⟨1, dc, da, dd, dw, dp, dn⟩ = R
  simp only [frm, okD] at hR
  conv => whnf
  refine acall.pure _ (t_forms) rfl rfl ?_
  conv => whnf
  refine ⟨by decide, by decide, by decide, ?_⟩
  conv => whnf
  refine ⟨by kernel_rfl, fun _ => ?_⟩
  conv => whnf
  (repeat' (refine csplit (fun g => ?_) (fun g => ?_) <;> first | exact ctf g (by assumption) | exact ctf (by assumption) g | conv => whnf))
  all_goals (
    refine ⟨by kernel_rfl, fun _ => ?_⟩
    conv => whnf
    refine ⟨⟨aut, .inl (congrArg tb ?_), trivial⟩, trivial⟩; rw [← hR]; clear hR; simp only [*, Bool.true_or, Bool.or_true, Bool.false_or, Bool.or_false, Bool.not_true, Bool.not_false, Bool.false_and, Bool.true_and, Bool.and_false, Bool.and_true, cond_true, cond_false])
theorem right_2 (dc da dd dw dp : Int) (dn : Bool) : rightD ⟨2, dc, da, dd, dw, dp, dn⟩ = frm true true false true ⟨2, dc, da, dd, dw, dp, dn⟩ := by
  unfold rightD frm
  rw [outD_ok]
  generalize okD _ = x
  cases x
  · rfl
  · rfl
set_option maxRecDepth 100000 in
set_option maxHeartbeats 1000000 in
theorem t_formOf2 (dc da dd dw dp : Int) (dn : Bool) : K 33 [didA 2 dc da dd dw dp dn] [] (.ret (.tup [formA 2, .tr (tb (rightD ⟨2, dc, da, dd, dw, dp, dn⟩))])) [] := by
  rw [right_2]
  refine Ctr.of hT hmix Tryz.func33 rfl (fun _ _ => by kernel_rfl) rfl fun hok => ?_
  clear hok
  generalize hR : frm true true false true ⟨2, dc, da, dd, dw, dp, dn⟩ = R
  simp only [frm, okD] at hR
  conv => whnf
  refine acall.pure _ (t_forms) rfl rfl ?_
  conv => whnf
  refine ⟨by decide, by decide, by decide, ?_⟩
  conv => whnf
  refine ⟨by kernel_rfl, fun _ => ?_⟩
  conv => whnf
  (repeat' (refine csplit (fun g => ?_) (fun g => ?_) <;> first | exact ctf g (by assumption) | exact ctf (by assumption) g | conv => whnf))
  all_goals (
    refine ⟨by kernel_rfl, fun _ => ?_⟩
    conv => whnf
    refine ⟨⟨aut, .inl (congrArg tb ?_), trivial⟩, trivial⟩; rw [← hR]; clear hR; simp only [*, Bool.true_or, Bool.or_true, Bool.false_or, Bool.or_false, Bool.not_true, Bool.not_false, Bool.false_and, Bool.true_and, Bool.and_false, Bool.and_true, cond_true, cond_false])
theorem right_3 (dc da dd dw dp : Int) (dn : Bool) : rightD ⟨3, dc, da, dd, dw, dp, dn⟩ = frm true true false false ⟨3, dc, da, dd, dw, dp, dn⟩ := by
  unfold rightD frm
  rw [outD_ok]
  generalize okD _ = x
  cases x
  · rfl
  · rfl
set_option maxRecDepth 100000 in
set_option maxHeartbeats 1000000 in
theorem t_formOf3 (dc da dd dw dp : Int) (dn : Bool) : K 33 [didA 3 dc da dd dw dp dn] [] (.ret (.tup [formA 3, .tr (tb (rightD ⟨3, dc, da, dd, dw, dp, dn⟩))])) [] := by
  rw [right_3]
  refine Ctr.of hT hmix Tryz.func33 rfl (fun _ _ => by kernel_rfl) rfl fun hok => ?_
  clear hok
  generalize hR : frm true true false false ⟨3, dc, da, dd, dw, dp, dn⟩ = R
  simp only [frm, okD] at hR
  conv => whnf
  refine acall.pure _ (t_forms) rfl rfl ?_
  conv => whnf
  refine ⟨by decide, by decide, by decide, ?_⟩
  conv => whnf
  refine ⟨by kernel_rfl, fun _ => ?_⟩
  conv => whnf
  (repeat' (refine csplit (fun g => ?_) (fun g => ?_) <;> first | exact ctf g (by assumption) | exact ctf (by assumption) g | conv => whnf))
  all_goals (
    refine ⟨by kernel_rfl, fun _ => ?_⟩
    conv => whnf
    refine ⟨⟨aut, .inl (congrArg tb ?_), trivial⟩, trivial⟩; rw [← hR]; clear hR; simp only [*, Bool.true_or, Bool.or_true, Bool.false_or, Bool.or_false, Bool.not_true, Bool.not_false, Bool.false_and, Bool.true_and, Bool.and_false, Bool.and_true, cond_true, cond_false])
theorem right_4 (dc da dd dw dp : Int) (dn : Bool) : rightD ⟨4, dc, da, dd, dw, dp, dn⟩ = frm true true true false ⟨4, dc, da, dd, dw, dp, dn⟩ := by
  unfold rightD frm
  rw [outD_ok]
  generalize okD _ = x
  cases x
  · rfl
  · rfl
set_option maxRecDepth 100000 in
set_option maxHeartbeats 1000000 in
theorem t_formOf4 (dc da dd dw dp : Int) (dn : Bool) : K 33 [didA 4 dc da dd dw dp dn] [] (.ret (.tup [formA 4, .tr (tb (rightD ⟨4, dc, da, dd, dw, dp, dn⟩))])) [] := by
  rw [right_4]
  refine Ctr.of hT hmix Tryz.func33 rfl (fun _ _ => by kernel_rfl) rfl fun hok => ?_
  clear hok
  generalize hR : frm true true true false ⟨4, dc, da, dd, dw, dp, dn⟩ = R
  simp only [frm, okD] at hR
  conv => whnf
  refine acall.pure _ (t_forms) rfl rfl ?_
  conv => whnf
  refine ⟨by decide, by decide, by decide, ?_⟩
  conv => whnf
  refine ⟨by kernel_rfl, fun _ => ?_⟩
  conv => whnf
  (repeat' (refine csplit (fun g => ?_) (fun g => ?_) <;> first | exact ctf g (by assumption) | exact ctf (by assumption) g | conv => whnf))
  all_goals (
    refine ⟨by kernel_rfl, fun _ => ?_⟩
    conv => whnf
    refine ⟨⟨aut, .inl (congrArg tb ?_), trivial⟩, trivial⟩; rw [← hR]; clear hR; simp only [*, Bool.true_or, Bool.or_true, Bool.false_or, Bool.or_false, Bool.not_true, Bool.not_false, Bool.false_and, Bool.true_and, Bool.and_false, Bool.and_true, cond_true, cond_false])
theorem right_5 (dc da dd dw dp : Int) (dn : Bool) : rightD ⟨5, dc, da, dd, dw, dp, dn⟩ = frm false false false false ⟨5, dc, da, dd, dw, dp, dn⟩ := by
  unfold rightD frm
  rw [outD_ok]
  generalize okD _ = x
  cases x
  · rfl
  · rfl
set_option maxRecDepth 100000 in
set_option maxHeartbeats 1000000 in
theorem t_formOf5 (dc da dd dw dp : Int) (dn : Bool) : K 33 [didA 5 dc da dd dw dp dn] [] (.ret (.tup [formA 5, .tr (tb (rightD ⟨5, dc, da, dd, dw, dp, dn⟩))])) [] := by
  rw [right_5]
  refine Ctr.of hT hmix Tryz.func33 rfl (fun _ _ => by kernel_rfl) rfl fun hok => ?_
  clear hok
  generalize hR : frm false false false false ⟨5, dc, da, dd, dw, dp, dn⟩ = R
  simp only [frm, okD] at hR
  conv => whnf
  refine acall.pure _ (t_forms) rfl rfl ?_
  conv => whnf
  refine ⟨by decide, by decide, by decide, ?_⟩
  conv => whnf
  refine ⟨by kernel_rfl, fun _ => ?_⟩
  conv => whnf
  (repeat' (refine csplit (fun g => ?_) (fun g => ?_) <;> first | exact ctf g (by assumption) | exact ctf (by assumption) g | conv => whnf))
  all_goals (
    refine ⟨by kernel_rfl, fun _ => ?_⟩
    conv => whnf
    refine ⟨⟨aut, .inl (congrArg tb ?_), trivial⟩, trivial⟩; rw [← hR]; clear hR; simp only [*, Bool.true_or, Bool.or_true, Bool.false_or, Bool.or_false, Bool.not_true, Bool.not_false, Bool.false_and, Bool.true_and, Bool.and_false, Bool.and_true, cond_true, cond_false])
theorem right_6 (dc da dd dw dp : Int) (dn : Bool) : rightD ⟨6, dc, da, dd, dw, dp, dn⟩ = frm false true false false ⟨6, dc, da, dd, dw, dp, dn⟩ := by
  unfold rightD frm
  rw [outD_ok]
  generalize okD _ = x
  cases x
  · rfl
  · rfl
set_option maxRecDepth 100000 in
set_option maxHeartbeats 1000000 in
theorem t_formOf6 (dc da dd dw dp : Int) (dn : Bool) : K 33 [didA 6 dc da dd dw dp dn] [] (.ret (.tup [formA 6, .tr (tb (rightD ⟨6, dc, da, dd, dw, dp, dn⟩))])) [] := by
  rw [right_6]
  refine Ctr.of hT hmix Tryz.func33 rfl (fun _ _ => by kernel_rfl) rfl fun hok => ?_
  clear hok
  generalize hR : frm false true false false ⟨6, dc, da, dd, dw, dp, dn⟩ = R
  simp only [frm, okD] at hR
  conv => whnf
  refine acall.pure _ (t_forms) rfl rfl ?_
  conv => whnf
  refine ⟨by decide, by decide, by decide, ?_⟩
  conv => whnf
  refine ⟨by kernel_rfl, fun _ => ?_⟩
  conv => whnf
  (repeat' (refine csplit (fun g => ?_) (fun g => ?_) <;> first | exact ctf g (by assumption) | exact ctf (by assumption) g | conv => whnf))
  all_goals (
    refine ⟨by kernel_rfl, fun _ => ?_⟩
    conv => whnf
    refine ⟨⟨aut, .inl (congrArg tb ?_), trivial⟩, trivial⟩; rw [← hR]; clear hR; simp only [*, Bool.true_or, Bool.or_true, Bool.false_or, Bool.or_false, Bool.not_true, Bool.not_false, Bool.false_and, Bool.true_and, Bool.and_false, Bool.and_true, cond_true, cond_false])
theorem right_7 (dc da dd dw dp : Int) (dn : Bool) : rightD ⟨7, dc, da, dd, dw, dp, dn⟩ = frm false false false false ⟨7, dc, da, dd, dw, dp, dn⟩ := by
  unfold rightD frm
  rw [outD_ok]
  generalize okD _ = x
  cases x
  · rfl
  · rfl
set_option maxRecDepth 100000 in
set_option maxHeartbeats 1000000 in
theorem t_formOf7 (dc da dd dw dp : Int) (dn : Bool) : K 33 [didA 7 dc da dd dw dp dn] [] (.ret (.tup [formA 7, .tr (tb (rightD ⟨7, dc, da, dd, dw, dp, dn⟩))])) [] := by
  rw [right_7]
  refine Ctr.of hT hmix Tryz.func33 rfl (fun _ _ => by kernel_rfl) rfl fun hok => ?_
  clear hok
  generalize hR : frm false false false false ⟨7, dc, da, dd, dw, dp, dn⟩ = R
  simp only [frm, okD] at hR
  conv => whnf
  refine acall.pure _ (t_forms) rfl rfl ?_
  conv => whnf
  refine ⟨by decide, by decide, by decide, ?_⟩
  conv => whnf
  refine ⟨by kernel_rfl, fun _ => ?_⟩
  conv => whnf
  (repeat' (refine csplit (fun g => ?_) (fun g => ?_) <;> first | exact ctf g (by assumption) | exact ctf (by assumption) g | conv => whnf))
  all_goals (
    refine ⟨by kernel_rfl, fun _ => ?_⟩
    conv => whnf
    refine ⟨⟨aut, .inl (congrArg tb ?_), trivial⟩, trivial⟩; rw [← hR]; clear hR; simp only [*, Bool.true_or, Bool.or_true, Bool.false_or, Bool.or_false, Bool.not_true, Bool.not_false, Bool.false_and, Bool.true_and, Bool.and_false, Bool.and_true, cond_true, cond_false])
theorem right_8 (dc da dd dw dp : Int) (dn : Bool) : rightD ⟨8, dc, da, dd, dw, dp, dn⟩ = frm true true false false ⟨8, dc, da, dd, dw, dp, dn⟩ := by
  unfold rightD frm
  rw [outD_ok]
  generalize okD _ = x
  cases x
  · rfl
  · rfl
set_option maxRecDepth 100000 in
set_option maxHeartbeats 1000000 in
theorem t_formOf8 (dc da dd dw dp : Int) (dn : Bool) : K 33 [didA 8 dc da dd dw dp dn] [] (.ret (.tup [formA 8, .tr (tb (rightD ⟨8, dc, da, dd, dw, dp, dn⟩))])) [] := by
  rw [right_8]
  refine Ctr.of hT hmix Tryz.func33 rfl (fun _ _ => by kernel_rfl) rfl fun hok => ?_
  clear hok
  generalize hR : frm true true false false ⟨8, dc, da, dd, dw, dp, dn⟩ = R
  simp only [frm, okD] at hR
  conv => whnf
  refine acall.pure _ (t_forms) rfl rfl ?_
  conv => whnf
  refine ⟨by decide, by decide, by decide, ?_⟩
  conv => whnf
  refine ⟨by kernel_rfl, fun _ => ?_⟩
  conv => whnf
  (repeat' (refine csplit (fun g => ?_) (fun g => ?_) <;> first | exact ctf g (by assumption) | exact ctf (by assumption) g | conv => whnf))
  all_goals (
    refine ⟨by kernel_rfl, fun _ => ?_⟩
    conv => whnf
    refine ⟨⟨aut, .inl (congrArg tb ?_), trivial⟩, trivial⟩; rw [← hR]; clear hR; simp only [*, Bool.true_or, Bool.or_true, Bool.false_or, Bool.or_false, Bool.not_true, Bool.not_false, Bool.false_and, Bool.true_and, Bool.and_false, Bool.and_true, cond_true, cond_false])
theorem t_formOfN (dk dc da dd dw dp : Int) (dn : Bool) (h : dk ≤ 0 ∨ dk ≥ 9) : K 33 [didA dk dc da dd dw dp dn] [] (.ret (.tup [formA 0, .tr (tb false)])) [] := by
  refine Ctr.of hT hmix Tryz.func33 rfl (fun _ _ => by kernel_rfl) rfl fun hok => ?_
  clear hok
  conv => whnf
  (repeat' (refine csplit (fun g => ?_) (fun g => ?_) <;> first | exact ctf g (by assumption) | exact ctf (by assumption) g | conv => whnf))
  all_goals first
    | exact ⟨⟨aut, .inl rfl, trivial⟩, trivial⟩
    | (exfalso; rename_i h1; have q1 := of_decide_eq_false h1; have q2 := of_decide_eq_false g; (try simp only at q1 q2); omega)
theorem formA_out {k : Int} (h : k ≤ 0 ∨ k ≥ 9) : formA k = formA 0 := by
  unfold formA
  rcases h with h | h
  · rw [show k.toNat = 0 by omega]; rfl
  · rw [List.getD_eq_getElem?_getD, List.getElem?_eq_none (by show 9 ≤ k.toNat; omega)]; rfl
theorem t_formOf (d : Did) : K 33 [d.av] [] (.ret (.tup [formA d.kind, .tr (tb (rightD d))])) [] := by
  obtain ⟨dk, dc, da, dd, dw, dp, dn⟩ := d
  refine Ctr.okd (fun _ _ => by kernel_rfl) fun hok => ?_
  have h0 := ((hok _ (List.mem_cons_self ..)).agg _ (List.mem_cons_self ..)).tr.u8.1
  replace h0 : 0 ≤ dk := h0
  by_cases h : 1 ≤ dk ∧ dk ≤ 8
  · have hc : dk = 1 ∨ dk = 2 ∨ dk = 3 ∨ dk = 4 ∨ dk = 5 ∨ dk = 6 ∨ dk = 7 ∨ dk = 8 := by omega
    rcases hc with rfl | rfl | rfl | rfl | rfl | rfl | rfl | rfl
    · exact t_formOf1 dc da dd dw dp dn
    · exact t_formOf2 dc da dd dw dp dn
    · exact t_formOf3 dc da dd dw dp dn
    · exact t_formOf4 dc da dd dw dp dn
    · exact t_formOf5 dc da dd dw dp dn
    · exact t_formOf6 dc da dd dw dp dn
    · exact t_formOf7 dc da dd dw dp dn
    · exact t_formOf8 dc da dd dw dp dn
  · have hn : dk ≤ 0 ∨ dk ≥ 9 := by omega
    have hr : rightD ⟨dk, dc, da, dd, dw, dp, dn⟩ = false := by
      unfold rightD
      rw [outD_ok]
      rcases hn with hn | hn
      · rw [show ((dk == 0) : Bool) = true by simp; omega]; rfl
      · rw [show decide (dk ≥ 9) = true from decide_eq_true hn, Bool.true_or, Bool.or_true]; rfl
    rw [hr, show formA dk = formA 0 from formA_out hn]
    exact t_formOfN dk dc da dd dw dp dn hn
theorem formA_lit (k : Int) : formA k = formA 0 ∨ formA k = formA 1 ∨ formA k = formA 2 ∨ formA k = formA 3 ∨ formA k = formA 4 ∨ formA k = formA 5 ∨ formA k = formA 6 ∨ formA k = formA 7 ∨ formA k = formA 8 := by
  by_cases h : 1 ≤ k ∧ k ≤ 8
  · have hc : k = 1 ∨ k = 2 ∨ k = 3 ∨ k = 4 ∨ k = 5 ∨ k = 6 ∨ k = 7 ∨ k = 8 := by omega
    rcases hc with rfl | rfl | rfl | rfl | rfl | rfl | rfl | rfl <;> simp
  · exact .inl (formA_out (by omega))
abbrev didsT (l : List Did) : Tr := .lst 7 56 (l.map Did.cells)
theorem did_get {l : List Did} {i : Nat} {row : List Tr} (h : (l.map Did.cells)[i]? = some row) : ∃ d, l[i]? = some d ∧ row = d.cells := by
  rw [List.getElem?_map, Option.map_eq_some_iff] at h
  obtain ⟨d, h1, rfl⟩ := h
  exact ⟨d, h1, rfl⟩
theorem all_drop {α : Type} {p : α → Bool} {l : List α} {i : Nat} {d : α} (h : l[i]? = some d) : (l.drop i).all p = (p d && (l.drop (i + 1)).all p) := by
  have hlt := (List.getElem?_eq_some_iff.1 h).1
  rw [List.drop_eq_getElem_cons hlt, List.all_cons, (List.getElem?_eq_some_iff.1 h).2]
set_option maxRecDepth 100000 in
theorem t_right (l : List Did) : K 20 [.tr (didsT l)] [] (.ret (.tr (tb (l.all rightD)))) [] := by
  refine Ctr.of hT hmix Tryz.func20 rfl (fun _ _ => by kernel_rfl) rfl fun hok => ?_
  have hl : l.length ≤ 9223372036854775807 := by have := (hok.slot 0 rfl).tr.lst.2.1; rwa [List.length_map] at this
  clear hok
  have hlm : (l.map Did.cells).length = l.length := List.length_map ..
  conv => whnf
  refine LoopL.by (fun i : Nat => ⟨[(7, .tr (didsT l)), (8, .tr (ti (l.length : Int))), (9, .tr (ti i))], [], 10⟩) (fun i => i ≤ l.length ∧ l.all rightD = (l.drop i).all rightD) (fun i => l.length - i) 0 [] [] (Sub.mk' rfl ⟨.inl rfl, .inl (by rw [← hlm]), .inl rfl, trivial⟩ trivial rfl rfl) ⟨Nat.zero_le _, rfl⟩ ?_
  rintro i ⟨hi, hall⟩ -
  conv => whnf
  refine csplit (fun hlt => ?_) (fun hge => ?_)
  · have hlt : i < l.length := by have := of_decide_eq_true hlt; omega
    obtain ⟨d, hd⟩ : ∃ d, l[i]? = some d := ⟨l[i], by simp [hlt]⟩
    rw [all_drop hd] at hall
    conv => whnf
    refine ⟨rfl, (show (0 : Int) ≤ i by omega), (show (i : Int) < (l.map Did.cells).length by rw [hlm]; omega), fun row hr => ?_⟩
    obtain ⟨d', hd', rfl⟩ := did_get hr
    obtain rfl : d = d' := Option.some.inj (hd.symm.trans hd')
    clear hr hd'
    have hct := t_formOf d
    generalize rightD d = B at hct hall
    generalize hF : formA d.kind = F at hct
    have hc := formA_lit d.kind
    rw [hF] at hc
    clear hF
    obtain ⟨dk, dc, da, dd, dw, dp, dn⟩ := d
    rcases hc with rfl | rfl | rfl | rfl | rfl | rfl | rfl | rfl | rfl
    all_goals (
      conv => whnf
      refine acall.au [] [] hct ?_
      conv => whnf
      first | intro _ | skip
      conv => whnf
      cases B
      · conv => whnf
        exact ⟨.inl (congrArg tb hall.symm), trivial⟩
      · conv => whnf
        exact ⟨i + 1, [], [], Sub.mk' rfl ⟨.inl rfl, .inl rfl, .inl (ti_succ hlt hl), trivial⟩ trivial rfl rfl, ⟨hlt, hall⟩, by omega⟩)
  · have hge : i = l.length := by have := of_decide_eq_false hge; omega
    subst hge
    conv => whnf
    refine ⟨fun _ => ?_, fun h => absurd rfl h⟩
    conv => whnf
    refine ⟨.inl (congrArg tb ?_), trivial⟩
    rw [hall, List.drop_length]
    rfl
end Go.Proofs.YtcpolpbeimhgfaaGreat.am

namespace Go.Proofs.YtcpolpbeimhgfaaGreat.am
open Go Go.Proofs
structure Stp where
  kind : Int
  core : Int
def Stp.cells (x : Stp) : List Tr := [tu x.kind, ti x.core]
abbrev stepsT (l : List Stp) : Tr := .lst 2 16 (l.map Stp.cells)
theorem stp_get {l : List Stp} {i : Nat} {row : List Tr} (h : (l.map Stp.cells)[i]? = some row) : ∃ d, l[i]? = some d ∧ row = d.cells := by
  rw [List.getElem?_map, Option.map_eq_some_iff] at h
  obtain ⟨d, h1, rfl⟩ := h
  exact ⟨d, h1, rfl⟩
/-- what the steps do, one by one -/
def playL : Mst → List Stp → List (Did × Int)
  | _, [] => []
  | s, x :: l => (stepS s x.kind x.core).2 :: playL (stepS s x.kind x.core).1 l
theorem playL_drop {s : Mst} {l : List Stp} {j : Nat} {x : Stp} (h : l[j]? = some x) : playL s (l.drop j) = (stepS s x.kind x.core).2 :: playL (stepS s x.kind x.core).1 (l.drop (j + 1)) := by
  have hlt := (List.getElem?_eq_some_iff.1 h).1
  rw [List.drop_eq_getElem_cons hlt, (List.getElem?_eq_some_iff.1 h).2]
  rfl
abbrev diV (l : List Did) : Blk := .vec 41 7 56 (l.map Did.cells)
abbrev erV (l : List Int) : Blk := .vec 28 1 8 (l.map irow)
def playE (o : Ob) (l : List Stp) : Int := bif (checkO o).1 == 0 && decide ((l.length : Int) > 1048576) then 3 else (checkO o).1
set_option maxRecDepth 100000 in
set_option maxHeartbeats 1000000 in
theorem k_playE (o : Ob) (l : List Stp) (h : playE o l ≠ 0) : K 27 [o.av, .tr (stepsT l)] [] (.ret (.tup [.tr (.v (.slice none 0 0)), .tr (.v (.slice none 0 0)), .tr (ti (playE o l))])) [] := by
  have hn0 := k_vnew0 o
  have hn1 := k_vnew o
  have hgood := check_good (o := o)
  have hck : playE o l = bif (checkO o).1 == 0 && decide (((l.map Stp.cells).length : Int) > 1048576) then 3 else (checkO o).1 := by unfold playE; rw [List.length_map]
  generalize playE o l = E at h hck
  refine Ctr.of hT hmix Tryz.func27 rfl (fun _ _ => by kernel_rfl) rfl fun hok => ?_
  clear hok
  obtain ⟨memory, shared, locks, buffer, cores⟩ := o
  generalize hR : checkO ⟨memory, shared, locks, buffer, cores⟩ = R at hn0 hn1 hgood hck
  by_cases h0 : R.1 = 0
  · have hg := hgood h0
    have hn1 := hn1 h0 hg.mem hg.cores (fun c hc => (hg.code c hc).2)
    rw [h0] at hck
    have hlong : decide (((l.map Stp.cells).length : Int) > 1048576) = true := by
      cases hd : decide (((l.map Stp.cells).length : Int) > 1048576) with
      | true => rfl
      | false => rw [hd] at hck; exact absurd hck h
    rw [hlong] at hck
    have hE : E = 3 := hck
    subst hE
    conv => whnf
    refine acall.new [] [] _ _ _ _ hn1 rfl rfl rfl rfl aut aut rfl rfl fun _ => ?_
    conv => whnf
    refine csplit (fun h2 => ?_) (fun h2 => ?_)
    · conv => whnf
      exact ⟨⟨.inl rfl, .inl rfl, .inl rfl, trivial⟩, trivial⟩
    · exact absurd hlong (by rw [h2]; decide)
  · have hn0 := hn0 h0
    have hE : E = R.1 := by rw [hck, beq_eq_false_iff_ne.2 h0]; rfl
    subst hE
    have hb := beq_eq_false_iff_ne.2 h0
    generalize R.1 = e at h0 hn0 hb h
    conv => whnf
    refine acall.pure _ (hn0) rfl rfl fun _ => ?_
    conv => whnf
    refine csplit (fun h1 => ?_) (fun h1 => ?_)
    · exact absurd h1 (by rw [show (e == 0) = false from hb]; decide)
    conv => whnf
    refine csplit (fun h2 => ?_) (fun h2 => ?_)
    · conv => whnf
      exact ⟨⟨.inl rfl, .inl rfl, .inl rfl, trivial⟩, trivial⟩
    · exact absurd h2 (by simpa using h0)
set_option maxRecDepth 100000 in
set_option maxHeartbeats 1000000 in
theorem k_play (o : Ob) (l : List Stp) (h : (checkO o).1 = 0) (hlen : l.length ≤ 1048576) : K 27 [o.av, .tr (stepsT l)] [] (.ret (.tup [.tr (didsT ((playL (newM o) l).map (·.1))), .tr (intsT ((playL (newM o) l).map (·.2))), .tr (ti 0)])) [] := by
  have hg := check_good h
  have hn1 := k_vnew o h hg.mem hg.cores (fun c hc => (hg.code c hc).2)
  have hI0 := VInv.new h
  generalize hs0 : newM o = s0 at hI0 hn1
  generalize hD : (playL s0 l).map (·.1) = D
  generalize hE : (playL s0 l).map (·.2) = E
  refine Ctr.of hT hmix Tryz.func27 rfl (fun _ _ => by kernel_rfl) rfl fun hok => ?_
  clear hok
  obtain ⟨memory, shared, locks, buffer, cores⟩ := o
  have hp0 : s0.prints.length = 0 := by rw [← hs0]; rfl
  clear hs0
  have hlm : (l.map Stp.cells).length = l.length := List.length_map ..
  have hl63 : l.length ≤ 9223372036854775807 := by omega
  conv => whnf
  refine acall.new [] [] _ _ _ _ hn1 rfl rfl rfl rfl aut aut rfl rfl fun _ => ?_
  conv => whnf
  refine csplit (fun h2 => ?_) (fun h2 => ?_)
  · have : decide (((l.map Stp.cells).length : Int) > 1048576) = true := h2
    rw [hlm] at this
    have := of_decide_eq_true this
    omega
  conv => whnf
  refine LoopL.by (fun x : Mst × List Did × List Int × Nat => ⟨[(1, .tr (stepsT l)), (7, .ptr 0 0), (9, .sl 4 x.2.2.2), (10, .sl 5 x.2.2.2), (30, .tr (stepsT l)), (31, .tr (ti (l.length : Int))), (32, .tr (ti x.2.2.2))], [(0, maB x.1), (1, csB x.1.cores), (2, meB x.1.mem), (3, prB x.1.prints), (4, diV x.2.1), (5, erV x.2.2.1)], 10⟩)
    (fun x => VInv x.1 ∧ x.2.2.2 ≤ l.length ∧ x.1.prints.length ≤ x.2.2.2 ∧ x.2.1.length = x.2.2.2 ∧ x.2.2.1.length = x.2.2.2 ∧ D = x.2.1 ++ (playL x.1 (l.drop x.2.2.2)).map (·.1) ∧ E = x.2.2.1 ++ (playL x.1 (l.drop x.2.2.2)).map (·.2)) (fun x => l.length - x.2.2.2) (s0, [], [], 0) [_, _, _, _] [4, 5]
    (Sub.mk' rfl ⟨.inl rfl, ⟨rfl, rfl⟩, ⟨rfl, rfl, rfl, rfl⟩, ⟨rfl, rfl, rfl, rfl⟩, .inl rfl, .inl (by rw [← hlm]), .inl rfl, trivial⟩ ⟨⟨rfl, .inl rfl, .inl rfl, .inl rfl, .inl rfl, .inl rfl, ⟨rfl, rfl⟩, ⟨rfl, rfl⟩, ⟨rfl, rfl⟩, trivial⟩, ⟨rfl, rfl, rfl, rfl, .inl rfl⟩, ⟨rfl, rfl, rfl, rfl⟩, ⟨rfl, rfl, rfl, rfl⟩, ⟨rfl, _, _, _, rfl, by decide⟩, ⟨rfl, _, _, _, rfl, by decide⟩, trivial⟩ rfl rfl)
    ⟨hI0, Nat.zero_le _, Nat.le_of_eq hp0, rfl, rfl, hD.symm, hE.symm⟩ ?_
  rintro ⟨s, ds, es, j⟩ ⟨hI, hj, hp, hdl, hel, hDj, hEj⟩ -
  simp only at hI hj hp hdl hel hDj hEj
  conv => whnf
  refine csplit (fun hlt => ?_) (fun hge => ?_)
  · have hlt : j < l.length := by have : ((j : Nat) : Int) < (l.length : Int) := of_decide_eq_true hlt; omega
    obtain ⟨x, hx⟩ : ∃ x, l[j]? = some x := ⟨l[j], by simp [hlt]⟩
    rw [playL_drop hx] at hDj hEj
    conv => whnf
    refine ⟨rfl, (show (0 : Int) ≤ j by omega), (show (j : Int) < (l.map Stp.cells).length by rw [hlm]; omega), fun row hr => ?_⟩
    obtain ⟨x', hx', rfl⟩ := stp_get hr
    obtain rfl : x = x' := Option.some.inj (hx.symm.trans hx')
    clear hr hx'
    have hst := k_step s hI (by omega) x.kind x.core
    have hIn := stepS_inv hI x.kind x.core
    have hpn := stepS_prints s x.kind x.core
    obtain ⟨xk, xc⟩ := x
    simp only at hst hIn hpn hDj hEj
    generalize stepS s xk xc = R at hst hIn hpn hDj hEj
    obtain ⟨s', d, e⟩ := R
    simp only at hst hIn hpn hDj hEj
    have hda : (ds.map Did.cells).take j ++ [d.cells] = (ds ++ [d]).map Did.cells := by rw [List.take_of_length_le (by simp; omega), List.map_append]; rfl
    have hea : (es.map irow).take j ++ [irow e] = (es ++ [e]).map irow := by rw [List.take_of_length_le (by simp; omega), List.map_append]; rfl
    have hDn : D = (ds ++ [d]) ++ (playL s' (l.drop (j + 1))).map (·.1) := by rw [hDj]; simp
    have hEn : E = (es ++ [e]) ++ (playL s' (l.drop (j + 1))).map (·.2) := by rw [hEj]; simp
    have hdl' : (ds ++ [d]).length = j + 1 := by simp; omega
    have hel' : (es ++ [e]).length = j + 1 := by simp; omega
    obtain ⟨dk, dc, da, dd, dw, dp, dn⟩ := d
    conv => whnf
    rcases hst with hst | hst
    · refine acall.au [0, 1, 2, 3] [] (hst) ?_
      intro _
      conv => whnf
      refine ⟨rfl, rfl, rfl, (by rw [List.length_map]; show j ≤ ds.length; omega), (show (j + 1) * 56 ≤ 150000000000000 by omega), fun q hq => ?_, ?_⟩
      · cases hq with
        | head => exact Nat.ne_of_beq_eq_false rfl
        | tail _ h => cases h
      conv => whnf
      refine ⟨rfl, rfl, rfl, (by rw [List.length_map]; show j ≤ es.length; omega), (show (j + 1) * 8 ≤ 150000000000000 by omega), fun q hq => ?_, ?_⟩
      · cases hq with
        | head => exact Nat.ne_of_beq_eq_false rfl
        | tail _ h => cases h
      conv => whnf
      exact ⟨(s', _, _, j + 1), [0, 1, 2, 3, _, _], [], Sub.mk' rfl ⟨.inl rfl, ⟨rfl, rfl⟩, ⟨rfl, rfl⟩, ⟨rfl, rfl⟩, .inl rfl, .inl rfl, .inl (ti_succ hlt hl63), trivial⟩ ⟨⟨rfl, .inl rfl, .inl rfl, .inl rfl, .inl rfl, .inl rfl, ⟨rfl, rfl⟩, ⟨rfl, rfl⟩, ⟨rfl, rfl⟩, trivial⟩, ⟨rfl, rfl, rfl, rfl, .inl rfl⟩, ⟨rfl, rfl, rfl, rfl⟩, ⟨rfl, rfl, rfl, rfl⟩, ⟨rfl, rfl, rfl, hda⟩, ⟨rfl, rfl, rfl, hea⟩, trivial⟩ rfl rfl, ⟨hIn, hlt, by show s'.prints.length ≤ j + 1; omega, hdl', hel', hDn, hEn⟩, by show l.length - (j + 1) < l.length - j; omega⟩
    · refine acall.new [0, 1, 2, 3] [] _ _ _ _ hst rfl rfl rfl rfl aut aut rfl rfl fun _ => ?_
      conv => whnf
      refine ⟨rfl, rfl, rfl, (by rw [List.length_map]; show j ≤ ds.length; omega), (show (j + 1) * 56 ≤ 150000000000000 by omega), fun q hq => ?_, ?_⟩
      · cases hq with
        | head => exact Nat.ne_of_beq_eq_false rfl
        | tail _ h => cases h
      conv => whnf
      refine ⟨rfl, rfl, rfl, (by rw [List.length_map]; show j ≤ es.length; omega), (show (j + 1) * 8 ≤ 150000000000000 by omega), fun q hq => ?_, ?_⟩
      · cases hq with
        | head => exact Nat.ne_of_beq_eq_false rfl
        | tail _ h => cases h
      conv => whnf
      exact ⟨(s', _, _, j + 1), [0, 1, 2, _, _, _], [], Sub.mk' rfl ⟨.inl rfl, ⟨rfl, rfl⟩, ⟨rfl, rfl⟩, ⟨rfl, rfl⟩, .inl rfl, .inl rfl, .inl (ti_succ hlt hl63), trivial⟩ ⟨⟨rfl, .inl rfl, .inl rfl, .inl rfl, .inl rfl, .inl rfl, ⟨rfl, rfl⟩, ⟨rfl, rfl⟩, ⟨rfl, rfl⟩, trivial⟩, ⟨rfl, rfl, rfl, rfl, .inl rfl⟩, ⟨rfl, rfl, rfl, rfl⟩, ⟨rfl, rfl, rfl, rfl⟩, ⟨rfl, rfl, rfl, hda⟩, ⟨rfl, rfl, rfl, hea⟩, trivial⟩ rfl rfl, ⟨hIn, hlt, by show s'.prints.length ≤ j + 1; omega, hdl', hel', hDn, hEn⟩, by show l.length - (j + 1) < l.length - j; omega⟩
  · have hge : j = l.length := by have : ¬ ((j : Nat) : Int) < (l.length : Int) := of_decide_eq_false hge; omega
    subst hge
    rw [List.drop_length] at hDj hEj
    have hDj : D = ds := by rw [hDj]; simp [playL]
    have hEj : E = es := by rw [hEj]; simp [playL]
    subst hDj hEj
    conv => whnf
    refine ⟨fun _ => ?_, fun h => absurd rfl h⟩
    conv => whnf
    exact ⟨⟨⟨rfl, by rw [List.length_map]; exact Nat.le_of_eq hdl.symm, by rw [List.take_of_length_le (by simp; omega)]⟩, ⟨rfl, by rw [List.length_map]; exact Nat.le_of_eq hel.symm, by rw [List.take_of_length_le (by simp; omega)]⟩, .inl rfl, trivial⟩, trivial⟩
end Go.Proofs.YtcpolpbeimhgfaaGreat.am

namespace Go.Proofs.YtcpolpbeimhgfaaGreat.am
open Go Go.Proofs
theorem ofInt_u64 (b : Int) : BitVec.ofInt 64 (IntKind.u64.wrap b) = BitVec.ofInt 64 b := by
  apply BitVec.eq_of_toNat_eq
  simp only [BitVec.toNat_ofInt, IntKind.wrap, IntKind.signed, IntKind.bits, Bool.false_and]
  congr 1
  show (b % 2 ^ 64) % (2 ^ 64 : Nat) = b % (2 ^ 64 : Nat)
  omega
theorem and63 (b : Int) : (BitVec.ofInt 64 b &&& BitVec.ofInt 64 63).toNat ≤ 63 := by
  rw [BitVec.toNat_and]
  exact Nat.and_le_right
def shR (b : Int) : Nat := min (IntKind.u64.wrap (IntKind.i64.wrap ((BitVec.ofInt IntKind.i64.bits b &&& BitVec.ofInt IntKind.i64.bits 63).toNat : Int))).toNat IntKind.i64.bits
theorem shR_eq (b : Int) : shR b = shN b := by
  have h := and63 b
  have e := ofInt_u64 b
  unfold shR shN
  show min (IntKind.u64.wrap (IntKind.i64.wrap ((BitVec.ofInt 64 b &&& BitVec.ofInt 64 63).toNat : Int))).toNat 64 = min (IntKind.u64.wrap ((BitVec.ofInt 64 (IntKind.u64.wrap b) &&& BitVec.ofInt 64 63).toNat : Int)).toNat 64
  rw [e, w64 (by omega) (by omega)]
theorem z_truth (b : Bool) : K 93 [.tr (tb b)] [] (.ret (.tup [.tr (ti (truW b)), .tr (ti 0)])) [] := by
  refine Ctr.of hT hmix Tryz.func93 rfl (fun _ _ => by kernel_rfl) rfl fun hok => ?_
  clear hok
  cases b
  · conv => whnf
    exact ⟨⟨.inl rfl, .inl rfl, trivial⟩, trivial⟩
  · conv => whnf
    exact ⟨⟨.inl rfl, .inl rfl, trivial⟩, trivial⟩
theorem z_quo (a b : Int) : K 94 [.tr (ti a), .tr (ti b)] [] (.ret (.tr (ti (divW a b)))) [] := by
  refine Ctr.of hT hmix Tryz.func94 rfl (fun _ _ => by kernel_rfl) rfl fun hok => ?_
  clear hok
  unfold divW
  conv => whnf
  refine csplit (fun h1 => ?_) (fun h1 => ?_)
  · replace h1 : (b == 0) = true := h1
    rw [h1]
    conv => whnf
    exact ⟨.inl rfl, trivial⟩
  replace h1 : (b == 0) = false := h1
  rw [h1]
  conv => whnf
  refine csplit (fun h2 => ?_) (fun h2 => ?_)
  · replace h2 : (b == -1) = true := h2
    rw [h2]
    conv => whnf
    exact ⟨.inl rfl, trivial⟩
  replace h2 : (b == -1) = false := h2
  rw [h2]
  conv => whnf
  refine ⟨by simpa using h1, ?_⟩
  conv => whnf
  exact ⟨.inl rfl, trivial⟩
set_option maxRecDepth 100000 in
theorem z_do1 (a b : Int) : K 73 [.tr (tu 1), .tr (ti a), .tr (ti b)] [] (.ret (.tup [.tr (ti (opW 1 a b)), .tr (ti 0)])) [] := by
  refine Ctr.of hT hmix Tryz.func73 rfl (fun _ _ => by kernel_rfl) rfl fun hok => ?_
  clear hok
  conv => whnf
  exact ⟨⟨.inl rfl, .inl rfl, trivial⟩, trivial⟩
set_option maxRecDepth 100000 in
theorem z_do2 (a b : Int) : K 73 [.tr (tu 2), .tr (ti a), .tr (ti b)] [] (.ret (.tup [.tr (ti (opW 2 a b)), .tr (ti 0)])) [] := by
  refine Ctr.of hT hmix Tryz.func73 rfl (fun _ _ => by kernel_rfl) rfl fun hok => ?_
  clear hok
  conv => whnf
  exact ⟨⟨.inl rfl, .inl rfl, trivial⟩, trivial⟩
set_option maxRecDepth 100000 in
theorem z_do3 (a b : Int) : K 73 [.tr (tu 3), .tr (ti a), .tr (ti b)] [] (.ret (.tup [.tr (ti (opW 3 a b)), .tr (ti 0)])) [] := by
  refine Ctr.of hT hmix Tryz.func73 rfl (fun _ _ => by kernel_rfl) rfl fun hok => ?_
  clear hok
  conv => whnf
  exact ⟨⟨.inl rfl, .inl rfl, trivial⟩, trivial⟩
set_option maxRecDepth 100000 in
theorem z_do4 (a b : Int) : K 73 [.tr (tu 4), .tr (ti a), .tr (ti b)] [] (.ret (.tup [.tr (ti (opW 4 a b)), .tr (ti 0)])) [] := by
  refine Ctr.of hT hmix Tryz.func73 rfl (fun _ _ => by kernel_rfl) rfl fun hok => ?_
  clear hok
  conv => whnf
  refine acall.pure _ (z_quo a b) rfl rfl fun _ => ?_
  conv => whnf
  exact ⟨⟨.inl rfl, .inl rfl, trivial⟩, trivial⟩
set_option maxRecDepth 100000 in
theorem z_do5 (a b : Int) : K 73 [.tr (tu 5), .tr (ti a), .tr (ti b)] [] (.ret (.tup [.tr (ti (opW 5 a b)), .tr (ti 0)])) [] := by
  refine Ctr.of hT hmix Tryz.func73 rfl (fun _ _ => by kernel_rfl) rfl fun hok => ?_
  clear hok
  conv => whnf
  refine csplit (fun h1 => ?_) (fun h1 => ?_)
  · replace h1 : (b == 0) = true := h1
    conv => whnf
    exact ⟨⟨.inl (congrArg ti (by show a = bif b == 0 then a else _; rw [h1]; rfl)), .inl rfl, trivial⟩, trivial⟩
  · replace h1 : (b == 0) = false := h1
    conv => whnf
    refine acall.pure _ (z_quo a b) rfl rfl fun _ => ?_
    conv => whnf
    exact ⟨⟨.inl (congrArg ti (by show _ = bif b == 0 then a else _; rw [h1]; rfl)), .inl rfl, trivial⟩, trivial⟩
set_option maxRecDepth 100000 in
theorem z_do6 (a b : Int) : K 73 [.tr (tu 6), .tr (ti a), .tr (ti b)] [] (.ret (.tup [.tr (ti (opW 6 a b)), .tr (ti 0)])) [] := by
  refine Ctr.of hT hmix Tryz.func73 rfl (fun _ _ => by kernel_rfl) rfl fun hok => ?_
  clear hok
  conv => whnf
  exact ⟨⟨.inl rfl, .inl rfl, trivial⟩, trivial⟩
set_option maxRecDepth 100000 in
theorem z_do7 (a b : Int) : K 73 [.tr (tu 7), .tr (ti a), .tr (ti b)] [] (.ret (.tup [.tr (ti (opW 7 a b)), .tr (ti 0)])) [] := by
  refine Ctr.of hT hmix Tryz.func73 rfl (fun _ _ => by kernel_rfl) rfl fun hok => ?_
  clear hok
  conv => whnf
  exact ⟨⟨.inl rfl, .inl rfl, trivial⟩, trivial⟩
set_option maxRecDepth 100000 in
theorem z_do8 (a b : Int) : K 73 [.tr (tu 8), .tr (ti a), .tr (ti b)] [] (.ret (.tup [.tr (ti (opW 8 a b)), .tr (ti 0)])) [] := by
  refine Ctr.of hT hmix Tryz.func73 rfl (fun _ _ => by kernel_rfl) rfl fun hok => ?_
  clear hok
  conv => whnf
  exact ⟨⟨.inl rfl, .inl rfl, trivial⟩, trivial⟩
set_option maxRecDepth 100000 in
theorem z_do9 (a b : Int) : K 73 [.tr (tu 9), .tr (ti a), .tr (ti b)] [] (.ret (.tup [.tr (ti (opW 9 a b)), .tr (ti 0)])) [] := by
  refine Ctr.of hT hmix Tryz.func73 rfl (fun _ _ => by kernel_rfl) rfl fun hok => ?_
  clear hok
  conv => whnf
  refine ⟨u64_nn _, ?_⟩
  conv => whnf
  exact ⟨⟨.inl (congrArg ti (by show i64 (a * 2 ^ shR b) = i64 (a * 2 ^ shN b); rw [shR_eq])), .inl rfl, trivial⟩, trivial⟩
set_option maxRecDepth 100000 in
theorem z_do10 (a b : Int) : K 73 [.tr (tu 10), .tr (ti a), .tr (ti b)] [] (.ret (.tup [.tr (ti (opW 10 a b)), .tr (ti 0)])) [] := by
  refine Ctr.of hT hmix Tryz.func73 rfl (fun _ _ => by kernel_rfl) rfl fun hok => ?_
  clear hok
  conv => whnf
  refine ⟨u64_nn _, ?_⟩
  conv => whnf
  exact ⟨⟨.inl (congrArg ti (by show a.fdiv (2 ^ shR b) = a.fdiv (2 ^ shN b); rw [shR_eq])), .inl rfl, trivial⟩, trivial⟩
set_option maxRecDepth 100000 in
theorem z_do11 (a b : Int) : K 73 [.tr (tu 11), .tr (ti a), .tr (ti b)] [] (.ret (.tup [.tr (ti (opW 11 a b)), .tr (ti 0)])) [] := by
  refine Ctr.of hT hmix Tryz.func73 rfl (fun _ _ => by kernel_rfl) rfl fun hok => ?_
  clear hok
  conv => whnf
  refine acall.pure _ (z_truth (a == b)) rfl rfl fun _ => ?_
  conv => whnf
  exact ⟨⟨.inl rfl, .inl rfl, trivial⟩, trivial⟩
set_option maxRecDepth 100000 in
theorem z_do12 (a b : Int) : K 73 [.tr (tu 12), .tr (ti a), .tr (ti b)] [] (.ret (.tup [.tr (ti (opW 12 a b)), .tr (ti 0)])) [] := by
  refine Ctr.of hT hmix Tryz.func73 rfl (fun _ _ => by kernel_rfl) rfl fun hok => ?_
  clear hok
  conv => whnf
  refine acall.pure _ (z_truth (a != b)) rfl rfl fun _ => ?_
  conv => whnf
  exact ⟨⟨.inl rfl, .inl rfl, trivial⟩, trivial⟩
set_option maxRecDepth 100000 in
theorem z_do13 (a b : Int) : K 73 [.tr (tu 13), .tr (ti a), .tr (ti b)] [] (.ret (.tup [.tr (ti (opW 13 a b)), .tr (ti 0)])) [] := by
  refine Ctr.of hT hmix Tryz.func73 rfl (fun _ _ => by kernel_rfl) rfl fun hok => ?_
  clear hok
  conv => whnf
  refine acall.pure _ (z_truth (decide (a < b))) rfl rfl fun _ => ?_
  conv => whnf
  exact ⟨⟨.inl rfl, .inl rfl, trivial⟩, trivial⟩
set_option maxRecDepth 100000 in
theorem z_do14 (a b : Int) : K 73 [.tr (tu 14), .tr (ti a), .tr (ti b)] [] (.ret (.tup [.tr (ti (opW 14 a b)), .tr (ti 0)])) [] := by
  refine Ctr.of hT hmix Tryz.func73 rfl (fun _ _ => by kernel_rfl) rfl fun hok => ?_
  clear hok
  conv => whnf
  refine acall.pure _ (z_truth (decide (a ≤ b))) rfl rfl fun _ => ?_
  conv => whnf
  exact ⟨⟨.inl rfl, .inl rfl, trivial⟩, trivial⟩
set_option maxRecDepth 100000 in
theorem z_do15 (a b : Int) : K 73 [.tr (tu 15), .tr (ti a), .tr (ti b)] [] (.ret (.tup [.tr (ti (opW 15 a b)), .tr (ti 0)])) [] := by
  refine Ctr.of hT hmix Tryz.func73 rfl (fun _ _ => by kernel_rfl) rfl fun hok => ?_
  clear hok
  conv => whnf
  refine acall.pure _ (z_truth (decide (a > b))) rfl rfl fun _ => ?_
  conv => whnf
  exact ⟨⟨.inl rfl, .inl rfl, trivial⟩, trivial⟩
set_option maxRecDepth 100000 in
theorem z_do16 (a b : Int) : K 73 [.tr (tu 16), .tr (ti a), .tr (ti b)] [] (.ret (.tup [.tr (ti (opW 16 a b)), .tr (ti 0)])) [] := by
  refine Ctr.of hT hmix Tryz.func73 rfl (fun _ _ => by kernel_rfl) rfl fun hok => ?_
  clear hok
  conv => whnf
  refine acall.pure _ (z_truth (decide (a ≥ b))) rfl rfl fun _ => ?_
  conv => whnf
  exact ⟨⟨.inl rfl, .inl rfl, trivial⟩, trivial⟩
theorem two_lit {op : Int} (h : two op = true) : op = 1 ∨ op = 2 ∨ op = 3 ∨ op = 4 ∨ op = 5 ∨ op = 6 ∨ op = 7 ∨ op = 8 ∨ op = 9 ∨ op = 10 ∨ op = 11 ∨ op = 12 ∨ op = 13 ∨ op = 14 ∨ op = 15 ∨ op = 16 := by
  have hr : 1 ≤ op ∧ op ≤ 16 := by unfold two at h; simpa using h
  omega
theorem z_do (op a b : Int) (h : two op = true) : K 73 [.tr (tu op), .tr (ti a), .tr (ti b)] [] (.ret (.tup [.tr (ti (opW op a b)), .tr (ti 0)])) [] := by
  rcases two_lit h with rfl | rfl | rfl | rfl | rfl | rfl | rfl | rfl | rfl | rfl | rfl | rfl | rfl | rfl | rfl | rfl
  · exact z_do1 a b
  · exact z_do2 a b
  · exact z_do3 a b
  · exact z_do4 a b
  · exact z_do5 a b
  · exact z_do6 a b
  · exact z_do7 a b
  · exact z_do8 a b
  · exact z_do9 a b
  · exact z_do10 a b
  · exact z_do11 a b
  · exact z_do12 a b
  · exact z_do13 a b
  · exact z_do14 a b
  · exact z_do15 a b
  · exact z_do16 a b
set_option maxRecDepth 100000 in
theorem z_one17 (a : Int) : K 72 [.tr (tu 17), .tr (ti a)] [] (.ret (.tup [.tr (ti (oneW 17 a)), .tr (ti 0)])) [] := by
  refine Ctr.of hT hmix Tryz.func72 rfl (fun _ _ => by kernel_rfl) rfl fun hok => ?_
  clear hok
  conv => whnf
  exact ⟨⟨.inl rfl, .inl rfl, trivial⟩, trivial⟩
set_option maxRecDepth 100000 in
theorem z_one18 (a : Int) : K 72 [.tr (tu 18), .tr (ti a)] [] (.ret (.tup [.tr (ti (oneW 18 a)), .tr (ti 0)])) [] := by
  refine Ctr.of hT hmix Tryz.func72 rfl (fun _ _ => by kernel_rfl) rfl fun hok => ?_
  clear hok
  conv => whnf
  refine acall.pure _ (z_truth (a == 0)) rfl rfl fun _ => ?_
  conv => whnf
  exact ⟨⟨.inl rfl, .inl rfl, trivial⟩, trivial⟩
set_option maxRecDepth 100000 in
theorem z_oneN (op a : Int) (h : two op = true) : K 72 [.tr (tu op), .tr (ti a)] [] (.ret (.tup [.tr (ti 0), .tr (ti 2)])) [] := by
  have hr : 1 ≤ op ∧ op ≤ 16 := by unfold two at h; simpa using h
  refine Ctr.of hT hmix Tryz.func72 rfl (fun _ _ => by kernel_rfl) rfl fun hok => ?_
  clear hok
  conv => whnf
  refine csplit (fun g => absurd (show (op == 17) = true from g) (by simp; omega)) (fun _ => ?_)
  conv => whnf
  refine csplit (fun g => absurd (show (op == 18) = true from g) (by simp; omega)) (fun _ => ?_)
  conv => whnf
  exact ⟨⟨.inl rfl, .inl rfl, trivial⟩, trivial⟩
theorem z_drains (k : Int) : K 92 [.tr (tu k)] [] (.ret (.tr (tb (k == 5 || (k == 6 || k == 7))))) [] := by
  refine Ctr.of hT hmix Tryz.func92 rfl (fun _ _ => by kernel_rfl) rfl fun hok => ?_
  clear hok
  conv => whnf
  (repeat' (refine csplit (fun g => ?_) (fun g => ?_) <;> conv => whnf))
  all_goals (refine ⟨.inl (congrArg tb ?_), trivial⟩; simp only [*, Bool.true_or, Bool.or_true, Bool.false_or, Bool.or_false] <;> rfl)
end Go.Proofs.YtcpolpbeimhgfaaGreat.am

namespace Go.Proofs.YtcpolpbeimhgfaaGreat.am
open Go Go.Proofs
def keepB (p : Did × Int) : Bool := p.2 == 0 && p.1.kind != 0
/-- what a schedule's steps did -/
def ofP (l : List (Did × Int)) : List Did := (l.filter keepB).map (·.1)
def ofS (o : Ob) (l : List Stp) : List Did := ofP (playL (newM o) l)
theorem ofP_snoc (l : List (Did × Int)) (p : Did × Int) : ofP (l ++ [p]) = ofP l ++ (bif keepB p then [p.1] else []) := by
  unfold ofP
  rw [List.filter_append, List.map_append]
  congr 1
  cases h : keepB p <;> simp [h]
theorem ofP_len (l : List (Did × Int)) : (ofP l).length ≤ l.length := by
  unfold ofP
  rw [List.length_map]
  exact List.length_filter_le ..
theorem take_succ' {α : Type} {l : List α} {i : Nat} {x : α} (h : l[i]? = some x) : l.take (i + 1) = l.take i ++ [x] := by
  rw [List.take_add_one, h]; rfl
theorem playL_len (s : Mst) (l : List Stp) : (playL s l).length = l.length := by
  induction l generalizing s with
  | nil => rfl
  | cons x l ih => show _ + 1 = _ + 1; rw [ih]
set_option maxRecDepth 100000 in
theorem k_ofE (o : Ob) (l : List Stp) (h : playE o l ≠ 0) : K 10 [o.av, .tr (stepsT l)] [] (.ret (.tup [.tr (.v (.slice none 0 0)), .tr (ti (playE o l))])) [] := by
  have hp := k_playE o l h
  have hb := beq_eq_false_iff_ne.2 h
  generalize playE o l = e at h hp hb
  refine Ctr.of hT hmix Tryz.func10 rfl (fun _ _ => by kernel_rfl) rfl fun hok => ?_
  clear hok
  obtain ⟨memory, shared, locks, buffer, cores⟩ := o
  conv => whnf
  refine acall.pure _ (hp) rfl rfl fun _ => ?_
  conv => whnf
  refine csplit (fun h2 => ?_) (fun h2 => ?_)
  · conv => whnf
    exact ⟨⟨.inl rfl, .inl rfl, trivial⟩, trivial⟩
  · exact absurd h2 (by simpa using h)
theorem int_get {l : List Int} {i : Nat} {row : List Tr} (h : (l.map irow)[i]? = some row) : ∃ x, l[i]? = some x ∧ row = irow x := by
  rw [List.getElem?_map, Option.map_eq_some_iff] at h
  obtain ⟨d, h1, rfl⟩ := h
  exact ⟨d, h1, rfl⟩
set_option maxRecDepth 100000 in
set_option maxHeartbeats 1000000 in
theorem k_of (o : Ob) (l : List Stp) (h : (checkO o).1 = 0) (hlen : l.length ≤ 1048576) : K 10 [o.av, .tr (stepsT l)] [] (.ret (.tup [.tr (didsT (ofS o l)), .tr (ti 0)])) [] := by
  have hp := k_play o l h hlen
  have hpl := playL_len (newM o) l
  unfold ofS
  generalize playL (newM o) l = pl at hp hpl
  refine Ctr.of hT hmix Tryz.func10 rfl (fun _ _ => by kernel_rfl) rfl fun hok => ?_
  clear hok
  obtain ⟨memory, shared, locks, buffer, cores⟩ := o
  have hlm : ((pl.map (·.1)).map Did.cells).length = pl.length := by simp
  have hl63 : pl.length ≤ 9223372036854775807 := by omega
  generalize hD : pl.map (·.1) = D at hp hlm
  generalize hE : pl.map (·.2) = E at hp
  have hEm : (E.map irow).length = pl.length := by rw [← hE]; simp
  conv => whnf
  refine acall.pure _ (hp) rfl rfl fun _ => ?_
  conv => whnf
  refine LoopL.by (fun x : Nat × List Did => ⟨[(6, .tr (didsT D)), (7, .tr (intsT E)), (9, .sl 0 x.2.length), (22, .tr (didsT D)), (23, .tr (ti (pl.length : Int))), (24, .tr (ti x.1))], [(0, diV x.2)], 10⟩)
    (fun x => x.1 ≤ pl.length ∧ x.2 = ofP (pl.take x.1) ∧ x.2.length ≤ x.1) (fun x => pl.length - x.1) (0, []) [] [0]
    (Sub.mk' rfl ⟨.inl rfl, .inl rfl, ⟨rfl, rfl, rfl, rfl⟩, .inl rfl, .inl (by rw [← hlm]), .inl rfl, trivial⟩ ⟨⟨rfl, _, _, _, rfl, by decide⟩, trivial⟩ rfl rfl) ⟨Nat.zero_le _, rfl, Nat.le_refl _⟩ ?_
  rintro ⟨j, out⟩ ⟨hj, ho, hol⟩ -
  simp only at hj ho hol
  conv => whnf
  refine csplit (fun hlt => ?_) (fun hge => ?_)
  · have hlt : j < pl.length := by have : ((j : Nat) : Int) < (pl.length : Int) := of_decide_eq_true hlt; omega
    obtain ⟨p, hp⟩ : ∃ x, pl[j]? = some x := ⟨pl[j], by simp [hlt]⟩
    have hsn := ofP_snoc (pl.take j) p
    rw [← take_succ' hp, ← ho] at hsn
    have hnl := ofP_len (pl.take (j + 1))
    rw [List.length_take] at hnl
    have hDj : D[j]? = some p.1 := by rw [← hD, List.getElem?_map, hp]; rfl
    have hEj : E[j]? = some p.2 := by rw [← hE, List.getElem?_map, hp]; rfl
    obtain ⟨d, e⟩ := p
    simp only at hsn hDj hEj
    conv => whnf
    refine ⟨rfl, (show (0 : Int) ≤ j by omega), (show (j : Int) < (D.map Did.cells).length by omega), fun row hr => ?_⟩
    obtain ⟨d', hd', rfl⟩ := did_get hr
    obtain rfl : d = d' := Option.some.inj (hDj.symm.trans hd')
    clear hr hd'
    obtain ⟨dk, dc, da, dd, dw, dp, dn⟩ := d
    conv => whnf
    refine ⟨rfl, (show (0 : Int) ≤ j by omega), (show (j : Int) < (E.map irow).length by omega), fun row hr => ?_⟩
    obtain ⟨e', he', rfl⟩ := int_get hr
    obtain rfl : e = e' := Option.some.inj (hEj.symm.trans he')
    clear hr he'
    conv => whnf
    have skip : keepB (⟨dk, dc, da, dd, dw, dp, dn⟩, e) = false → ofP (pl.take (j + 1)) = out := fun q => by rw [hsn, q]; exact List.append_nil _
    refine csplit (fun h1 => ?_) (fun h1 => ?_)
    · replace h1 : (e == 0) = true := h1
      conv => whnf
      refine csplit (fun h2 => ?_) (fun h2 => ?_)
      · replace h2 : (dk != 0) = true := h2
        have hk : keepB (⟨dk, dc, da, dd, dw, dp, dn⟩, e) = true := by show ((e == 0) && (dk != 0)) = true; rw [h1, h2]; rfl
        rw [hk] at hsn
        have hsn : ofP (pl.take (j + 1)) = out ++ [⟨dk, dc, da, dd, dw, dp, dn⟩] := hsn
        have hda : (out.map Did.cells).take out.length ++ [[tu dk, ti dc, ti da, ti dd, ti dw, ti dp, tb dn]] = (ofP (pl.take (j + 1))).map Did.cells := by rw [hsn, List.take_of_length_le (by simp), List.map_append]; rfl
        have hll : (ofP (pl.take (j + 1))).length = out.length + 1 := by rw [hsn]; simp
        conv => whnf
        refine ⟨rfl, rfl, rfl, (by rw [List.length_map]; exact Nat.le_refl _), (show (out.length + 1) * 56 ≤ 150000000000000 by omega), fun q hq => ?_, ?_⟩
        · cases hq with
          | head => exact Nat.ne_of_beq_eq_false rfl
          | tail _ h => cases h
        conv => whnf
        exact ⟨(j + 1, ofP (pl.take (j + 1))), [_], [], Sub.mk' rfl ⟨.inl rfl, .inl rfl, ⟨rfl, hll.symm⟩, .inl rfl, .inl rfl, .inl (ti_succ hlt hl63), trivial⟩ ⟨⟨rfl, rfl, rfl, hda⟩, trivial⟩ rfl rfl, ⟨hlt, rfl, by show (ofP (pl.take (j + 1))).length ≤ j + 1; omega⟩, by show pl.length - (j + 1) < pl.length - j; omega⟩
      · replace h2 : (dk != 0) = false := h2
        have hk : keepB (⟨dk, dc, da, dd, dw, dp, dn⟩, e) = false := by show ((e == 0) && (dk != 0)) = false; rw [h2, Bool.and_false]
        have hsn := skip hk
        conv => whnf
        exact ⟨(j + 1, out), [0], [], Sub.mk' rfl ⟨.inl rfl, .inl rfl, ⟨rfl, rfl⟩, .inl rfl, .inl rfl, .inl (ti_succ hlt hl63), trivial⟩ ⟨⟨rfl, rfl, rfl, rfl⟩, trivial⟩ rfl rfl, ⟨hlt, hsn.symm, by show out.length ≤ j + 1; omega⟩, by show pl.length - (j + 1) < pl.length - j; omega⟩
    · replace h1 : (e == 0) = false := h1
      have hk : keepB (⟨dk, dc, da, dd, dw, dp, dn⟩, e) = false := by show ((e == 0) && (dk != 0)) = false; rw [h1, Bool.false_and]
      have hsn := skip hk
      conv => whnf
      exact ⟨(j + 1, out), [0], [], Sub.mk' rfl ⟨.inl rfl, .inl rfl, ⟨rfl, rfl⟩, .inl rfl, .inl rfl, .inl (ti_succ hlt hl63), trivial⟩ ⟨⟨rfl, rfl, rfl, rfl⟩, trivial⟩ rfl rfl, ⟨hlt, hsn.symm, by show out.length ≤ j + 1; omega⟩, by show pl.length - (j + 1) < pl.length - j; omega⟩
  · have hge : j = pl.length := by have : ¬ ((j : Nat) : Int) < (pl.length : Int) := of_decide_eq_false hge; omega
    subst hge
    rw [List.take_length] at ho
    subst ho
    conv => whnf
    refine ⟨fun _ => ?_, fun h => absurd rfl h⟩
    conv => whnf
    exact ⟨⟨⟨rfl, by rw [List.length_map]; exact Nat.le_refl _, by rw [List.take_of_length_le (by simp)]⟩, .inl rfl, trivial⟩, trivial⟩
end Go.Proofs.YtcpolpbeimhgfaaGreat.am

namespace Go.Proofs.YtcpolpbeimhgfaaGreat.am
open Go Go.Proofs
def stepK (d : Did) : Int := bif d.kind == 8 then 2 else 1
theorem k_stepOf (d : Did) : K 28 [d.av] [] (.ret (.agg [.tr (tu (stepK d)), .tr (ti d.core)])) [] := by
  obtain ⟨dk, dc, da, dd, dw, dp, dn⟩ := d
  refine Ctr.of hT hmix Tryz.func28 rfl (fun _ _ => by kernel_rfl) rfl fun hok => ?_
  clear hok
  unfold stepK
  conv => whnf
  refine csplit (fun h => ?_) (fun h => ?_)
  · replace h : (dk == 8) = true := h
    rw [h]
    conv => whnf
    exact ⟨⟨.inl rfl, .inl rfl, trivial⟩, trivial⟩
  · replace h : (dk == 8) = false := h
    rw [h]
    conv => whnf
    exact ⟨⟨.inl rfl, .inl rfl, trivial⟩, trivial⟩
end Go.Proofs.YtcpolpbeimhgfaaGreat.am

namespace Go.Proofs.YtcpolpbeimhgfaaGreat.am
open Go Go.Proofs
def stepD (d : Did) : Stp := ⟨stepK d, d.core⟩
def stepsE (l : List Did) : Int := bif l.all rightD then 0 else 190
theorem stepD_cells (d : Did) : (stepD d).cells = [tu (stepK d), ti d.core] := rfl
set_option maxRecDepth 100000 in
set_option maxHeartbeats 1000000 in
theorem t_steps (l : List Did) (h : l.all rightD = true) : K 11 [.tr (didsT l)] [] (.ret (.tup [.tr (stepsT (l.map stepD)), .tr (ti 0)])) [] := by
  have hr := t_right l
  rw [h] at hr
  refine Ctr.of hT hmix Tryz.func11 rfl (fun _ _ => by kernel_rfl) rfl fun hok => ?_
  obtain ⟨hB, hl, _⟩ := (hok.slot 0 rfl).tr.lst
  rw [List.length_map] at hl hB
  clear hok
  have hlm : (l.map Did.cells).length = l.length := List.length_map ..
  conv => whnf
  refine acall.pure _ (hr) rfl rfl fun _ => ?_
  conv => whnf
  refine LoopL.by (fun i : Nat => ⟨[(4, .sl 0 i), (10, .tr (didsT l)), (11, .tr (ti (l.length : Int))), (12, .tr (ti i))], [(0, .vec 44 2 16 (((l.map stepD).map Stp.cells).take i))], 10⟩)
    (fun i => i ≤ l.length) (fun i => l.length - i) 0 [] [0] (Sub.mk' rfl ⟨⟨rfl, rfl, rfl, rfl⟩, .inl rfl, .inl (by rw [← hlm]), .inl rfl, trivial⟩ ⟨⟨rfl, _, _, _, rfl, by decide⟩, trivial⟩ rfl rfl) (Nat.zero_le _) ?_
  rintro i hi -
  conv => whnf
  refine csplit (fun hlt => ?_) (fun hge => ?_)
  · have hlt : i < l.length := by have := of_decide_eq_true hlt; omega
    obtain ⟨d, hd⟩ : ∃ d, l[i]? = some d := ⟨l[i], by simp [hlt]⟩
    have hs : ((l.map stepD).map Stp.cells)[i]? = some (stepD d).cells := by rw [List.getElem?_map, List.getElem?_map, hd]; rfl
    have hsn := take_succ' hs
    have hl2 : ((l.map stepD).map Stp.cells).length = l.length := by simp
    generalize (l.map stepD).map Stp.cells = S at hs hsn hl2
    conv => whnf
    refine ⟨rfl, (show (0 : Int) ≤ i by omega), (show (i : Int) < (l.map Did.cells).length by rw [hlm]; omega), fun row hr => ?_⟩
    obtain ⟨d', hd', rfl⟩ := did_get hr
    obtain rfl : d = d' := Option.some.inj (hd.symm.trans hd')
    clear hr hd'
    have hso := k_stepOf d
    rw [stepD_cells] at hsn
    obtain ⟨dk, dc, da, dd, dw, dp, dn⟩ := d
    conv => whnf
    refine acall.pure _ (hso) rfl rfl fun _ => ?_
    conv => whnf
    refine ⟨rfl, rfl, rfl, (by rw [List.length_take]; omega), (show (i + 1) * 16 ≤ 150000000000000 by omega), fun q hq => ?_, ?_⟩
    · cases hq with
      | head => exact Nat.ne_of_beq_eq_false rfl
      | tail _ h => cases h
    conv => whnf
    exact ⟨i + 1, [_], [], Sub.mk' rfl ⟨⟨rfl, rfl⟩, .inl rfl, .inl rfl, .inl (ti_succ hlt hl), trivial⟩ ⟨⟨rfl, rfl, rfl, by rw [List.take_take, Nat.min_self]; exact hsn.symm⟩, trivial⟩ rfl rfl, hlt, by omega⟩
  · have hge : i = l.length := by have := of_decide_eq_false hge; omega
    subst hge
    conv => whnf
    refine ⟨fun _ => ?_, fun h => absurd rfl h⟩
    conv => whnf
    exact ⟨⟨⟨rfl, by rw [List.length_take]; simp, by rw [List.take_take, Nat.min_self, List.take_of_length_le (by simp)]⟩, .inl rfl, trivial⟩, trivial⟩
end Go.Proofs.YtcpolpbeimhgfaaGreat.am

namespace Go.Proofs.YtcpolpbeimhgfaaGreat.am
open Go Go.Proofs
theorem not_t {b : Bool} (h : (!b) = true) : b = false := by cases b <;> simp_all
theorem not_f {b : Bool} (h : (!b) = false) : b = true := by cases b <;> simp_all
def sameD (a b : Did) : Bool := a.kind == b.kind && (a.core == b.core && (a.at_ == b.at_ && (a.addr == b.addr && (a.word == b.word && (a.put == b.put && (a.own == b.own && true))))))
/-- the first that is not what its step does -/
def chkL : Mst → List Did → Nat → Nat
  | _, [], i => i
  | s, d :: l, i => bif !rightD d then i else bif (stepS s (stepK d) d.core).2.2 != 0 || !sameD (stepS s (stepK d) d.core).2.1 d then i else chkL (stepS s (stepK d) d.core).1 l (i + 1)
def chkE (o : Ob) (l : List Did) : Int := bif (checkO o).1 == 0 && decide ((l.length : Int) > 1048576) then 3 else (checkO o).1
end Go.Proofs.YtcpolpbeimhgfaaGreat.am

namespace Go.Proofs.YtcpolpbeimhgfaaGreat.am
open Go Go.Proofs
theorem seeB_own : ∀ (l : List Sto) (a : Int) (p : Int × Bool), seeB l a p = p ∨ (seeB l a p).2 = true
  | [], _, _ => .inl rfl
  | x :: l, a, p => by
    unfold seeB
    cases h : x.addr == a
    · rcases seeB_own l a p with h1 | h1
      · exact .inl h1
      · exact .inr h1
    · rcases seeB_own l a (x.word, true) with h1 | h1
      · right
        show (seeB l a (x.word, true)).2 = true
        rw [h1]
      · exact .inr h1
theorem right_mk {d : Did} (hk : 1 ≤ d.kind ∧ d.kind ≤ 8) (hc : 0 ≤ d.core ∧ d.core < 8) (ha : 0 ≤ d.at_ ∧ d.at_ < 16384) (hd : 0 ≤ d.addr ∧ d.addr < 4096) (hu : usdD d = true) : rightD d = true := by
  have ho : outD d = false := by
    unfold outD
    rw [beq_eq_false_iff_ne.2 (show d.kind ≠ 0 by omega), decide_eq_false (show ¬ d.kind ≥ 9 by omega), decide_eq_false (show ¬ d.core < 0 by omega), decide_eq_false (show ¬ d.core ≥ 8 by omega), decide_eq_false (show ¬ d.at_ < 0 by omega), decide_eq_false (show ¬ d.at_ ≥ 16384 by omega), decide_eq_false (show ¬ d.addr < 0 by omega), decide_eq_false (show ¬ d.addr ≥ 4096 by omega)]
    rfl
  unfold rightD
  rw [ho, hu]
  rfl
/-- what is known of a step that did something -/
structure StepF (s : Mst) (kd k : Int) (s' : Mst) (d : Did) : Prop where
  right : rightD d = true
  core : d.core = k
  kind : stepK d = kd
  addr : addrK d.kind = true → 0 ≤ d.addr ∧ d.addr < s.mem.length
  load : d.kind = 2 → d.own = false → d.word = s.mem.getD d.addr.toNat 0
  swap : d.kind = 4 → d.word = s.mem.getD d.addr.toNat 0 ∧ s'.mem = s.mem.set d.addr.toNat d.put
  drain : d.kind = 8 → s'.mem = s.mem.set d.addr.toNat d.word
  mem : d.kind ≠ 4 → d.kind ≠ 8 → s'.mem = s.mem
theorem runS_f {s : Mst} (h : VInv s) {k : Nat} {c : Cst} {r : Cor} {i : Ins} (hc : s.cores[k]? = some c) (hr : s.o.cores[k]? = some r) (hi : r.code[c.at_.toNat]? = some i) : StepF s 1 k (runS s k c i).1 (runS s k c i).2 := by
  have hI := h.core k c r hc hr
  have hg := check_good h.chk
  have hR := right_i (hg.right r (List.mem_of_getElem? hr) i (List.mem_of_getElem? hi))
  have hcode := hg.code r (List.mem_of_getElem? hr)
  have h0 := hI.at0
  have h1 := hI.at1
  have hk8 : (k : Int) < 8 := by
    have := (List.getElem?_eq_some_iff.1 hr).1
    have := hg.cores
    omega
  have hm := hg.mem
  have hml := h.mem
  have hA := hR.addr
  have core : 0 ≤ (k : Int) ∧ (k : Int) < 8 := ⟨by omega, hk8⟩
  have at_ : 0 ≤ c.at_ ∧ c.at_ < 16384 := ⟨h0, by omega⟩
  have zero : (0 : Int) ≤ 0 ∧ (0 : Int) < 4096 := by decide
  have hk := hR.kind
  have hkc : i.kind = 1 ∨ i.kind = 2 ∨ i.kind = 3 ∨ i.kind = 4 ∨ i.kind = 5 ∨ i.kind = 6 ∨ i.kind = 7 ∨ i.kind = 8 ∨ i.kind = 9 ∨ i.kind = 10 := by omega
  unfold runS
  rcases hkc with e | e | e | e | e | e | e | e | e | e <;> rw [e]
  · exact ⟨right_mk (by decide : (1 : Int) ≤ 1 ∧ (1 : Int) ≤ 8) core at_ zero rfl, rfl, rfl, fun q => (by cases q), fun q => absurd q (by decide : ¬ (1 : Int) = 2), fun q => absurd q (by decide : ¬ (1 : Int) = 4), fun q => absurd q (by decide : ¬ (1 : Int) = 8), fun _ _ => rfl⟩
  · exact ⟨right_mk (by decide : (1 : Int) ≤ 1 ∧ (1 : Int) ≤ 8) core at_ zero rfl, rfl, rfl, fun q => (by cases q), fun q => absurd q (by decide : ¬ (1 : Int) = 2), fun q => absurd q (by decide : ¬ (1 : Int) = 4), fun q => absurd q (by decide : ¬ (1 : Int) = 8), fun _ _ => rfl⟩
  · have hA := hA (.inl e)
    refine ⟨right_mk (by decide : (1 : Int) ≤ 2 ∧ (2 : Int) ≤ 8) core at_ ⟨hA.1, by show i.addr < 4096; omega⟩ rfl, rfl, rfl, fun _ => ⟨hA.1, by show i.addr < _; omega⟩, fun _ q => ?_, fun q => absurd q (by decide : ¬ (2 : Int) = 4), fun q => absurd q (by decide : ¬ (2 : Int) = 8), fun _ _ => rfl⟩
    have q : (seeS s c i).2 = false := q
    rcases seeB_own c.buf i.addr (s.mem.getD i.addr.toNat 0, false) with w | w
    · show (seeS s c i).1 = s.mem.getD i.addr.toNat 0
      unfold seeS
      rw [w]
    · unfold seeS at q
      rw [w] at q
      cases q
  · have hA := hA (.inr (.inl e))
    exact ⟨right_mk (by decide : (1 : Int) ≤ 3 ∧ (3 : Int) ≤ 8) core at_ ⟨hA.1, by show i.addr < 4096; omega⟩ rfl, rfl, rfl, fun _ => ⟨hA.1, by show i.addr < _; omega⟩, fun q => absurd q (by decide : ¬ (3 : Int) = 2), fun q => absurd q (by decide : ¬ (3 : Int) = 4), fun q => absurd q (by decide : ¬ (3 : Int) = 8), fun _ _ => rfl⟩
  · have hA := hA (.inr (.inr e))
    exact ⟨right_mk (by decide : (1 : Int) ≤ 4 ∧ (4 : Int) ≤ 8) core at_ ⟨hA.1, by show i.addr < 4096; omega⟩ rfl, rfl, rfl, fun _ => ⟨hA.1, by show i.addr < _; omega⟩, fun q => absurd q (by decide : ¬ (4 : Int) = 2), fun _ => ⟨rfl, rfl⟩, fun q => absurd q (by decide : ¬ (4 : Int) = 8), fun q => absurd rfl q⟩
  · exact ⟨right_mk (by decide : (1 : Int) ≤ 5 ∧ (5 : Int) ≤ 8) core at_ zero rfl, rfl, rfl, fun q => (by cases q), fun q => absurd q (by decide : ¬ (5 : Int) = 2), fun q => absurd q (by decide : ¬ (5 : Int) = 4), fun q => absurd q (by decide : ¬ (5 : Int) = 8), fun _ _ => rfl⟩
  · exact ⟨right_mk (by decide : (1 : Int) ≤ 6 ∧ (6 : Int) ≤ 8) core at_ zero rfl, rfl, rfl, fun q => (by cases q), fun q => absurd q (by decide : ¬ (6 : Int) = 2), fun q => absurd q (by decide : ¬ (6 : Int) = 4), fun q => absurd q (by decide : ¬ (6 : Int) = 8), fun _ _ => rfl⟩
  · exact ⟨right_mk (by decide : (1 : Int) ≤ 1 ∧ (1 : Int) ≤ 8) core at_ zero rfl, rfl, rfl, fun q => (by cases q), fun q => absurd q (by decide : ¬ (1 : Int) = 2), fun q => absurd q (by decide : ¬ (1 : Int) = 4), fun q => absurd q (by decide : ¬ (1 : Int) = 8), fun _ _ => rfl⟩
  · exact ⟨right_mk (by decide : (1 : Int) ≤ 1 ∧ (1 : Int) ≤ 8) core at_ zero rfl, rfl, rfl, fun q => (by cases q), fun q => absurd q (by decide : ¬ (1 : Int) = 2), fun q => absurd q (by decide : ¬ (1 : Int) = 4), fun q => absurd q (by decide : ¬ (1 : Int) = 8), fun _ _ => rfl⟩
  · exact ⟨right_mk (by decide : (1 : Int) ≤ 7 ∧ (7 : Int) ≤ 8) core at_ zero rfl, rfl, rfl, fun q => (by cases q), fun q => absurd q (by decide : ¬ (7 : Int) = 2), fun q => absurd q (by decide : ¬ (7 : Int) = 4), fun q => absurd q (by decide : ¬ (7 : Int) = 8), fun _ _ => rfl⟩
/-- a step did something, or it left all as it was -/
theorem stepS_f {s : Mst} (h : VInv s) (kd k : Int) : (keepB (stepS s kd k).2 = true ∧ StepF s kd k (stepS s kd k).1 (stepS s kd k).2.1) ∨ (keepB (stepS s kd k).2 = false ∧ (stepS s kd k).1 = s) := by
  unfold stepS
  split
  · exact .inr ⟨rfl, rfl⟩
  rename_i hkd
  have hkd : kd = 1 ∨ kd = 2 := by omega
  split
  · exact .inr ⟨rfl, rfl⟩
  rename_i hk
  obtain ⟨n, rfl⟩ := Int.eq_ofNat_of_zero_le (a := k) (by omega)
  rw [Int.toNat_natCast]
  have hn : n < s.cores.length := by omega
  obtain ⟨c, hc⟩ : ∃ c, s.cores[n]? = some c := ⟨_, List.getElem?_eq_getElem hn⟩
  obtain ⟨r, hr⟩ := h.cor hc
  obtain ⟨i, e, hi, hR⟩ := h.ins hc hr
  have hI := h.core n c r hc hr
  have hg := check_good h.chk
  rw [hc]
  rcases hkd with rfl | rfl
  · show (keepB (runC s n c).2 = true ∧ StepF s 1 n (runC s n c).1 (runC s n c).2.1) ∨ (keepB (runC s n c).2 = false ∧ (runC s n c).1 = s)
    unfold runC
    split
    · exact .inr ⟨rfl, rfl⟩
    rw [e]
    show (keepB (if stallB s c i = true then _ else _ : Mst × Did × Int).2 = true ∧ StepF s 1 n (if stallB s c i = true then _ else _ : Mst × Did × Int).1 (if stallB s c i = true then _ else _ : Mst × Did × Int).2.1) ∨ (keepB (if stallB s c i = true then _ else _ : Mst × Did × Int).2 = false ∧ (if stallB s c i = true then _ else _ : Mst × Did × Int).1 = s)
    split
    · exact .inr ⟨rfl, rfl⟩
    · have hF := runS_f h hc hr hi
      refine .inl ⟨?_, hF⟩
      unfold keepB
      have h3 : (runS s n c i).2.kind ≠ 0 := fun q => by
        have := hF.right
        unfold rightD outD at this
        rw [q] at this
        cases this
      rw [show ((runS s n c i).2.kind != 0) = true by simpa using h3]
      rfl
  · show (keepB (drainC s n c).2 = true ∧ StepF s 2 n (drainC s n c).1 (drainC s n c).2.1) ∨ (keepB (drainC s n c).2 = false ∧ (drainC s n c).1 = s)
    unfold drainC
    split
    · exact .inr ⟨rfl, rfl⟩
    · rename_i x l hb
      have hx := hI.adr x (by rw [hb]; exact .head _)
      have hk8 : (n : Int) < 8 := by
        have := (List.getElem?_eq_some_iff.1 hr).1
        have := hg.cores
        omega
      have hm := hg.mem
      have hml := h.mem
      exact .inl ⟨rfl, right_mk (by decide : (1 : Int) ≤ 8 ∧ (8 : Int) ≤ 8) ⟨by show (0 : Int) ≤ n; omega, hk8⟩ hx.2 ⟨hx.1.1, by show x.addr < 4096; omega⟩ rfl, rfl, rfl, fun _ => ⟨hx.1.1, by show x.addr < _; omega⟩, fun q => absurd q (by decide : ¬ (8 : Int) = 2), fun q => absurd q (by decide : ¬ (8 : Int) = 4), fun _ => rfl, fun _ q => absurd rfl q⟩
/-! lists of steps -/
theorem playL_cons (s : Mst) (x : Stp) (l : List Stp) : playL s (x :: l) = (stepS s x.kind x.core).2 :: playL (stepS s x.kind x.core).1 l := rfl
theorem ofP_cons (p : Did × Int) (l : List (Did × Int)) : ofP (p :: l) = bif keepB p then p.1 :: ofP l else ofP l := by
  unfold ofP
  cases h : keepB p <;> simp [h]
theorem ofP_right {s : Mst} (h : VInv s) (l : List Stp) : (ofP (playL s l)).all rightD = true := by
  induction l generalizing s with
  | nil => rfl
  | cons x l ih =>
    rw [playL_cons, ofP_cons]
    have hi := ih (stepS_inv h x.kind x.core)
    rcases stepS_f h x.kind x.core with ⟨e, hF⟩ | ⟨e, _⟩
    · rw [e]
      show (_ :: _ : List Did).all rightD = true
      rw [List.all_cons, hF.right, hi]
      rfl
    · rw [e]
      exact hi
end Go.Proofs.YtcpolpbeimhgfaaGreat.am

namespace Go.Proofs.YtcpolpbeimhgfaaGreat.am
open Go Go.Proofs
/-- what a result stands for, it stands for otherwise too -/
theorem Ctr.res {P : Program} {f : Nat} {args : List AV} {bin : List Blk} {a a' : AV} {bout : List (Option Blk)} (h : Ctr P f args bin (.ret a) bout) (hc : ∀ (g : Gh) (w : World) (v : Value), Rep g w v a → Rep g w v a') : Ctr P f args bin (.ret a') bout :=
  ⟨h.callable, fun g w vs h1 h2 h3 h4 => (h.run g w vs h1 h2 h3 h4).mono fun e w' ⟨g', q1, q2, q3, q4⟩ => ⟨g', q1, q2, q3, by
    cases e with
    | returned v => exact hc g' w' v q4
    | _ => exact q4⟩⟩
theorem RepT.nlr {ok : Nat → Prop} {w : World} {v : Value} {n B : Nat} {rows rows' : List (List Tr)} (h : RepT ok w v (.lst n B rows)) (hr : nlR rows rows') : RepT ok w v (.lst n B rows') := by
  obtain ⟨hl, hg⟩ := nlR_get hr
  cases h with
  | lst f h1 h2 h3 h4 h5 h6 h7 =>
    refine .lst f (h1.trans hl) h2 h3 h4 h5 (fun i row' hi => ?_) (fun i row' j t' hi hj => ?_)
    · obtain ⟨row, e1, e2⟩ := hg i row' hi
      obtain ⟨q1, q2⟩ := h6 i row e1
      exact ⟨(nlL_get e2).1.symm.trans q1, q2⟩
    · obtain ⟨row, e1, e2⟩ := hg i row' hi
      obtain ⟨t, e3, e4⟩ := (nlL_get e2).2 j t' hj
      have := h7 i row j t e1 e3
      rcases e4 with rfl | ⟨rfl, n2, B2, rfl⟩
      · exact this
      · exact this.nil n2 B2
abbrev csT (l : List Cst) : Tr := .lst 19 168 (l.map Cst.row)
abbrev prT (l : List Prn) : Tr := .lst 2 16 (l.map Prn.row)
abbrev stX (o : Ob) (a b c : AV) : AV := .agg [.tr (intsT o.memory), .tr (ti o.shared), .tr (ti o.locks), .tr (ti o.buffer), .tr (coresT o.cores), a, b, c]
abbrev stA (s : Mst) : AV := stX s.o (.tr (csT s.cores)) (.tr (intsT s.mem)) (.tr (prT s.prints))
set_option maxRecDepth 100000 in
theorem z_new0 (o : Ob) (hm : o.memory.length ≤ 4096) (hk : o.cores.length ≤ 8) : K 29 [o.av] [] (.ret (stX o (.tr (.lst 19 168 (List.replicate (((o.cores.map Cor.cells).length : Int)).toNat zeroC))) (.tr (intsT o.memory)) (.tr (prT [])))) [] := by
  obtain ⟨memory, shared, locks, buffer, cores⟩ := o
  simp only at hm hk
  refine Ctr.of hT hmix Tryz.func29 rfl (fun _ _ => by kernel_rfl) rfl fun hok => ?_
  clear hok
  conv => whnf
  refine ⟨(show (0 : Int) ≤ ((cores.map Cor.cells).length : Int) by omega), Int.le_refl _, (show ((cores.map Cor.cells).length : Int) * 168 ≤ 140737488351232 by rw [List.length_map]; omega), ?_⟩
  conv => whnf
  refine ⟨rfl, rfl, rfl, by simp, (show (0 + (memory.map irow).length) * 8 ≤ 150000000000000 by rw [List.length_map]; omega), fun q hq => (by cases hq), ?_⟩
  conv => whnf
  refine ⟨by kernel_rfl, fun _ => ?_⟩
  conv => whnf
  exact ⟨⟨.inl rfl, .inl rfl, .inl rfl, .inl rfl, .inl rfl, ⟨rfl, by simp, congrArg (Tr.lst 19 168) (List.take_of_length_le (Nat.le_of_eq (List.length_replicate ..))).symm⟩, ⟨rfl, by simp, (by simp; rw [List.take_of_length_le (by simp)])⟩, .inr ⟨rfl, _, _, rfl⟩, trivial⟩, trivial⟩
theorem z_new (o : Ob) (hm : o.memory.length ≤ 4096) (hk : o.cores.length ≤ 8) : K 29 [o.av] [] (.ret (stA (newM o))) [] :=
  (z_new0 o hm hk).res fun g w v h => by
    cases h with
    | agg h1 h2 h3 =>
      refine .agg h1 (fun a ha => ?_) (fun i c a e1 e2 => ?_)
      · simp only [List.mem_cons, List.not_mem_nil, or_false] at ha
        rcases ha with rfl | rfl | rfl | rfl | rfl | rfl | rfl | rfl <;> rfl
      · match i, e2 with
        | 0, e2 => exact h3 0 c a e1 e2
        | 1, e2 => exact h3 1 c a e1 e2
        | 2, e2 => exact h3 2 c a e1 e2
        | 3, e2 => exact h3 3 c a e1 e2
        | 4, e2 => exact h3 4 c a e1 e2
        | 5, e2 =>
          cases e2
          exact .tr ((h3 5 c _ e1 rfl).tr_inv.nlr (new_rows o.cores))
        | 6, e2 => exact h3 6 c a e1 e2
        | 7, e2 => exact h3 7 c a e1 e2
theorem regs16 {l : List Int} (h : l.length = 16) : ∃ r0 r1 r2 r3 r4 r5 r6 r7 r8 r9 r10 r11 r12 r13 r14 r15, l = [r0, r1, r2, r3, r4, r5, r6, r7, r8, r9, r10, r11, r12, r13, r14, r15] := by
  match l, h with
  | [r0, r1, r2, r3, r4, r5, r6, r7, r8, r9, r10, r11, r12, r13, r14, r15], _ => exact ⟨_, _, _, _, _, _, _, _, _, _, _, _, _, _, _, _, rfl⟩
theorem cor_get {l : List Cor} {i : Nat} {row : List Tr} (h : (l.map Cor.cells)[i]? = some row) : ∃ d, l[i]? = some d ∧ row = d.cells := by
  rw [List.getElem?_map, Option.map_eq_some_iff] at h
  obtain ⟨d, h1, rfl⟩ := h
  exact ⟨d, h1, rfl⟩
theorem ins_get {l : List Ins} {i : Nat} {row : List Tr} (h : (l.map Ins.cells)[i]? = some row) : ∃ d, l[i]? = some d ∧ row = d.cells := by
  rw [List.getElem?_map, Option.map_eq_some_iff] at h
  obtain ⟨d, h1, rfl⟩ := h
  exact ⟨d, h1, rfl⟩
theorem stall_ref (s : Mst) (c : Cst) (i : Ins) : stallB s c i = bif (i.kind == 5 || (i.kind == 6 || i.kind == 7)) && decide ((c.buf.length : Int) > 0) then true else (i.kind == 4 && decide ((c.buf.length : Int) ≥ s.o.buffer)) := by
  unfold stallB
  by_cases h4 : i.kind = 4
  · rw [h4]
    simp
  · rw [show (i.kind == 4) = false by simpa using h4]
    cases i.kind == 5 <;> cases i.kind == 6 <;> cases i.kind == 7 <;> simp
set_option maxRecDepth 100000 in
set_option maxHeartbeats 1000000 in
theorem z_waits (s : Mst) (k : Nat) {c : Cst} {r : Cor} {i : Ins} (hc : s.cores[k]? = some c) (h16 : c.regs.length = 16) (hr : s.o.cores[k]? = some r) (h0 : 0 ≤ c.at_) (hi : r.code[c.at_.toNat]? = some i) : K 70 [stA s, .tr (ti k)] [] (.ret (.tr (tb (stallB s c i)))) [] := by
  have hdr := z_drains i.kind
  have hB := stall_ref s c i
  generalize stallB s c i = R at hB
  obtain ⟨o, cores, mem, prints⟩ := s
  obtain ⟨memory, shared, locks, buffer, ocores⟩ := o
  simp only at hc hr hB
  have hkl : k < cores.length := (List.getElem?_eq_some_iff.1 hc).1
  have hkr : k < ocores.length := (List.getElem?_eq_some_iff.1 hr).1
  have hci : c.at_ < (r.code.length : Int) := by have := (List.getElem?_eq_some_iff.1 hi).1; omega
  have hbl : (c.buf.map Sto.row).length = c.buf.length := List.length_map ..
  rw [← hbl] at hB
  clear hbl
  obtain ⟨ca, ch, cr, cb⟩ := c
  obtain ⟨r0, r1, r2, r3, r4, r5, r6, r7, r8, r9, r10, r11, r12, r13, r14, r15, rfl⟩ := regs16 h16
  refine Ctr.of hT hmix Tryz.func70 rfl (fun _ _ => by kernel_rfl) rfl fun hok => ?_
  clear hok
  conv => whnf
  refine ⟨rfl, (show (0 : Int) ≤ k by omega), (show (k : Int) < ((cores.map Cst.row).length : Int) by rw [List.length_map]; omega), fun row hrow => ?_⟩
  obtain rfl := row_of hc hrow
  clear hrow
  conv => whnf
  refine .inl ?_
  conv => whnf
  refine ⟨rfl, (show (0 : Int) ≤ k by omega), (show (k : Int) < ((ocores.map Cor.cells).length : Int) by rw [List.length_map]; omega), fun row hrow => ?_⟩
  obtain ⟨r', hr', rfl⟩ := cor_get hrow
  obtain rfl : r = r' := Option.some.inj (hr.symm.trans hr')
  clear hrow hr'
  conv => whnf
  refine ⟨rfl, h0, (show ca < ((r.code.map Ins.cells).length : Int) by rw [List.length_map]; exact hci), fun row hrow => ?_⟩
  obtain ⟨i', hi', rfl⟩ := ins_get hrow
  obtain rfl : i = i' := Option.some.inj (hi.symm.trans hi')
  clear hrow hi'
  obtain ⟨kind, op, D, a, b, addr, to_, word, from_⟩ := i
  simp only at hdr hB
  conv => whnf
  refine ⟨by kernel_rfl, fun _ => ?_⟩
  conv => whnf
  refine acall.pure _ (hdr) rfl rfl fun _ => ?_
  conv => whnf
  (repeat' (refine csplit (fun g => ?_) (fun g => ?_) <;> conv => whnf))
  all_goals (refine ⟨.inl (congrArg tb ?_), trivial⟩; rw [hB]; simp only [*, Bool.true_or, Bool.or_true, Bool.false_or, Bool.or_false, Bool.true_and, Bool.false_and, Bool.and_true, Bool.and_false, cond_true, cond_false] <;> rfl)
end Go.Proofs.YtcpolpbeimhgfaaGreat.am

namespace Go.Proofs.YtcpolpbeimhgfaaGreat.am
open Go Go.Proofs
set_option maxRecDepth 100000 in
set_option maxHeartbeats 2000000 in
theorem z_copy (s : Mst) (h16 : ∀ c ∈ s.cores, c.regs.length = 16) (hbf : ∀ c ∈ s.cores, c.buf.length ≤ 64) (hm : s.mem.length ≤ 4096) (hk : s.cores.length ≤ 8) (hp : s.prints.length ≤ 2000000) :
    K 71 [stA s] [] (.ret (stX s.o (.sl 0 s.cores.length) (.sl 1 s.mem.length) (.sl 2 s.prints.length))) [some (csB s.cores), some (meB s.mem), some (prB s.prints)] := by
  obtain ⟨o, cores, mem, prints⟩ := s
  obtain ⟨memory, shared, locks, buffer, ocores⟩ := o
  simp only at h16 hbf hm hk hp
  have hcl : (cores.map Cst.row).length = cores.length := List.length_map ..
  refine Ctr.new [] hT hmix Tryz.func71 rfl (fun _ _ => by kernel_rfl) rfl fun hok => ?_
  clear hok
  conv => whnf
  refine ⟨rfl, rfl, rfl, by simp, (show (0 + (mem.map irow).length) * 8 ≤ 150000000000000 by rw [List.length_map]; omega), fun q hq => (by cases hq), ?_⟩
  conv => whnf
  refine ⟨rfl, rfl, rfl, by simp, (show (0 + (prints.map Prn.row).length) * 16 ≤ 150000000000000 by rw [List.length_map]; omega), fun q hq => (by cases hq), ?_⟩
  conv => whnf
  refine LoopL.by (fun j : Nat => ⟨[(1, .ptr 0 0), (2, .ptr 1 0), (3, .sl 4 j), (4, .tr (ti j))], [(0, .cells 72 [.tr (intsT memory), .tr (ti shared), .tr (ti locks), .tr (ti buffer), .tr (coresT ocores), .tr (csT cores), .sl 2 mem.length, .sl 3 prints.length]), (1, .cells 72 [.tr (.v (.slice none 0 0)), .tr (ti 0), .tr (ti 0), .tr (ti 0), .tr (.v (.slice none 0 0)), .tr (.v (.slice none 0 0)), .tr (.v (.slice none 0 0)), .tr (.v (.slice none 0 0))]), (2, meB mem), (3, prB prints), (4, .own 19 168 ((cores.take j).map Cst.row) [])], 10⟩)
    (fun j => j ≤ cores.length) (fun j => cores.length - j) 0 [_, _, _, _] [4]
    (Sub.mk' rfl ⟨⟨rfl, rfl⟩, ⟨rfl, rfl⟩, ⟨rfl, rfl, rfl, rfl⟩, .inl rfl, trivial⟩ ⟨⟨rfl, .inl rfl, .inl rfl, .inl rfl, .inl rfl, .inl rfl, .inl rfl, ⟨rfl, by simp⟩, ⟨rfl, by simp⟩, trivial⟩, ⟨rfl, .inl rfl, .inl rfl, .inl rfl, .inl rfl, .inl rfl, .inl rfl, .inl rfl, .inl rfl, trivial⟩, ⟨rfl, rfl, rfl, by simp⟩, ⟨rfl, rfl, rfl, by simp⟩, ⟨rfl, rfl, rfl, by decide⟩, trivial⟩ rfl rfl) (Nat.zero_le _) ?_
  rintro j hj -
  have hj1 : IntKind.i64.wrap ((j : Int) + 1) = ((j + 1 : Nat) : Int) := by rw [w64 (by omega) (by omega)]; omega
  conv => whnf
  refine csplit (fun h1 => ?_) (fun h1 => ?_)
  · have hjl : j < cores.length := by
      have : decide ((j : Int) < ((cores.map Cst.row).length : Int)) = true := h1
      have := of_decide_eq_true this
      omega
    obtain ⟨c, hc⟩ : ∃ c, cores[j]? = some c := ⟨cores[j], by simp [hjl]⟩
    have hmem := List.mem_of_getElem? hc
    have h16c := h16 c hmem
    have hbc := hbf c hmem
    have hsn := take_succ' hc
    obtain ⟨ca, ch, cr, cb⟩ := c
    simp only at hbc
    obtain ⟨r0, r1, r2, r3, r4, r5, r6, r7, r8, r9, r10, r11, r12, r13, r14, r15, rfl⟩ := regs16 h16c
    conv => whnf
    refine ⟨rfl, (show (0 : Int) ≤ (j : Int) by omega), (show (j : Int) < ((cores.map Cst.row).length : Int) by rw [hcl]; omega), fun row hrow => ?_⟩
    obtain rfl := row_of hc hrow
    clear hrow
    conv => whnf
    refine .inl ?_
    conv => whnf
    refine ⟨rfl, rfl, rfl, by simp, (show (0 + (cb.map Sto.row).length) * 24 ≤ 150000000000000 by rw [List.length_map]; omega), fun q hq => (by cases hq), ?_⟩
    conv => whnf
    refine ⟨by simp; omega, rfl, Nat.le_refl _, (show (j + 1) * 168 ≤ 150000000000000 by omega), trivial, trivial, trivial, ?_⟩
    conv => whnf
    refine ⟨j + 1, [0, 1, 2, 3, 31], [], Sub.pk [31] ?_, hjl, by omega⟩
    conv => whnf
    refine ⟨rfl, rfl, (by simp), (by simp; exact sto_leaf cb), ?_⟩
    refine Sub0.mk' rfl ⟨⟨rfl, rfl⟩, ⟨rfl, rfl⟩, ⟨rfl, rfl⟩, .inl (congrArg ti hj1), trivial⟩ ⟨⟨rfl, .inl rfl, .inl rfl, .inl rfl, .inl rfl, .inl rfl, .inl rfl, ⟨rfl, rfl⟩, ⟨rfl, rfl⟩, trivial⟩, ⟨rfl, .inl rfl, .inl rfl, .inl rfl, .inl rfl, .inl rfl, .inl rfl, .inl rfl, .inl rfl, trivial⟩, ⟨rfl, rfl, rfl, rfl⟩, ⟨rfl, rfl, rfl, rfl⟩, ⟨rfl, rfl, rfl, rfl, .inl ?_⟩, trivial⟩ rfl rfl
    refine (setC_last (by simp; omega)).trans ?_
    rw [hsn, List.map_append]
    congr 1
    simp [Cst.row]
    exact List.take_of_length_le (by simp)
  · have hjl : j = cores.length := by
      have : decide ((j : Int) < ((cores.map Cst.row).length : Int)) = false := h1
      have := of_decide_eq_false this
      omega
    subst hjl
    conv => whnf
    refine ⟨fun _ => ?_, fun h => absurd rfl h⟩
    conv => whnf
    exact ⟨[4, 2, 3], rfl, rfl, ⟨.inl rfl, .inl rfl, .inl rfl, .inl rfl, .inl rfl, ⟨rfl, rfl⟩, ⟨rfl, rfl⟩, ⟨rfl, rfl⟩, trivial⟩, ⟨rfl, rfl, rfl, rfl, .inl (by rw [List.take_of_length_le (Nat.le_refl _)])⟩, ⟨rfl, rfl, rfl, rfl⟩, ⟨rfl, rfl, rfl, rfl⟩, trivial⟩
/-! what a load sees -/
theorem seeB_snoc (l : List Sto) (x : Sto) (a : Int) (p : Int × Bool) : seeB (l ++ [x]) a p = bif x.addr == a then (x.word, true) else seeB l a p := by
  induction l generalizing p with
  | nil =>
    show seeB [] a (bif x.addr == a then (x.word, true) else p) = _
    rfl
  | cons y l ih =>
    show seeB (l ++ [x]) a _ = bif x.addr == a then _ else seeB l a _
    exact ih _
abbrev cstX (c : Cst) (b : AV) : AV := .agg (.tr (ti c.at_) :: .tr (tb c.halted) :: ((c.regs.map fun r => AV.tr (ti r)) ++ [b]))
set_option maxRecDepth 100000 in
set_option maxHeartbeats 1000000 in
theorem z_seen (s : Mst) (k : Nat) (c : Cst) (addr : Int) (h16 : c.regs.length = 16) (hb : c.buf.length ≤ 64) (hm0 : 0 ≤ addr) (hm1 : addr < (s.mem.length : Int)) :
    K 74 [stX s.o (.sl 0 s.cores.length) (.tr (intsT s.mem)) (.tr (prT s.prints)), cstX c (.sl 1 c.buf.length), .tr (ti addr)] [.own 19 168 (s.cores.map Cst.row) [((k, 18), (1, c.buf.length))], .own 3 24 (c.buf.map Sto.row) []]
      (.ret (.tup [.tr (ti (seeB c.buf addr (s.mem.getD addr.toNat 0, false)).1), .tr (tb (seeB c.buf addr (s.mem.getD addr.toNat 0, false)).2)])) [some (.own 19 168 (s.cores.map Cst.row) [((k, 18), (1, c.buf.length))]), some (.own 3 24 (c.buf.map Sto.row) [])] := by
  obtain ⟨o, cores, mem, prints⟩ := s
  obtain ⟨memory, shared, locks, buffer, ocores⟩ := o
  simp only at hm1
  obtain ⟨ca, ch, cr, cb⟩ := c
  obtain ⟨r0, r1, r2, r3, r4, r5, r6, r7, r8, r9, r10, r11, r12, r13, r14, r15, rfl⟩ := regs16 h16
  simp only at hb
  generalize hR : seeB cb addr (mem.getD addr.toNat 0, false) = R
  refine Ctr.of hT hmix Tryz.func74 rfl (fun _ _ => by kernel_rfl) rfl fun hok => ?_
  clear hok
  conv => whnf
  refine .inl ?_
  conv => whnf
  have hw1 : IntKind.i64.wrap ((cb.length : Int) - 1) = (cb.length : Int) - 1 := by rw [w64 (by omega) (by omega)]
  refine LoopL.by (fun x : Int × Nat => ⟨[(2, .tr (ti addr)), (3, .ptr 2 0), (4, .ptr 3 0), (8, .tr (ti x.1))], [(0, .own 19 168 (cores.map Cst.row) [((k, 18), (1, cb.length))]), (1, .own 3 24 (cb.map Sto.row) []), (2, .cells 72 [.tr (intsT memory), .tr (ti shared), .tr (ti locks), .tr (ti buffer), .tr (coresT ocores), .sl 0 cores.length, .tr (intsT mem), .tr (prT prints)]), (3, .cells 139 [.tr (ti ca), .tr (tb ch), .tr (ti r0), .tr (ti r1), .tr (ti r2), .tr (ti r3), .tr (ti r4), .tr (ti r5), .tr (ti r6), .tr (ti r7), .tr (ti r8), .tr (ti r9), .tr (ti r10), .tr (ti r11), .tr (ti r12), .tr (ti r13), .tr (ti r14), .tr (ti r15), .sl 1 cb.length])], 10⟩)
    (fun x => x.1 = (x.2 : Int) - 1 ∧ x.2 ≤ cb.length ∧ R = seeB (cb.take x.2) addr (mem.getD addr.toNat 0, false)) (fun x => x.2) ((cb.length : Int) - 1, cb.length) [0, 1, _, _] []
    (Sub.mk' rfl ⟨.inl rfl, ⟨rfl, rfl⟩, ⟨rfl, rfl⟩, .inl (congrArg ti hw1), trivial⟩ ⟨⟨rfl, rfl, rfl, rfl, .inl rfl⟩, ⟨rfl, rfl, rfl, rfl, .inl rfl⟩, ⟨rfl, .inl rfl, .inl rfl, .inl rfl, .inl rfl, .inl rfl, ⟨rfl, rfl⟩, .inl rfl, .inl rfl, trivial⟩, ⟨rfl, .inl rfl, .inl rfl, .inl rfl, .inl rfl, .inl rfl, .inl rfl, .inl rfl, .inl rfl, .inl rfl, .inl rfl, .inl rfl, .inl rfl, .inl rfl, .inl rfl, .inl rfl, .inl rfl, .inl rfl, .inl rfl, ⟨rfl, rfl⟩, trivial⟩, trivial⟩ rfl rfl) ⟨rfl, Nat.le_refl _, by rw [List.take_length]; exact hR.symm⟩ ?_
  rintro ⟨i, n⟩ ⟨hin, hn, hRn⟩ -
  simp only at hin hn hRn
  conv => whnf
  refine csplit (fun h1 => ?_) (fun h1 => ?_)
  · have hi0 : 0 ≤ i := of_decide_eq_true h1
    obtain ⟨m, rfl⟩ := Int.eq_ofNat_of_zero_le hi0
    obtain rfl : n = m + 1 := by omega
    have hml : m < cb.length := by omega
    obtain ⟨x, hx⟩ : ∃ x, cb[m]? = some x := ⟨cb[m], by simp [hml]⟩
    rw [take_succ' hx, seeB_snoc] at hRn
    have hm2 : IntKind.i64.wrap ((m : Int) - 1) = (m : Int) - 1 := by rw [w64 (by omega) (by omega)]
    conv => whnf
    refine ⟨rfl, (show (0 : Int) ≤ (m : Int) by omega), (show (m : Int) < (cb.length : Int) by omega), ?_⟩
    conv => whnf
    refine ⟨rfl, (by rw [List.length_map]; exact hml), fun row hrow => ?_⟩
    obtain ⟨y, hy, rfl⟩ := buf_get hrow
    obtain rfl : y = x := by
      have hy : cb[m]? = some y := hy
      rw [hx] at hy
      exact (Option.some.inj hy).symm
    refine ⟨(show 0 + 1 < 3 by decide), fun t ht => ?_⟩
    obtain rfl : t = ti y.addr := (Option.some.inj ht).symm
    clear ht hrow hy
    conv => whnf
    refine csplit (fun h2 => ?_) (fun h2 => ?_)
    · replace h2 : (y.addr == addr) = true := h2
      rw [h2] at hRn
      obtain rfl : R = (y.word, true) := hRn
      conv => whnf
      refine ⟨rfl, (show (0 : Int) ≤ (m : Int) by omega), (show (m : Int) < (cb.length : Int) by omega), ?_⟩
      conv => whnf
      refine ⟨rfl, (by rw [List.length_map]; exact hml), fun row hrow => ?_⟩
      obtain ⟨z, hz, rfl⟩ := buf_get hrow
      obtain rfl : z = y := by
        have hz : cb[m]? = some z := hz
        rw [hx] at hz
        exact (Option.some.inj hz).symm
      refine ⟨(show 0 + 2 < 3 by decide), fun t ht => ?_⟩
      obtain rfl : t = ti z.word := (Option.some.inj ht).symm
      clear ht hrow hz
      conv => whnf
      exact ⟨⟨.inl rfl, .inl rfl, trivial⟩, ⟨rfl, rfl, rfl, rfl, .inl rfl⟩, ⟨rfl, rfl, rfl, rfl, .inl rfl⟩, trivial⟩
    · replace h2 : (y.addr == addr) = false := h2
      rw [h2] at hRn
      have hRn : R = seeB (cb.take m) addr (mem.getD addr.toNat 0, false) := hRn
      conv => whnf
      exact ⟨((m : Int) - 1, m), [0, 1, 2, 3], [], Sub.mk' rfl ⟨.inl rfl, ⟨rfl, rfl⟩, ⟨rfl, rfl⟩, .inl (congrArg ti hm2), trivial⟩ ⟨⟨rfl, rfl, rfl, rfl, .inl rfl⟩, ⟨rfl, rfl, rfl, rfl, .inl rfl⟩, ⟨rfl, .inl rfl, .inl rfl, .inl rfl, .inl rfl, .inl rfl, ⟨rfl, rfl⟩, .inl rfl, .inl rfl, trivial⟩, ⟨rfl, .inl rfl, .inl rfl, .inl rfl, .inl rfl, .inl rfl, .inl rfl, .inl rfl, .inl rfl, .inl rfl, .inl rfl, .inl rfl, .inl rfl, .inl rfl, .inl rfl, .inl rfl, .inl rfl, .inl rfl, .inl rfl, ⟨rfl, rfl⟩, trivial⟩, trivial⟩ rfl rfl, ⟨rfl, by show m ≤ cb.length; omega, hRn⟩, Nat.lt_succ_self m⟩
  · have hi0 : ¬ i ≥ 0 := of_decide_eq_false h1
    obtain rfl : n = 0 := by omega
    obtain rfl : R = (mem.getD addr.toNat 0, false) := hRn
    conv => whnf
    refine ⟨fun _ => ?_, fun h => absurd rfl h⟩
    conv => whnf
    refine ⟨rfl, hm0, (show addr < ((mem.map irow).length : Int) by rw [List.length_map]; exact hm1), fun row hrow => ?_⟩
    obtain ⟨x, hx, rfl⟩ := mem_get hrow
    obtain rfl : x = mem.getD addr.toNat 0 := by rw [List.getD_eq_getElem?_getD, show mem[addr.toNat]? = some x from hx]; rfl
    clear hrow hx
    conv => whnf
    exact ⟨⟨.inl rfl, .inl rfl, trivial⟩, ⟨rfl, rfl, rfl, rfl, .inl rfl⟩, ⟨rfl, rfl, rfl, rfl, .inl rfl⟩, trivial⟩
end Go.Proofs.YtcpolpbeimhgfaaGreat.am
