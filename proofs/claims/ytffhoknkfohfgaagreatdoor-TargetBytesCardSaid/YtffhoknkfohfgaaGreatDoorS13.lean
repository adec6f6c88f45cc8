/- Contract of the reference's Decode. Contract of the reference's Same, of an object and itself. Contract of target.Same, of an object and itself. Contracts of target.Same and of the reference's Same, of any two objects. Contract of the reference's Same, of any two objects. -/
import Derived.Test.YtffhoknkfohfgaaGreatDoorS12
import Derived.Test.YtffhoknkfohfgaaGreatDoorS10
import Derived.Test.YtffhoknkfohfgaaGreatDoorS11
set_option linter.all false

namespace Go.Proofs.YtffhoknkfohfgaaGreatDoor.am
open Go Go.Proofs
set_option maxRecDepth 100000 in
set_option maxHeartbeats 4000000 in
theorem z_decode (b : List UInt8) : K 23 [.tr (bytT b)] [] (.ret (.tup [(decZ b).1.av, .tr (ti (decZ b).2)])) [] := by
  refine Ctr.new [10,25,26] hT hmix Tryz.func23 rfl (fun _ _ => by kernel_rfl) rfl fun hok => ?_
  have hll := (hok.slot 0 rfl).tr.lst.2.1
  rw [brows_len] at hll
  replace hll : b.length ≤ 9223372036854775807 := hll
  clear hok
  obtain ⟨R, hR⟩ : ∃ R, R = decZ b := ⟨_, rfl⟩
  rw [← hR]
  unfold decZ at hR
  have hbl := brows_len b
  have hgo : b.take 4 = magicL → R = decFZ (decHZ ⟨b, 4, false⟩) := fun h => by rw [hR, if_pos h]
  have hno : b.take 4 ≠ magicL → R = (emptyO, 162) := fun h => by rw [hR, if_neg h]
  clear hR
  conv => whnf
  refine csplit (fun h1 => ?_) (fun h1 => ?_)
  · replace h1 : decide (((brows b).length : Int) < 4) = true := h1
    rw [hbl] at h1
    rw [hno (fun h => by
      have h2 := congrArg List.length h
      have h1 := of_decide_eq_true h1
      rw [List.length_take] at h2
      simp only [magicL, List.length_cons, List.length_nil] at h2
      omega)]
    conv => whnf
    (repeat' (refine csplit (fun g => ?_) (fun g => absurd g (by simp)); conv => whnf))
    exact ⟨[], rfl, rfl, aut2⟩
  replace h1 : decide (((brows b).length : Int) < 4) = false := h1
  rw [hbl] at h1
  have hb4 : 4 ≤ b.length := by have := of_decide_eq_false h1; omega
  clear h1
  conv => whnf
  refine ⟨rfl, by decide, (show (0 : Int) < ((brows b).length : Int) by rw [hbl]; omega), fun row hrow => ?_⟩
  obtain ⟨x0, hx0, rfl⟩ := brow_get hrow
  replace hx0 : b[0]? = some x0 := hx0
  clear hrow
  conv => whnf
  refine csplit (fun h1 => ?_) (fun h1 => ?_)
  · replace h1 : ((x0.toNat : Int) != ((115 : Nat) : Int)) = true := h1
    rw [hno (fun h => by
      have h2 : (b.take 4)[0]? = some 115 := by rw [h]; rfl
      rw [List.getElem?_take_of_lt (by decide), hx0] at h2
      cases h2
      exact absurd h1 (by decide))]
    conv => whnf
    (repeat' (refine csplit (fun g => ?_) (fun g => absurd g (by simp)); conv => whnf))
    exact ⟨[], rfl, rfl, aut2⟩
  replace h1 := u8_of (n := 115) (by decide) h1
  conv => whnf
  refine ⟨rfl, by decide, (show (1 : Int) < ((brows b).length : Int) by rw [hbl]; omega), fun row hrow => ?_⟩
  obtain ⟨x1, hx1, rfl⟩ := brow_get hrow
  replace hx1 : b[1]? = some x1 := hx1
  clear hrow
  conv => whnf
  refine csplit (fun h2 => ?_) (fun h2 => ?_)
  · replace h2 : ((x1.toNat : Int) != ((116 : Nat) : Int)) = true := h2
    rw [hno (fun h => by
      have h3 : (b.take 4)[1]? = some 116 := by rw [h]; rfl
      rw [List.getElem?_take_of_lt (by decide), hx1] at h3
      cases h3
      exact absurd h2 (by decide))]
    conv => whnf
    (repeat' (refine csplit (fun g => ?_) (fun g => absurd g (by simp)); conv => whnf))
    exact ⟨[], rfl, rfl, aut2⟩
  replace h2 := u8_of (n := 116) (by decide) h2
  conv => whnf
  refine ⟨rfl, by decide, (show (2 : Int) < ((brows b).length : Int) by rw [hbl]; omega), fun row hrow => ?_⟩
  obtain ⟨x2, hx2, rfl⟩ := brow_get hrow
  replace hx2 : b[2]? = some x2 := hx2
  clear hrow
  conv => whnf
  refine csplit (fun h3 => ?_) (fun h3 => ?_)
  · replace h3 : ((x2.toNat : Int) != ((105 : Nat) : Int)) = true := h3
    rw [hno (fun h => by
      have h4 : (b.take 4)[2]? = some 105 := by rw [h]; rfl
      rw [List.getElem?_take_of_lt (by decide), hx2] at h4
      cases h4
      exact absurd h3 (by decide))]
    conv => whnf
    (repeat' (refine csplit (fun g => ?_) (fun g => absurd g (by simp)); conv => whnf))
    exact ⟨[], rfl, rfl, aut2⟩
  replace h3 := u8_of (n := 105) (by decide) h3
  conv => whnf
  refine ⟨rfl, by decide, (show (3 : Int) < ((brows b).length : Int) by rw [hbl]; omega), fun row hrow => ?_⟩
  obtain ⟨x3, hx3, rfl⟩ := brow_get hrow
  replace hx3 : b[3]? = some x3 := hx3
  clear hrow
  conv => whnf
  refine csplit (fun h4 => ?_) (fun h4 => ?_)
  · replace h4 : ((x3.toNat : Int) != ((108 : Nat) : Int)) = true := h4
    rw [hno (fun h => by
      have h5 : (b.take 4)[3]? = some 108 := by rw [h]; rfl
      rw [List.getElem?_take_of_lt (by decide), hx3] at h5
      cases h5
      exact absurd h4 (by decide))]
    conv => whnf
    exact ⟨[], rfl, rfl, aut2⟩
  replace h4 := u8_of (n := 108) (by decide) h4
  subst h1 h2 h3 h4
  replace hgo := hgo (take4 hx0 hx1 hx2 hx3)
  clear hno hx0 hx1 hx2 hx3
  have hr0 : Rz.ok ⟨b, 4, false⟩ := hb4
  clear hb4
  unfold decHZ at hgo
  have ha := z_small ⟨b, 4, false⟩ hr0 64
  obtain ⟨hao, hab⟩ := smallZ_ok 64 hr0
  generalize smallZ 64 ⟨b, 4, false⟩ = Sa at ha hgo hao hab
  obtain ⟨na, b1, a1, y1⟩ := Sa
  obtain rfl : b = b1 := hab.symm
  simp only at hgo ha hao
  have hb := z_small ⟨b, a1, y1⟩ hao 16
  obtain ⟨hbo, hbb⟩ := smallZ_ok 16 hao
  generalize smallZ 16 ⟨b, a1, y1⟩ = Sb at hb hgo hbo hbb
  obtain ⟨nb, b1, a2, y2⟩ := Sb
  obtain rfl : b = b1 := hbb.symm
  simp only at hgo hb hbo
  have hc := z_small ⟨b, a2, y2⟩ hbo 16
  obtain ⟨hco, hcb⟩ := smallZ_ok 16 hbo
  generalize smallZ 16 ⟨b, a2, y2⟩ = Sc at hc hgo hco hcb
  obtain ⟨nc, b1, a3, y3⟩ := Sc
  obtain rfl : b = b1 := hcb.symm
  simp only at hgo hc hco
  have hn := z_small ⟨b, a3, y3⟩ hco 4096
  obtain ⟨hno, hnb⟩ := smallZ_ok 4096 hco
  have hng := smallZ_rng (most := 4096) (by decide) (by decide) ⟨b, a3, y3⟩
  generalize smallZ 4096 ⟨b, a3, y3⟩ = Sn at hn hgo hno hnb hng
  obtain ⟨nn, b1, a4, y4⟩ := Sn
  obtain rfl : b = b1 := hnb.symm
  simp only at hgo hn hno hng
  clear hao hbo hco hab hbb hcb hnb hr0
  conv => whnf
  refine acall.gen [31] [] _ _ _ _ ha rfl rfl rfl rfl aut ⟨⟨rfl, .inl rfl, .inl rfl, .inl rfl, trivial⟩, trivial⟩ rfl rfl fun _ => ?_
  conv => whnf
  refine acall.au [_] [] (hb) ?_
  intro _
  conv => whnf
  refine acall.au [_] [] (hc) ?_
  intro _
  conv => whnf
  refine acall.au [_] [] (hn) ?_
  intro _
  conv => whnf
  have hM : ∀ M, loopZ wordZ nn.toNat ⟨b, a4, y4⟩ [] = M → R = decFZ ((⟨M.1, na, nb, nc, (loopZ (coreZ nn) (smallZ 8 M.2).1.toNat (smallZ 8 M.2).2 []).1⟩, (loopZ (coreZ nn) (smallZ 8 M.2).1.toNat (smallZ 8 M.2).2 []).2)) := fun M h => by rw [hgo, h]
  clear hgo
  have hN : ((nn.toNat : Nat) : Int) = nn := Int.toNat_of_nonneg hng.1
  refine CutL.by (fun x : Nat × Bool × List Int => ⟨[(0, .tr (bytT b)), (2, .ptr 0 0), (4, .ptr 1 0), (5, .ptr 2 0), (6, .tr (ti nn))], [(0, obB nilT 0 0 0 nilT), (1, Rz.blk ⟨b, x.1, x.2.1⟩), (2, obB (.sl 3 x.2.2.length) na nb nc nilT), (3, memBk x.2.2)], 10⟩)
    (fun x => R = decFZ ((⟨x.2.2, na, nb, nc, (loopZ (coreZ nn) (smallZ 8 ⟨b, x.1, x.2.1⟩).1.toNat (smallZ 8 ⟨b, x.1, x.2.1⟩).2 []).1⟩, (loopZ (coreZ nn) (smallZ 8 ⟨b, x.1, x.2.1⟩).1.toNat (smallZ 8 ⟨b, x.1, x.2.1⟩).2 []).2)) ∧ x.2.2.length ≤ 4096 ∧ x.1 ≤ b.length) ?_ ?_
  · conv => whnf
    refine LoopL.by (fun x : Nat × Nat × Bool × List Int => ⟨[(0, .tr (bytT b)), (2, .ptr 0 0), (4, .ptr 1 0), (5, .ptr 2 0), (6, .tr (ti nn)), (7, .tr (ti x.2.2.2.length))], [(0, obB nilT 0 0 0 nilT), (1, Rz.blk ⟨b, x.2.1, x.2.2.1⟩), (2, obB (.sl 3 x.2.2.2.length) na nb nc nilT), (3, memBk x.2.2.2)], 10⟩)
      (fun x => (∀ M, loopZ wordZ x.1 ⟨b, x.2.1, x.2.2.1⟩ x.2.2.2 = M → R = decFZ ((⟨M.1, na, nb, nc, (loopZ (coreZ nn) (smallZ 8 M.2).1.toNat (smallZ 8 M.2).2 []).1⟩, (loopZ (coreZ nn) (smallZ 8 M.2).1.toNat (smallZ 8 M.2).2 []).2))) ∧ x.2.2.2.length + x.1 = nn.toNat ∧ x.2.1 ≤ b.length) (fun x => x.1) (nn.toNat, a4, y4, []) [0, 31, 40] [3]
      (Sub.mk' rfl ⟨.inl rfl, ⟨rfl, rfl⟩, ⟨rfl, rfl⟩, ⟨rfl, rfl⟩, .inl rfl, .inl rfl, trivial⟩ ⟨⟨rfl, .inl rfl, .inl rfl, .inl rfl, .inl rfl, .inl rfl, trivial⟩, ⟨rfl, .inl rfl, .inl rfl, .inl rfl, trivial⟩, ⟨rfl, ⟨rfl, rfl, rfl, rfl⟩, .inl rfl, .inl rfl, .inl rfl, .inl rfl, trivial⟩, ⟨rfl, _, _, _, rfl, by decide⟩, trivial⟩ rfl rfl) ⟨hM, by simp only [List.length_nil]; omega, hno⟩ ?_
    clear hM ha hb hc hn hno
    rintro ⟨n, at_, bd, mem⟩ ⟨hM, hlen, hat⟩ -
    simp only at hM hlen hat
    have hnn : nn.toNat ≤ 4096 := by omega
    have hi1 : IntKind.i64.wrap ((mem.length : Int) + 1) = ((mem.length + 1 : Nat) : Int) := by rw [w64 (by omega) (by omega)]; omega
    cases bd
    · cases n with
      | zero =>
        replace hM := hM _ rfl
        conv => whnf
        refine csplit (fun h1 => ?_) (fun h1 => ?_)
        · exact absurd (of_decide_eq_true h1) (by simp only; omega)
        · conv => whnf
          refine ⟨fun _ => ?_, fun h => absurd rfl h⟩
          conv => whnf
          exact ⟨(at_, false, mem), [0, 1, 2, 3], [], Sub.au, hM, by simp only; omega, hat⟩
      | succ m =>
        have hw := z_word64 ⟨b, at_, false⟩ hat
        obtain ⟨hwo, hwb⟩ := wordZ_ok (r := ⟨b, at_, false⟩) hat
        have hM : ∀ M, loopZ wordZ m (wordZ ⟨b, at_, false⟩).2 (mem ++ [(wordZ ⟨b, at_, false⟩).1]) = M → R = decFZ ((⟨M.1, na, nb, nc, (loopZ (coreZ nn) (smallZ 8 M.2).1.toNat (smallZ 8 M.2).2 []).1⟩, (loopZ (coreZ nn) (smallZ 8 M.2).1.toNat (smallZ 8 M.2).2 []).2)) := hM
        generalize wordZ ⟨b, at_, false⟩ = W at hw hM hwo hwb
        obtain ⟨w, b1, a1, y1⟩ := W
        obtain rfl : b = b1 := hwb.symm
        simp only at hw hM hwo
        conv => whnf
        refine csplit (fun h1 => ?_) (fun h1 => ?_)
        · conv => whnf
          refine acall.au [1] [] (hw) ?_
          conv => whnf
          refine ⟨rfl, rfl, rfl, by simp, by simp; omega, fun q hq => by simp at hq; subst hq; simp, ?_⟩
          conv => whnf
          refine ⟨by kernel_rfl, fun _ => ?_⟩
          conv => whnf
          refine ⟨(m, a1, y1, mem ++ [w]), [0, 1, 2, _], [], Sub.mk' rfl ⟨.inl rfl, ⟨rfl, rfl⟩, ⟨rfl, rfl⟩, ⟨rfl, rfl⟩, .inl rfl, .inl (congrArg ti (by rw [hi1]; simp)), trivial⟩ ⟨⟨rfl, .inl rfl, .inl rfl, .inl rfl, .inl rfl, .inl rfl, trivial⟩, ⟨rfl, .inl rfl, .inl rfl, .inl rfl, trivial⟩, ⟨rfl, ⟨rfl, by simp⟩, .inl rfl, .inl rfl, .inl rfl, .inl rfl, trivial⟩, ⟨rfl, rfl, rfl, by rw [List.take_of_length_le (by simp), List.map_append]; rfl⟩, trivial⟩ rfl rfl, ⟨hM, by simp only [List.length_append, List.length_cons, List.length_nil]; omega, hwo⟩, by simp only; omega⟩
        · exact absurd (of_decide_eq_false h1) (by simp only; omega)
    · have hM : R = decFZ ((⟨mem, na, nb, nc, (loopZ (coreZ nn) (smallZ 8 ⟨b, at_, true⟩).1.toNat (smallZ 8 ⟨b, at_, true⟩).2 []).1⟩, (loopZ (coreZ nn) (smallZ 8 ⟨b, at_, true⟩).1.toNat (smallZ 8 ⟨b, at_, true⟩).2 []).2)) := hM (mem, ⟨b, at_, true⟩) (loopZ_bad wordZ n b at_ mem)
      conv => whnf
      refine csplit (fun h1 => ?_) (fun h1 => ?_)
      · conv => whnf
        refine ⟨fun _ => ?_, fun h => absurd rfl h⟩
        conv => whnf
        exact ⟨(at_, true, mem), [0, 1, 2, 3], [], Sub.au, hM, by simp only; omega, hat⟩
      · conv => whnf
        refine ⟨fun _ => ?_, fun h => absurd rfl h⟩
        conv => whnf
        exact ⟨(at_, true, mem), [0, 1, 2, 3], [], Sub.au, hM, by simp only; omega, hat⟩
  clear hM ha hb hc hn hno hN hng hbl
  rintro ⟨at_, bd, mem⟩ ⟨hM, hml, hat⟩ -
  simp only at hM hml hat
  have hs := z_small ⟨b, at_, bd⟩ hat 8
  obtain ⟨hso, hsb⟩ := smallZ_ok (r := ⟨b, at_, bd⟩) 8 hat
  have hsg := smallZ_rng (most := 8) (by decide) (by decide) ⟨b, at_, bd⟩
  generalize smallZ 8 ⟨b, at_, bd⟩ = S at hs hsg hM hso hsb
  obtain ⟨ns, b1, as_, ys⟩ := S
  obtain rfl : b = b1 := hsb.symm
  simp only at hs hsg hM hso
  have hC : ∀ C, loopZ (coreZ nn) ns.toNat ⟨b, as_, ys⟩ [] = C → R = decFZ (⟨mem, na, nb, nc, C.1⟩, C.2) := fun C h => by rw [hM, h]
  clear hM
  have hN : ((ns.toNat : Nat) : Int) = ns := Int.toNat_of_nonneg hsg.1
  conv => whnf
  refine acall.au [1] [] (hs) ?_
  intro _
  conv => whnf
  refine CutL.by (fun x : Nat × Bool × List Cor => ⟨[(0, .tr (bytT b)), (2, .ptr 0 0), (4, .ptr 1 0), (5, .ptr 2 0)], [(0, obB nilT 0 0 0 nilT), (1, Rz.blk ⟨b, x.1, x.2.1⟩), (2, obB (.sl 3 mem.length) na nb nc (.sl 4 x.2.2.length)), (3, memBk mem), (4, coresBk x.2.2)], 10⟩)
    (fun x => R = decFZ (⟨mem, na, nb, nc, x.2.2⟩, ⟨b, x.1, x.2.1⟩) ∧ x.2.2.length ≤ 8) ?_ ?_
  · conv => whnf
    refine LoopL.by (fun x : Nat × Nat × Bool × List Cor => ⟨[(0, .tr (bytT b)), (2, .ptr 0 0), (4, .ptr 1 0), (5, .ptr 2 0), (6, .tr (ti nn)), (8, .tr (ti ns)), (9, .tr (ti x.2.2.2.length))], [(0, obB nilT 0 0 0 nilT), (1, Rz.blk ⟨b, x.2.1, x.2.2.1⟩), (2, obB (.sl 3 mem.length) na nb nc (.sl 4 x.2.2.2.length)), (3, memBk mem), (4, coresBk x.2.2.2)], 10⟩)
      (fun x => (∀ C, loopZ (coreZ nn) x.1 ⟨b, x.2.1, x.2.2.1⟩ x.2.2.2 = C → R = decFZ (⟨mem, na, nb, nc, C.1⟩, C.2)) ∧ x.2.2.2.length + x.1 = ns.toNat ∧ x.2.1 ≤ b.length) (fun x => x.1) (ns.toNat, as_, ys, []) [0, 1, 2, 3] [4]
      (Sub.mk' rfl ⟨.inl rfl, ⟨rfl, rfl⟩, ⟨rfl, rfl⟩, ⟨rfl, rfl⟩, .inl rfl, .inl rfl, .inl rfl, trivial⟩ ⟨⟨rfl, .inl rfl, .inl rfl, .inl rfl, .inl rfl, .inl rfl, trivial⟩, ⟨rfl, .inl rfl, .inl rfl, .inl rfl, trivial⟩, ⟨rfl, ⟨rfl, rfl⟩, .inl rfl, .inl rfl, .inl rfl, ⟨rfl, rfl, rfl, rfl⟩, trivial⟩, ⟨rfl, rfl, rfl, rfl⟩, ⟨rfl, rfl, rfl, by decide⟩, trivial⟩ rfl rfl) ⟨hC, by simp only [List.length_nil]; omega, hso⟩ ?_
    clear hC hs hso
    rintro ⟨n, at_, bd, cs⟩ ⟨hC, hlen, hat⟩ -
    simp only at hC hlen hat
    have hnn : ns.toNat ≤ 8 := by omega
    have hi1 : IntKind.i64.wrap ((cs.length : Int) + 1) = ((cs.length + 1 : Nat) : Int) := by rw [w64 (by omega) (by omega)]; omega
    cases bd
    · cases n with
      | zero =>
        replace hC := hC _ rfl
        conv => whnf
        refine csplit (fun h1 => ?_) (fun h1 => ?_)
        · exact absurd (of_decide_eq_true h1) (by simp only; omega)
        · conv => whnf
          refine ⟨fun _ => ?_, fun h => absurd rfl h⟩
          conv => whnf
          exact ⟨(at_, false, cs), [0, 1, 2, 3, 4], [], Sub.au, hC, by simp only; omega⟩
      | succ m =>
        have hw := z_small ⟨b, at_, false⟩ hat 32
        obtain ⟨hwo, hwb⟩ := smallZ_ok (r := ⟨b, at_, false⟩) 32 hat
        have hwg := smallZ_rng (most := 32) (by decide) (by decide) ⟨b, at_, false⟩
        have hbrk : (nameZ ⟨b, at_, false⟩).2.bad = true → R = (emptyO, 162) := fun h => (hC _ rfl).trans (decFZ_bad (loop_brk (r := ⟨b, at_, false⟩) hat h))
        have hC : ∀ C, loopZ (coreZ nn) m (coreZ nn ⟨b, at_, false⟩).2 (cs ++ [(coreZ nn ⟨b, at_, false⟩).1]) = C → R = decFZ (⟨mem, na, nb, nc, C.1⟩, C.2) := hC
        unfold coreZ at hC
        unfold nameZ at hC hbrk
        generalize smallZ 32 ⟨b, at_, false⟩ = W at hw hwo hwb hwg hbrk hC
        obtain ⟨nw, b1, a1, y1⟩ := W
        obtain rfl : b = b1 := hwb.symm
        simp only at hw hwo hwg hC hbrk
        obtain ⟨N, rfl⟩ := Int.eq_ofNat_of_zero_le hwg.1
        have ha1 : a1 ≤ b.length := hwo
        have hw1 : IntKind.i64.wrap ((b.length : Int) - (a1 : Int)) = (b.length : Int) - (a1 : Int) := by rw [w64 (by omega) (by omega)]
        have hbl := brows_len b
        have hm1 : cs.length + 1 ≤ 8 := by omega
        conv => whnf
        refine csplit (fun h1 => ?_) (fun h1 => ?_)
        · conv => whnf
          refine acall.au [1] [] (hw) ?_
          intro _
          conv => whnf
          refine csplit (fun h2 => ?_) (fun h2 => ?_)
          · replace h2 : decide (((N : Nat) : Int) > IntKind.i64.wrap (((brows b).length : Int) - (a1 : Int))) = true := h2
            rw [hbl, hw1] at h2
            have hRe := hbrk (by rw [h2]; rfl)
            conv => whnf
            refine ⟨fun h => absurd h (by decide), fun _ => ?_⟩
            conv => whnf
            refine ⟨fun _ => ?_, fun h => absurd rfl h⟩
            conv => whnf
            exact ⟨(a1, true, cs), [0, 1, 2, 3, 4], [], Sub.au, hRe.trans (decFZ_bad rfl).symm, by simp only; omega⟩
          · replace h2 : decide (((N : Nat) : Int) > IntKind.i64.wrap (((brows b).length : Int) - (a1 : Int))) = false := h2
            rw [hbl, hw1] at h2
            rw [h2] at hC
            simp only [cond_false, Int.toNat_natCast] at hC
            have hN2 : a1 + N ≤ b.length := by have := of_decide_eq_false h2; omega
            have hN32 : N ≤ 32 := by have := hwg.2; omega
            clear h2 hbrk hw1 hwg hwo
            have hw2 : IntKind.i64.wrap ((a1 : Int) + (N : Int)) = ((a1 + N : Nat) : Int) := by rw [w64 (by omega) (by omega)]; omega
            have hq := z_small ⟨b, a1 + N, y1⟩ hN2 16384
            obtain ⟨hqo, hqb⟩ := smallZ_ok (r := ⟨b, a1 + N, y1⟩) 16384 hN2
            have hqg := smallZ_rng (most := 16384) (by decide) (by decide) ⟨b, a1 + N, y1⟩
            obtain ⟨nm, hnm⟩ : ∃ nm : ByteArray, nm = ⟨((b.drop a1).take N).toArray⟩ := ⟨_, rfl⟩
            rw [← hnm] at hC
            generalize smallZ 16384 ⟨b, a1 + N, y1⟩ = Q at hq hqo hqb hqg hC
            obtain ⟨nq, b1, a2, y2⟩ := Q
            obtain rfl : b = b1 := hqb.symm
            simp only at hq hqo hqg hC
            have hqN : ((nq.toNat : Nat) : Int) = nq := Int.toNat_of_nonneg hqg.1
            have hD : ∀ D, loopZ (insZ nq nn) nq.toNat ⟨b, a2, y2⟩ [] = D → ∀ C, loopZ (coreZ nn) m D.2 (cs ++ [⟨nm, D.1⟩]) = C → R = decFZ (⟨mem, na, nb, nc, C.1⟩, C.2) := fun D hD C h => hC C (by rw [hD]; exact h)
            clear hC
            have hdt : List.drop (a1 : Int).toNat (List.take (((a1 + N : Nat) : Int)).toNat (brows b)) = brows ((b.drop a1).take N) := by
              rw [Int.toNat_natCast, Int.toNat_natCast, ← brows_take, ← brows_drop]
              rw [List.drop_take, Nat.add_sub_cancel_left]
            conv => whnf
            refine ⟨rfl, (show (0 : Int) ≤ (a1 : Int) by omega), (show (a1 : Int) ≤ IntKind.i64.wrap ((a1 : Int) + (N : Int)) by rw [hw2]; omega), (show IntKind.i64.wrap ((a1 : Int) + (N : Int)) ≤ ((brows b).length : Int) by rw [hw2, hbl]; omega), ?_⟩
            conv => whnf
            refine ⟨(b.drop a1).take N, (by show List.drop (a1 : Int).toNat (List.take (IntKind.i64.wrap ((a1 : Int) + (N : Int))).toNat (brows b)) = _; rw [hw2]; exact hdt), by rw [List.length_take]; omega, ?_⟩
            conv => whnf
            refine ⟨by kernel_rfl, fun _ => ?_⟩
            conv => whnf
            refine acall.gen [1] [] _ _ _ _ hq rfl rfl rfl rfl aut ⟨⟨rfl, .inl rfl, .inl (congrArg ti hw2), .inl rfl, trivial⟩, trivial⟩ rfl rfl fun _ => ?_
            conv => whnf
            refine CutL.by (fun x : Nat × Bool × List Ins => ⟨[(0, .tr (bytT b)), (2, .ptr 0 0), (4, .ptr 1 0), (5, .ptr 2 0), (6, .tr (ti nn)), (8, .tr (ti ns)), (9, .tr (ti cs.length)), (10, .ptr 5 0)], [(0, obB nilT 0 0 0 nilT), (1, Rz.blk ⟨b, x.1, x.2.1⟩), (2, obB (.sl 3 mem.length) na nb nc (.sl 4 cs.length)), (3, memBk mem), (4, coresBk cs), (5, .cells 63 [.tr (ts nm), .sl 6 x.2.2.length]), (6, codeBk x.2.2)], 10⟩)
              (fun x => (∀ C, loopZ (coreZ nn) m ⟨b, x.1, x.2.1⟩ (cs ++ [⟨nm, x.2.2⟩]) = C → R = decFZ (⟨mem, na, nb, nc, C.1⟩, C.2)) ∧ x.2.2.length ≤ 16384 ∧ x.1 ≤ b.length) ?_ ?_
            · conv => whnf
              refine LoopL.by (fun x : Nat × Nat × Bool × List Ins => ⟨[(0, .tr (bytT b)), (2, .ptr 0 0), (4, .ptr 1 0), (5, .ptr 2 0), (6, .tr (ti nn)), (8, .tr (ti ns)), (9, .tr (ti cs.length)), (10, .ptr 5 0), (12, .tr (ti nq)), (13, .tr (ti x.2.2.2.length))], [(0, obB nilT 0 0 0 nilT), (1, Rz.blk ⟨b, x.2.1, x.2.2.1⟩), (2, obB (.sl 3 mem.length) na nb nc (.sl 4 cs.length)), (3, memBk mem), (4, coresBk cs), (5, .cells 63 [.tr (ts nm), .sl 6 x.2.2.2.length]), (6, codeBk x.2.2.2)], 10⟩)
                (fun x => (∀ D, loopZ (insZ nq nn) x.1 ⟨b, x.2.1, x.2.2.1⟩ x.2.2.2 = D → ∀ C, loopZ (coreZ nn) m D.2 (cs ++ [⟨nm, D.1⟩]) = C → R = decFZ (⟨mem, na, nb, nc, C.1⟩, C.2)) ∧ x.2.2.2.length + x.1 = nq.toNat ∧ x.2.1 ≤ b.length) (fun x => x.1) (nq.toNat, a2, y2, []) [0, 1, 2, 3, 4, 21] [6]
                (Sub.mk' rfl ⟨.inl rfl, ⟨rfl, rfl⟩, ⟨rfl, rfl⟩, ⟨rfl, rfl⟩, .inl rfl, .inl rfl, .inl rfl, ⟨rfl, rfl⟩, .inl rfl, .inl rfl, trivial⟩ ⟨⟨rfl, .inl rfl, .inl rfl, .inl rfl, .inl rfl, .inl rfl, trivial⟩, ⟨rfl, .inl rfl, .inl rfl, .inl rfl, trivial⟩, ⟨rfl, ⟨rfl, rfl⟩, .inl rfl, .inl rfl, .inl rfl, ⟨rfl, rfl⟩, trivial⟩, ⟨rfl, rfl, rfl, rfl⟩, ⟨rfl, rfl, rfl, rfl, .inl rfl⟩, ⟨rfl, .inl (congrArg ts hnm.symm), ⟨rfl, rfl, rfl, rfl⟩, trivial⟩, ⟨rfl, _, _, _, rfl, by decide⟩, trivial⟩ rfl rfl) ⟨hD, by simp only [List.length_nil]; omega, hqo⟩ ?_
              clear hD hq hw h1
              rintro ⟨n, at_, bd, cc⟩ ⟨hD, hcl, hat⟩ -
              simp only at hD hcl hat
              have hnq : nq.toNat ≤ 16384 := by omega
              have hj1 : IntKind.i64.wrap ((cc.length : Int) + 1) = ((cc.length + 1 : Nat) : Int) := by rw [w64 (by omega) (by omega)]; omega
              cases bd
              · cases n with
                | zero =>
                  replace hD := hD _ rfl
                  conv => whnf
                  refine csplit (fun h2 => ?_) (fun h2 => ?_)
                  · exact absurd (of_decide_eq_true h2) (by simp only; omega)
                  · conv => whnf
                    refine ⟨fun _ => ?_, fun h => absurd rfl h⟩
                    conv => whnf
                    exact ⟨(at_, false, cc), [0, 1, 2, 3, 4, 5, 6], [], Sub.au, hD, by simp only; omega, hat⟩
                | succ q =>
                  have hi := z_ins nq nn ⟨b, at_, false⟩ hat
                  obtain ⟨hio, hib⟩ := insZ_ok nq nn (r := ⟨b, at_, false⟩) hat
                  have hD : ∀ D, loopZ (insZ nq nn) q (insZ nq nn ⟨b, at_, false⟩).2 (cc ++ [(insZ nq nn ⟨b, at_, false⟩).1]) = D → ∀ C, loopZ (coreZ nn) m D.2 (cs ++ [⟨nm, D.1⟩]) = C → R = decFZ (⟨mem, na, nb, nc, C.1⟩, C.2) := hD
                  generalize insZ nq nn ⟨b, at_, false⟩ = I at hi hD hio hib
                  obtain ⟨⟨i1, i2, i3, i4, i5, i6, i7, i8, i9⟩, b1, a5, y5⟩ := I
                  obtain rfl : b = b1 := hib.symm
                  simp only at hi hD hio
                  conv => whnf
                  refine csplit (fun h2 => ?_) (fun h2 => ?_)
                  · conv => whnf
                    refine acall.au [1] [] (hi) ?_
                    conv => whnf
                    refine ⟨rfl, rfl, rfl, by simp, by simp; omega, fun p hp => by simp at hp; subst hp; simp, ?_⟩
                    conv => whnf
                    refine ⟨by kernel_rfl, fun _ => ?_⟩
                    conv => whnf
                    refine ⟨(q, a5, y5, cc ++ [⟨i1, i2, i3, i4, i5, i6, i7, i8, i9⟩]), [0, 1, 2, 3, 4, 5, _], [], Sub.mk' rfl ⟨.inl rfl, ⟨rfl, rfl⟩, ⟨rfl, rfl⟩, ⟨rfl, rfl⟩, .inl rfl, .inl rfl, .inl rfl, ⟨rfl, rfl⟩, .inl rfl, .inl (congrArg ti (by rw [hj1]; simp)), trivial⟩ ⟨⟨rfl, .inl rfl, .inl rfl, .inl rfl, .inl rfl, .inl rfl, trivial⟩, ⟨rfl, .inl rfl, .inl rfl, .inl rfl, trivial⟩, ⟨rfl, ⟨rfl, rfl⟩, .inl rfl, .inl rfl, .inl rfl, ⟨rfl, rfl⟩, trivial⟩, ⟨rfl, rfl, rfl, rfl⟩, ⟨rfl, rfl, rfl, rfl, .inl rfl⟩, ⟨rfl, .inl rfl, ⟨rfl, by simp⟩, trivial⟩, ⟨rfl, rfl, rfl, ?_⟩, trivial⟩ rfl rfl, ⟨hD, by simp only [List.length_append, List.length_cons, List.length_nil]; omega, hio⟩, by simp only; omega⟩
                    rw [List.take_of_length_le (by simp), List.map_append]; rfl
                  · exact absurd (of_decide_eq_false h2) (by simp only; omega)
              · have hD := hD (cc, ⟨b, at_, true⟩) (loopZ_bad (insZ nq nn) n b at_ cc)
                simp only at hD
                conv => whnf
                refine csplit (fun h2 => ?_) (fun h2 => ?_)
                · conv => whnf
                  refine ⟨fun _ => ?_, fun h => absurd rfl h⟩
                  conv => whnf
                  exact ⟨(at_, true, cc), [0, 1, 2, 3, 4, 5, 6], [], Sub.au, hD, by simp only; omega, hat⟩
                · conv => whnf
                  refine ⟨fun _ => ?_, fun h => absurd rfl h⟩
                  conv => whnf
                  exact ⟨(at_, true, cc), [0, 1, 2, 3, 4, 5, 6], [], Sub.au, hD, by simp only; omega, hat⟩
            · clear hD hq hw h1 hqo
              rintro ⟨at_, bd, cc⟩ ⟨hC, hcl, hat⟩ -
              simp only at hC hcl hat
              conv => whnf
              refine ⟨by rw [List.length_map], rfl, Nat.le_refl _, (show (cs.length + 1) * 40 ≤ 140737488351232 by omega), trivial, trivial, trivial, ?_⟩
              conv => whnf
              refine ⟨(m, at_, bd, cs ++ [⟨nm, cc⟩]), [0, 1, 2, 3, 14], [], Sub.pk [14] ?_, ⟨hC, by simp only [List.length_append, List.length_cons, List.length_nil]; omega, hat⟩, by simp only; omega⟩
              conv => whnf
              refine ⟨rfl, rfl, (show cc.length ≤ (cc.map Ins.cells).length by simp), code_leaf cc, ?_⟩
              refine Sub0.mk' rfl ⟨.inl rfl, ⟨rfl, rfl⟩, ⟨rfl, rfl⟩, ⟨rfl, rfl⟩, .inl rfl, .inl rfl, .inl (congrArg ti (by rw [hi1]; simp)), trivial⟩ ⟨⟨rfl, .inl rfl, .inl rfl, .inl rfl, .inl rfl, .inl rfl, trivial⟩, ⟨rfl, .inl rfl, .inl rfl, .inl rfl, trivial⟩, ⟨rfl, ⟨rfl, rfl⟩, .inl rfl, .inl rfl, .inl rfl, ⟨rfl, by simp⟩, trivial⟩, ⟨rfl, rfl, rfl, rfl⟩, ⟨rfl, rfl, rfl, rfl, .inl ?_⟩, trivial⟩ rfl rfl
              refine (setC_snoc (i := cs.length) (by simp)).trans ?_
              show _ ++ [[ts nm, Tr.lst 9 64 (List.take cc.length (cc.map Ins.cells))]] = _
              rw [List.take_of_length_le (l := cc.map Ins.cells) (by simp), List.map_append]
              rfl
        · exact absurd (of_decide_eq_false h1) (by simp only; omega)
    · have hC : R = decFZ (⟨mem, na, nb, nc, cs⟩, ⟨b, at_, true⟩) := hC (cs, ⟨b, at_, true⟩) (loopZ_bad (coreZ nn) n b at_ cs)
      conv => whnf
      refine csplit (fun h1 => ?_) (fun h1 => ?_)
      · conv => whnf
        refine ⟨fun _ => ?_, fun h => absurd rfl h⟩
        conv => whnf
        exact ⟨(at_, true, cs), [0, 1, 2, 3, 4], [], Sub.au, hC, by simp only; omega⟩
      · conv => whnf
        refine ⟨fun _ => ?_, fun h => absurd rfl h⟩
        conv => whnf
        exact ⟨(at_, true, cs), [0, 1, 2, 3, 4], [], Sub.au, hC, by simp only; omega⟩
  clear hC hs hso hsg hN
  rintro ⟨at_, bd, cs⟩ ⟨hC, hcl⟩ -
  simp only at hC hcl
  have hk := z_check ⟨mem, na, nb, nc, cs⟩
  unfold decFZ at hC
  generalize checkO ⟨mem, na, nb, nc, cs⟩ = Q at hk hC
  conv => whnf
  refine acall.gen [] [3, 4] _ _ _ _ hk rfl rfl rfl rfl ⟨⟨⟨rfl, by simp, by rw [List.take_of_length_le (by simp)]⟩, .inl rfl, .inl rfl, .inl rfl, ⟨rfl, by simp, by rw [List.take_of_length_le (by simp)]⟩, trivial⟩, trivial⟩ trivial rfl rfl fun _ => ?_
  conv => whnf
  simp only at hC
  have hbl := brows_len b
  cases bd
  · simp only [Bool.false_or] at hC
    conv => whnf
    refine csplit (fun h1 => ?_) (fun h1 => ?_)
    · replace h1 : ((at_ : Int) != ((brows b).length : Int)) = true := h1
      rw [hbl] at h1
      simp only [h1, Bool.true_or, cond_true] at hC
      rw [hC]
      conv => whnf
      exact ⟨[], rfl, rfl, aut2⟩
    · replace h1 : ((at_ : Int) != ((brows b).length : Int)) = false := h1
      rw [hbl] at h1
      simp only [h1, Bool.false_or] at hC
      conv => whnf
      refine csplit (fun h2 => ?_) (fun h2 => ?_)
      · replace h2 : (Q.1 != 0) = true := h2
        simp only [h2, cond_true] at hC
        rw [hC]
        conv => whnf
        exact ⟨[], rfl, rfl, aut2⟩
      · replace h2 : (Q.1 != 0) = false := h2
        simp only [h2, cond_false] at hC
        rw [hC]
        conv => whnf
        exact ⟨[], rfl, rfl, ⟨⟨⟨rfl, by simp, by rw [List.take_of_length_le (by simp)]⟩, .inl rfl, .inl rfl, .inl rfl, ⟨rfl, by simp, by rw [List.take_of_length_le (by simp)]⟩, trivial⟩, .inl rfl, trivial⟩, trivial⟩
  · simp only [Bool.true_or, cond_true] at hC
    rw [hC]
    conv => whnf
    exact ⟨[], rfl, rfl, aut2⟩
end Go.Proofs.YtffhoknkfohfgaaGreatDoor.am

namespace Go.Proofs.YtffhoknkfohfgaaGreatDoor.am
open Go Go.Proofs
set_option maxRecDepth 100000 in
set_option maxHeartbeats 2000000 in
theorem k_same2 (o : Ob) : K 12 [o.av, o.av] [] (.ret (.tr (tb true))) [] := by
  refine Ctr.of hT hmix Tryz.func12 rfl (fun _ _ => by kernel_rfl) rfl fun hok => ?_
  obtain ⟨_, hcl0, hcs⟩ := ((hok.slot 0 rfl).agg _ (.tail _ (.tail _ (.tail _ (.tail _ (.head _)))))).tr.lst
  obtain ⟨_, hml0, _⟩ := ((hok.slot 0 rfl).agg _ (.head _)).tr.lst
  rw [List.length_map] at hcl0 hml0
  clear hok
  obtain ⟨memory, shared, locks, buffer, cores⟩ := o
  have hcl : cores.length ≤ 9223372036854775807 := hcl0
  have hml : memory.length ≤ 9223372036854775807 := hml0
  clear hcl0 hml0
  conv => whnf
  (repeat' (refine csplit (fun h => absurd h (by simp)) (fun _ => ?_); conv => whnf))
  refine LoopL.by (fun i : Nat => ⟨[(2, .ptr 0 0), (3, .ptr 1 0), (5, .tr (ti i))], [(0, obB (.tr (intsT memory)) shared locks buffer (.tr (coresT cores))), (1, obB (.tr (intsT memory)) shared locks buffer (.tr (coresT cores)))], 10⟩) (fun i => i ≤ memory.length) (fun i => memory.length - i) 0 [0, 1] []
    (Sub.mk' rfl ⟨⟨rfl, rfl⟩, ⟨rfl, rfl⟩, .inl rfl, trivial⟩ aut rfl rfl) (Nat.zero_le _) ?_
  rintro i hi -
  conv => whnf
  refine csplit (fun hlt => ?_) (fun hge => ?_)
  · have hlt : i < memory.length := by have := of_decide_eq_true hlt; rw [List.length_map] at this; omega
    obtain ⟨d, hd⟩ : ∃ d, memory[i]? = some d := ⟨memory[i], by simp [hlt]⟩
    have hrow : (memory.map irow)[i]? = some (irow d) := by rw [List.getElem?_map, hd]; rfl
    conv => whnf
    refine ⟨rfl, (show (0 : Int) ≤ i by omega), (show (i : Int) < (List.map irow memory).length by rw [List.length_map]; omega), fun row hr => ?_⟩
    cases hrow.symm.trans hr
    conv => whnf
    refine ⟨rfl, (show (0 : Int) ≤ i by omega), (show (i : Int) < (List.map irow memory).length by rw [List.length_map]; omega), fun row hr => ?_⟩
    cases hrow.symm.trans hr
    conv => whnf
    refine ⟨by kernel_rfl, fun _ => ?_⟩
    conv => whnf
    refine csplit (fun h => absurd h (by simp)) (fun _ => ?_)
    conv => whnf
    exact ⟨i + 1, [0, 1], [], Sub.mk' rfl ⟨⟨rfl, rfl⟩, ⟨rfl, rfl⟩, .inl (ti_succ hlt hml), trivial⟩ aut rfl rfl, hlt, by omega⟩
  conv => whnf
  refine ⟨fun _ => ?_, fun h => absurd rfl h⟩
  conv => whnf
  refine LoopL.by (fun i : Nat => ⟨[(2, .ptr 0 0), (3, .ptr 1 0), (6, .tr (ti i))], [(0, obB (.tr (intsT memory)) shared locks buffer (.tr (coresT cores))), (1, obB (.tr (intsT memory)) shared locks buffer (.tr (coresT cores)))], 10⟩) (fun i => i ≤ cores.length) (fun i => cores.length - i) 0 [0, 1] []
    (Sub.mk' rfl ⟨⟨rfl, rfl⟩, ⟨rfl, rfl⟩, .inl rfl, trivial⟩ aut rfl rfl) (Nat.zero_le _) ?_
  rintro i hi -
  conv => whnf
  refine csplit (fun hlt => ?_) (fun hge => ?_)
  · have hlt : i < cores.length := by have := of_decide_eq_true hlt; rw [List.length_map] at this; omega
    obtain ⟨c, hd⟩ : ∃ c, cores[i]? = some c := ⟨cores[i], by simp [hlt]⟩
    have hrow : (cores.map Cor.cells)[i]? = some c.cells := by rw [List.getElem?_map, hd]; rfl
    have hc4 := ((hcs _ (List.mem_of_getElem? hrow)).2 (codeT c.code) (.tail _ (.head _))).lst.2.1
    rw [List.length_map] at hc4
    obtain ⟨cn, cc⟩ := c
    have hcc : cc.length ≤ 9223372036854775807 := hc4
    conv => whnf
    refine ⟨rfl, (show (0 : Int) ≤ i by omega), (show (i : Int) < (List.map Cor.cells cores).length by rw [List.length_map]; omega), fun row hr => ?_⟩
    cases hrow.symm.trans hr
    conv => whnf
    refine ⟨rfl, (show (0 : Int) ≤ i by omega), (show (i : Int) < (List.map Cor.cells cores).length by rw [List.length_map]; omega), fun row hr => ?_⟩
    cases hrow.symm.trans hr
    conv => whnf
    iterate 4 (refine csplit (fun h => absurd h (by simp)) (fun _ => ?_); conv => whnf)
    refine ⟨rfl, (show (0 : Int) ≤ i by omega), (show (i : Int) < (List.map Cor.cells cores).length by rw [List.length_map]; omega), fun row hr => ?_⟩
    cases hrow.symm.trans hr
    conv => whnf
    iterate 7 (refine csplit (fun h => absurd h (by simp)) (fun _ => ?_); conv => whnf)
    refine ⟨rfl, (show (0 : Int) ≤ i by omega), (show (i : Int) < (List.map Cor.cells cores).length by rw [List.length_map]; omega), fun row hr => ?_⟩
    cases hrow.symm.trans hr
    conv => whnf
    iterate 5 (refine csplit (fun h => absurd h (by simp)) (fun _ => ?_); conv => whnf)
    refine ⟨by kernel_rfl, fun _ => ?_⟩
    conv => whnf
    (repeat' (refine csplit (fun h => absurd h (by simp)) (fun _ => ?_); conv => whnf))
    refine LoopL.by (fun k : Nat => ⟨[(2, .ptr 0 0), (3, .ptr 1 0), (6, .tr (ti i)), (7, .tr (ti k))], [(0, obB (.tr (intsT memory)) shared locks buffer (.tr (coresT cores))), (1, obB (.tr (intsT memory)) shared locks buffer (.tr (coresT cores)))], 10⟩) (fun k => k ≤ cc.length) (fun k => cc.length - k) 0 [0, 1] []
      (Sub.mk' rfl ⟨⟨rfl, rfl⟩, ⟨rfl, rfl⟩, .inl rfl, .inl rfl, trivial⟩ aut rfl rfl) (Nat.zero_le _) ?_
    rintro k hk -
    conv => whnf
    refine ⟨rfl, (show (0 : Int) ≤ i by omega), (show (i : Int) < (List.map Cor.cells cores).length by rw [List.length_map]; omega), fun row hr => ?_⟩; cases hrow.symm.trans hr; conv => whnf
    refine csplit (fun hlt2 => ?_) (fun hge2 => ?_)
    · have hlt2 : k < cc.length := by have := of_decide_eq_true hlt2; rw [List.length_map] at this; replace this : (k : Int) < cc.length := this; omega
      obtain ⟨x, hx⟩ : ∃ x, cc[k]? = some x := ⟨cc[k], by simp [hlt2]⟩
      have hrowx : (cc.map Ins.cells)[k]? = some x.cells := by rw [List.getElem?_map, hx]; rfl
      conv => whnf
      refine ⟨rfl, (show (0 : Int) ≤ i by omega), (show (i : Int) < (List.map Cor.cells cores).length by rw [List.length_map]; omega), fun row hr => ?_⟩; cases hrow.symm.trans hr; conv => whnf
      refine ⟨rfl, (show (0 : Int) ≤ k by omega), (show (k : Int) < (List.map Ins.cells cc).length by rw [List.length_map]; omega), fun row hr => ?_⟩; cases hrowx.symm.trans hr; conv => whnf
      refine ⟨rfl, (show (0 : Int) ≤ i by omega), (show (i : Int) < (List.map Cor.cells cores).length by rw [List.length_map]; omega), fun row hr => ?_⟩; cases hrow.symm.trans hr; conv => whnf
      refine ⟨rfl, (show (0 : Int) ≤ k by omega), (show (k : Int) < (List.map Ins.cells cc).length by rw [List.length_map]; omega), fun row hr => ?_⟩; cases hrowx.symm.trans hr; conv => whnf
      refine ⟨by kernel_rfl, fun _ => ?_⟩
      conv => whnf
      refine csplit (fun h => absurd h (by simp)) (fun _ => ?_)
      conv => whnf
      exact ⟨k + 1, [0, 1], [], Sub.mk' rfl ⟨⟨rfl, rfl⟩, ⟨rfl, rfl⟩, .inl rfl, .inl (ti_succ hlt2 hcc), trivial⟩ aut rfl rfl, hlt2, by omega⟩
    · conv => whnf
      refine ⟨fun _ => ?_, fun h => absurd rfl h⟩
      conv => whnf
      exact ⟨i + 1, [0, 1], [], Sub.mk' rfl ⟨⟨rfl, rfl⟩, ⟨rfl, rfl⟩, .inl (ti_succ hlt hcl), trivial⟩ aut rfl rfl, hlt, by omega⟩
  · conv => whnf
    refine ⟨fun _ => ?_, fun h => absurd rfl h⟩
    conv => whnf
    exact ⟨.inl rfl, trivial⟩
end Go.Proofs.YtffhoknkfohfgaaGreatDoor.am

namespace Go.Proofs.YtffhoknkfohfgaaGreatDoor.am
open Go Go.Proofs
set_option maxRecDepth 100000 in
theorem k_eqI (m : List Int) : K 48 [.tr (intsT m), .tr (intsT m)] [] (.ret (.tr (tb true))) [] := by
  refine Ctr.of hT hmix Tryz.func48 rfl (fun _ _ => by kernel_rfl) rfl fun hok => ?_
  obtain ⟨_, hml0, _⟩ := (hok.slot 0 rfl).tr.lst
  rw [List.length_map] at hml0
  have hml : m.length ≤ 9223372036854775807 := hml0
  clear hok hml0
  conv => whnf
  refine csplit (fun h => absurd h (by simp)) (fun _ => ?_)
  conv => whnf
  refine LoopL.by (fun i : Nat => ⟨[(0, .tr (intsT m)), (1, .tr (intsT m)), (12, .tr (ti ((m.map irow).length : Int))), (13, .tr (ti i))], [], 10⟩) (fun i => i ≤ m.length) (fun i => m.length - i) 0 [] []
    (Sub.mk' rfl ⟨.inl rfl, .inl rfl, .inl rfl, .inl rfl, trivial⟩ trivial rfl rfl) (Nat.zero_le _) ?_
  rintro i hi -
  conv => whnf
  refine csplit (fun hlt => ?_) (fun hge => ?_)
  · have hlt : i < m.length := by have := of_decide_eq_true hlt; rw [List.length_map] at this; omega
    obtain ⟨d, hd⟩ : ∃ d, m[i]? = some d := ⟨m[i], by simp [hlt]⟩
    have hrow : (m.map irow)[i]? = some (irow d) := by rw [List.getElem?_map, hd]; rfl
    conv => whnf
    refine ⟨rfl, (show (0 : Int) ≤ i by omega), (show (i : Int) < (List.map irow m).length by rw [List.length_map]; omega), fun row hr => ?_⟩
    cases hrow.symm.trans hr
    conv => whnf
    refine ⟨rfl, (show (0 : Int) ≤ i by omega), (show (i : Int) < (List.map irow m).length by rw [List.length_map]; omega), fun row hr => ?_⟩
    cases hrow.symm.trans hr
    conv => whnf
    refine ⟨by kernel_rfl, fun _ => ?_⟩
    conv => whnf
    refine csplit (fun h => absurd h (by simp)) (fun _ => ?_)
    conv => whnf
    exact ⟨i + 1, [], [], Sub.mk' rfl ⟨.inl rfl, .inl rfl, .inl rfl, .inl (ti_succ hlt hml), trivial⟩ trivial rfl rfl, hlt, by omega⟩
  conv => whnf
  refine ⟨fun _ => ?_, fun h => absurd rfl h⟩
  conv => whnf
  exact ⟨.inl rfl, trivial⟩
set_option maxRecDepth 100000 in
theorem k_eqN (m : List Ins) : K 51 [.tr (codeT m), .tr (codeT m)] [] (.ret (.tr (tb true))) [] := by
  refine Ctr.of hT hmix Tryz.func51 rfl (fun _ _ => by kernel_rfl) rfl fun hok => ?_
  obtain ⟨_, hml0, _⟩ := (hok.slot 0 rfl).tr.lst
  rw [List.length_map] at hml0
  have hml : m.length ≤ 9223372036854775807 := hml0
  clear hok hml0
  conv => whnf
  refine csplit (fun h => absurd h (by simp)) (fun _ => ?_)
  conv => whnf
  refine LoopL.by (fun i : Nat => ⟨[(0, .tr (codeT m)), (1, .tr (codeT m)), (12, .tr (ti ((m.map Ins.cells).length : Int))), (13, .tr (ti i))], [], 10⟩) (fun i => i ≤ m.length) (fun i => m.length - i) 0 [] []
    (Sub.mk' rfl ⟨.inl rfl, .inl rfl, .inl rfl, .inl rfl, trivial⟩ trivial rfl rfl) (Nat.zero_le _) ?_
  rintro i hi -
  conv => whnf
  refine csplit (fun hlt => ?_) (fun hge => ?_)
  · have hlt : i < m.length := by have := of_decide_eq_true hlt; rw [List.length_map] at this; replace this : (i : Int) < m.length := this; omega
    obtain ⟨d, hd⟩ : ∃ d, m[i]? = some d := ⟨m[i], by simp [hlt]⟩
    have hrow : (m.map Ins.cells)[i]? = some d.cells := by rw [List.getElem?_map, hd]; rfl
    conv => whnf
    refine ⟨rfl, (show (0 : Int) ≤ i by omega), (show (i : Int) < (List.map Ins.cells m).length by rw [List.length_map]; omega), fun row hr => ?_⟩
    cases hrow.symm.trans hr
    conv => whnf
    refine ⟨rfl, (show (0 : Int) ≤ i by omega), (show (i : Int) < (List.map Ins.cells m).length by rw [List.length_map]; omega), fun row hr => ?_⟩
    cases hrow.symm.trans hr
    conv => whnf
    refine ⟨by kernel_rfl, fun _ => ?_⟩
    conv => whnf
    refine csplit (fun h => absurd h (by simp)) (fun _ => ?_)
    conv => whnf
    exact ⟨i + 1, [], [], Sub.mk' rfl ⟨.inl rfl, .inl rfl, .inl rfl, .inl (ti_succ hlt hml), trivial⟩ trivial rfl rfl, hlt, by omega⟩
  conv => whnf
  refine ⟨fun _ => ?_, fun h => absurd rfl h⟩
  conv => whnf
  exact ⟨.inl rfl, trivial⟩
theorem k_same1 (n : ByteArray) (c : List Ins) : K 50 [.agg [.tr (ts n), .tr (codeT c)], .agg [.tr (ts n), .tr (codeT c)]] [] (.ret (.tr (tb true))) [] := by
  refine Ctr.of hT hmix Tryz.func50 rfl (fun _ _ => by kernel_rfl) rfl fun hok => ?_
  clear hok
  conv => whnf
  (repeat' (first | (refine csplit (fun h => ?_) (fun h => absurd h (by simp)); conv => whnf) | (refine acall.pure _ (k_eqN c) rfl rfl fun _ => ?_; conv => whnf)))
  exact ⟨.inl rfl, trivial⟩
set_option maxRecDepth 100000 in
theorem k_eqC (m : List Cor) : K 49 [.tr (coresT m), .tr (coresT m), .fn 50 []] [] (.ret (.tr (tb true))) [] := by
  refine Ctr.of hT hmix Tryz.func49 rfl (fun _ _ => by kernel_rfl) rfl fun hok => ?_
  obtain ⟨_, hml0, _⟩ := (hok.slot 0 rfl).tr.lst
  rw [List.length_map] at hml0
  have hml : m.length ≤ 9223372036854775807 := hml0
  clear hok hml0
  conv => whnf
  refine csplit (fun h => absurd h (by simp)) (fun _ => ?_)
  conv => whnf
  refine LoopL.by (fun i : Nat => ⟨[(0, .tr (coresT m)), (1, .tr (coresT m)), (2, .fn 50 []), (15, .tr (coresT m)), (16, .tr (ti ((m.map Cor.cells).length : Int))), (17, .tr (ti i))], [], 10⟩) (fun i => i ≤ m.length) (fun i => m.length - i) 0 [] []
    (Sub.mk' rfl aut trivial rfl rfl) (Nat.zero_le _) ?_
  rintro i hi -
  conv => whnf
  refine csplit (fun hlt => ?_) (fun hge => ?_)
  · have hlt : i < m.length := by have := of_decide_eq_true hlt; rw [List.length_map] at this; replace this : (i : Int) < m.length := this; omega
    obtain ⟨d, hd⟩ : ∃ d, m[i]? = some d := ⟨m[i], by simp [hlt]⟩
    have hrow : (m.map Cor.cells)[i]? = some d.cells := by rw [List.getElem?_map, hd]; rfl
    obtain ⟨cn, cc⟩ := d
    conv => whnf
    refine ⟨rfl, (show (0 : Int) ≤ i by omega), (show (i : Int) < (List.map Cor.cells m).length by rw [List.length_map]; omega), fun row hr => ?_⟩
    cases hrow.symm.trans hr
    conv => whnf
    refine ⟨rfl, (show (0 : Int) ≤ i by omega), (show (i : Int) < (List.map Cor.cells m).length by rw [List.length_map]; omega), fun row hr => ?_⟩
    cases hrow.symm.trans hr
    conv => whnf
    refine acall.pure _ (k_same1 cn cc) rfl rfl fun _ => ?_
    conv => whnf
    exact ⟨i + 1, [], [], Sub.mk' rfl aut trivial rfl rfl, hlt, by omega⟩
  conv => whnf
  refine ⟨fun _ => ?_, fun h => absurd rfl h⟩
  conv => whnf
  exact ⟨.inl rfl, trivial⟩
theorem k_tsame (o : Ob) : K 21 [o.av, o.av] [] (.ret (.tr (tb true))) [] := by
  refine Ctr.of hT hmix Tryz.func21 rfl (fun _ _ => by kernel_rfl) rfl fun hok => ?_
  clear hok
  obtain ⟨memory, shared, locks, buffer, cores⟩ := o
  conv => whnf
  refine acall.pure _ (k_eqI memory) rfl rfl fun _ => ?_
  conv => whnf
  iterate 3 (refine csplit (fun h => ?_) (fun h => absurd h (by simp)); conv => whnf)
  refine acall.au [] [] (k_eqC cores) ?_
  intro _
  conv => whnf
  exact ⟨.inl rfl, trivial⟩
end Go.Proofs.YtffhoknkfohfgaaGreatDoor.am

namespace Go.Proofs.YtffhoknkfohfgaaGreatDoor.am
open Go Go.Proofs
theorem take_all {α : Type} {a b : List α} {i : Nat} (hl : a.length = b.length) (h : a.length ≤ i) (ht : a.take i = b.take i) : a = b := by
  rwa [List.take_of_length_le h, List.take_of_length_le (by omega)] at ht
theorem b_false {B : Bool} {P : Prop} (hB : B = true ↔ P) (h : ¬ P) : B = false := by
  cases B
  · rfl
  · exact absurd (hB.1 rfl) h
theorem len_eq {α β : Type} {a : List α} {b : List α} {f : α → β} (h : ((((a.map f).length : Nat) : Int) != (((b.map f).length : Nat) : Int)) = false) : a.length = b.length := by
  rw [List.length_map, List.length_map] at h
  have : (a.length : Int) = b.length := by simpa using h
  omega
theorem ins_un {x y : Ins} (h : (!(x.kind == y.kind && (x.op == y.op && (x.d == y.d && (x.a == y.a && (x.b == y.b && (x.addr == y.addr && (x.to_ == y.to_ && (x.word == y.word && (x.from_ == y.from_ && true)))))))))) = false) : x = y := by
  obtain ⟨x1, x2, x3, x4, x5, x6, x7, x8, x9⟩ := x
  obtain ⟨y1, y2, y3, y4, y5, y6, y7, y8, y9⟩ := y
  simp only [Bool.not_eq_false', Bool.and_eq_true, beq_iff_eq, and_true] at h
  obtain ⟨rfl, rfl, rfl, rfl, rfl, rfl, rfl, rfl, rfl⟩ := h
  rfl

set_option maxRecDepth 100000 in
theorem k_eqIG (a b : List Int) (B : Bool) (hB : B = true ↔ a = b) : K 48 [.tr (intsT a), .tr (intsT b)] [] (.ret (.tr (tb B))) [] := by
  refine Ctr.of hT hmix Tryz.func48 rfl (fun _ _ => by kernel_rfl) rfl fun hok => ?_
  obtain ⟨_, hml0, _⟩ := (hok.slot 0 rfl).tr.lst
  rw [List.length_map] at hml0
  have hml : a.length ≤ 9223372036854775807 := hml0
  clear hok hml0
  conv => whnf
  refine csplit (fun h => ?_) (fun h => ?_)
  · obtain rfl := b_false hB (fun e => by subst e; simp at h)
    conv => whnf
    exact ⟨.inl rfl, trivial⟩
  have hl : a.length = b.length := len_eq h
  conv => whnf
  refine LoopL.by (fun i : Nat => ⟨[(0, .tr (intsT a)), (1, .tr (intsT b)), (12, .tr (ti ((a.map irow).length : Int))), (13, .tr (ti i))], [], 10⟩) (fun i => i ≤ a.length ∧ a.take i = b.take i) (fun i => a.length - i) 0 [] []
    (Sub.mk' rfl ⟨.inl rfl, .inl rfl, .inl rfl, .inl rfl, trivial⟩ trivial rfl rfl) ⟨Nat.zero_le _, rfl⟩ ?_
  rintro i ⟨hi, ht⟩ -
  conv => whnf
  refine csplit (fun hlt => ?_) (fun hge => ?_)
  · have hlt : i < a.length := by have := of_decide_eq_true hlt; rw [List.length_map] at this; replace this : (i : Int) < a.length := this; omega
    obtain ⟨d, hd⟩ : ∃ d, a[i]? = some d := ⟨a[i], by simp [hlt]⟩
    obtain ⟨e, he⟩ : ∃ e, b[i]? = some e := ⟨b[i]'(by omega), by simp⟩
    have hrow : (a.map irow)[i]? = some (irow d) := by rw [List.getElem?_map, hd]; rfl
    have hrow2 : (b.map irow)[i]? = some (irow e) := by rw [List.getElem?_map, he]; rfl
    conv => whnf
    refine ⟨rfl, (show (0 : Int) ≤ i by omega), (show (i : Int) < (List.map irow a).length by rw [List.length_map]; omega), fun row hr => ?_⟩
    cases hrow.symm.trans hr
    conv => whnf
    refine ⟨rfl, (show (0 : Int) ≤ i by omega), (show (i : Int) < (List.map irow b).length by rw [List.length_map]; omega), fun row hr => ?_⟩
    cases hrow2.symm.trans hr
    conv => whnf
    refine ⟨by kernel_rfl, fun _ => ?_⟩
    conv => whnf
    refine csplit (fun hde => ?_) (fun hde => ?_)
    · obtain rfl := b_false hB (fun E => by
        subst E
        have E : d = e := Option.some.inj (hd.symm.trans he)
        subst E
        simp at hde)
      conv => whnf
      exact ⟨.inl rfl, trivial⟩
    · have hde : d = e := by simpa using hde
      conv => whnf
      exact ⟨i + 1, [], [], Sub.mk' rfl ⟨.inl rfl, .inl rfl, .inl rfl, .inl (ti_succ hlt hml), trivial⟩ trivial rfl rfl, ⟨hlt, by rw [take_snoc hd, take_snoc he, ht, hde]⟩, by omega⟩
  have hge : a.length ≤ i := by have := of_decide_eq_false hge; rw [List.length_map] at this; replace this : ¬ (i : Int) < a.length := this; omega
  obtain rfl := hB.2 (take_all hl hge ht)
  conv => whnf
  refine ⟨fun _ => ?_, fun h => absurd rfl h⟩
  conv => whnf
  exact ⟨.inl rfl, trivial⟩
set_option maxRecDepth 100000 in
theorem k_eqNG (a b : List Ins) (B : Bool) (hB : B = true ↔ a = b) : K 51 [.tr (codeT a), .tr (codeT b)] [] (.ret (.tr (tb B))) [] := by
  refine Ctr.of hT hmix Tryz.func51 rfl (fun _ _ => by kernel_rfl) rfl fun hok => ?_
  obtain ⟨_, hml0, _⟩ := (hok.slot 0 rfl).tr.lst
  rw [List.length_map] at hml0
  have hml : a.length ≤ 9223372036854775807 := hml0
  clear hok hml0
  conv => whnf
  refine csplit (fun h => ?_) (fun h => ?_)
  · obtain rfl := b_false hB (fun e => by subst e; simp at h)
    conv => whnf
    exact ⟨.inl rfl, trivial⟩
  have hl : a.length = b.length := len_eq h
  conv => whnf
  refine LoopL.by (fun i : Nat => ⟨[(0, .tr (codeT a)), (1, .tr (codeT b)), (12, .tr (ti ((a.map Ins.cells).length : Int))), (13, .tr (ti i))], [], 10⟩) (fun i => i ≤ a.length ∧ a.take i = b.take i) (fun i => a.length - i) 0 [] []
    (Sub.mk' rfl ⟨.inl rfl, .inl rfl, .inl rfl, .inl rfl, trivial⟩ trivial rfl rfl) ⟨Nat.zero_le _, rfl⟩ ?_
  rintro i ⟨hi, ht⟩ -
  conv => whnf
  refine csplit (fun hlt => ?_) (fun hge => ?_)
  · have hlt : i < a.length := by have := of_decide_eq_true hlt; rw [List.length_map] at this; replace this : (i : Int) < a.length := this; omega
    obtain ⟨d, hd⟩ : ∃ d, a[i]? = some d := ⟨a[i], by simp [hlt]⟩
    obtain ⟨e, he⟩ : ∃ e, b[i]? = some e := ⟨b[i]'(by omega), by simp⟩
    have hrow : (a.map Ins.cells)[i]? = some (Ins.cells d) := by rw [List.getElem?_map, hd]; rfl
    have hrow2 : (b.map Ins.cells)[i]? = some (Ins.cells e) := by rw [List.getElem?_map, he]; rfl
    conv => whnf
    refine ⟨rfl, (show (0 : Int) ≤ i by omega), (show (i : Int) < (List.map Ins.cells a).length by rw [List.length_map]; omega), fun row hr => ?_⟩
    cases hrow.symm.trans hr
    conv => whnf
    refine ⟨rfl, (show (0 : Int) ≤ i by omega), (show (i : Int) < (List.map Ins.cells b).length by rw [List.length_map]; omega), fun row hr => ?_⟩
    cases hrow2.symm.trans hr
    conv => whnf
    refine ⟨by kernel_rfl, fun _ => ?_⟩
    conv => whnf
    refine csplit (fun hde => ?_) (fun hde => ?_)
    · obtain rfl := b_false hB (fun E => by
        subst E
        have E : d = e := Option.some.inj (hd.symm.trans he)
        subst E
        simp at hde)
      conv => whnf
      exact ⟨.inl rfl, trivial⟩
    · have hde : d = e := ins_un hde
      conv => whnf
      exact ⟨i + 1, [], [], Sub.mk' rfl ⟨.inl rfl, .inl rfl, .inl rfl, .inl (ti_succ hlt hml), trivial⟩ trivial rfl rfl, ⟨hlt, by rw [take_snoc hd, take_snoc he, ht, hde]⟩, by omega⟩
  have hge : a.length ≤ i := by have := of_decide_eq_false hge; rw [List.length_map] at this; replace this : ¬ (i : Int) < a.length := this; omega
  obtain rfl := hB.2 (take_all hl hge ht)
  conv => whnf
  refine ⟨fun _ => ?_, fun h => absurd rfl h⟩
  conv => whnf
  exact ⟨.inl rfl, trivial⟩
theorem k_same1G (x y : Cor) (B : Bool) (hB : B = true ↔ x = y) : K 50 [.agg [.tr (ts x.name), .tr (codeT x.code)], .agg [.tr (ts y.name), .tr (codeT y.code)]] [] (.ret (.tr (tb B))) [] := by
  refine Ctr.of hT hmix Tryz.func50 rfl (fun _ _ => by kernel_rfl) rfl fun hok => ?_
  clear hok
  obtain ⟨xn, xc⟩ := x
  obtain ⟨yn, yc⟩ := y
  have hq := k_eqNG xc yc
  conv => whnf
  refine csplit (fun h => ?_) (fun h => ?_)
  · have hn : xn = yn := seq_ba.1 h
    subst hn
    refine acall.pure _ (hq B (hB.trans ⟨fun e => by cases e; rfl, fun e => by rw [e]⟩)) rfl rfl fun _ => ?_
    conv => whnf
    exact ⟨.inl rfl, trivial⟩
  · obtain rfl := b_false hB (fun e => by
      cases e
      simp at h)
    exact ⟨.inl rfl, trivial⟩
set_option maxRecDepth 100000 in
theorem k_eqCG (a b : List Cor) (B : Bool) (hB : B = true ↔ a = b) : K 49 [.tr (coresT a), .tr (coresT b), .fn 50 []] [] (.ret (.tr (tb B))) [] := by
  refine Ctr.of hT hmix Tryz.func49 rfl (fun _ _ => by kernel_rfl) rfl fun hok => ?_
  obtain ⟨_, hml0, _⟩ := (hok.slot 0 rfl).tr.lst
  rw [List.length_map] at hml0
  have hml : a.length ≤ 9223372036854775807 := hml0
  clear hok hml0
  conv => whnf
  refine csplit (fun h => ?_) (fun h => ?_)
  · obtain rfl := b_false hB (fun e => by subst e; simp at h)
    conv => whnf
    exact ⟨.inl rfl, trivial⟩
  have hl : a.length = b.length := len_eq h
  conv => whnf
  refine LoopL.by (fun i : Nat => ⟨[(0, .tr (coresT a)), (1, .tr (coresT b)), (2, .fn 50 []), (15, .tr (coresT a)), (16, .tr (ti ((a.map Cor.cells).length : Int))), (17, .tr (ti i))], [], 10⟩) (fun i => i ≤ a.length ∧ a.take i = b.take i) (fun i => a.length - i) 0 [] []
    (Sub.mk' rfl aut trivial rfl rfl) ⟨Nat.zero_le _, rfl⟩ ?_
  rintro i ⟨hi, ht⟩ -
  conv => whnf
  refine csplit (fun hlt => ?_) (fun hge => ?_)
  · have hlt : i < a.length := by have := of_decide_eq_true hlt; rw [List.length_map] at this; replace this : (i : Int) < a.length := this; omega
    obtain ⟨d, hd⟩ : ∃ d, a[i]? = some d := ⟨a[i], by simp [hlt]⟩
    obtain ⟨e, he⟩ : ∃ e, b[i]? = some e := ⟨b[i]'(by omega), by simp⟩
    have hrow : (a.map Cor.cells)[i]? = some d.cells := by rw [List.getElem?_map, hd]; rfl
    have hrow2 : (b.map Cor.cells)[i]? = some e.cells := by rw [List.getElem?_map, he]; rfl
    have hq := k_same1G d e
    obtain ⟨dn, dc⟩ := d
    obtain ⟨en, ec⟩ := e
    conv => whnf
    refine ⟨rfl, (show (0 : Int) ≤ i by omega), (show (i : Int) < (List.map Cor.cells a).length by rw [List.length_map]; omega), fun row hr => ?_⟩
    cases hrow.symm.trans hr
    conv => whnf
    refine ⟨rfl, (show (0 : Int) ≤ i by omega), (show (i : Int) < (List.map Cor.cells b).length by rw [List.length_map]; omega), fun row hr => ?_⟩
    cases hrow2.symm.trans hr
    conv => whnf
    by_cases hde : (⟨dn, dc⟩ : Cor) = ⟨en, ec⟩
    · refine acall.pure _ (hq true (by simp [hde])) rfl rfl fun _ => ?_
      conv => whnf
      exact ⟨i + 1, [], [], Sub.mk' rfl aut trivial rfl rfl, ⟨hlt, by rw [take_snoc hd, take_snoc he, ht, hde]⟩, by omega⟩
    · obtain rfl := b_false hB (fun E => by
        subst E
        exact hde (Option.some.inj (hd.symm.trans he)))
      refine acall.pure _ (hq false (by simp [hde])) rfl rfl fun _ => ?_
      conv => whnf
      exact ⟨.inl rfl, trivial⟩
  have hge : a.length ≤ i := by have := of_decide_eq_false hge; rw [List.length_map] at this; replace this : ¬ (i : Int) < a.length := this; omega
  obtain rfl := hB.2 (take_all hl hge ht)
  conv => whnf
  refine ⟨fun _ => ?_, fun h => absurd rfl h⟩
  conv => whnf
  exact ⟨.inl rfl, trivial⟩
theorem k_tsameG (o p : Ob) (B : Bool) (hB : B = true ↔ o = p) : K 21 [o.av, p.av] [] (.ret (.tr (tb B))) [] := by
  refine Ctr.of hT hmix Tryz.func21 rfl (fun _ _ => by kernel_rfl) rfl fun hok => ?_
  clear hok
  obtain ⟨m, sh, lo, bu, co⟩ := o
  obtain ⟨m', sh', lo', bu', co'⟩ := p
  by_cases hm : m = m'
  · have hq := k_eqIG m m' true (by simp [hm])
    conv => whnf
    refine acall.pure _ (hq) rfl rfl fun _ => ?_
    conv => whnf
    refine csplit (fun h1 => ?_) (fun h1 => ?_)
    · obtain rfl : sh = sh' := by simpa using h1
      conv => whnf
      refine csplit (fun h2 => ?_) (fun h2 => ?_)
      · obtain rfl : lo = lo' := by simpa using h2
        conv => whnf
        refine csplit (fun h3 => ?_) (fun h3 => ?_)
        · obtain rfl : bu = bu' := by simpa using h3
          have hc := k_eqCG co co' B (hB.trans ⟨fun e => by cases e; rfl, fun e => by rw [hm, e]⟩)
          conv => whnf
          refine acall.au [] [] (hc) ?_
          intro _
          conv => whnf
          exact ⟨.inl rfl, trivial⟩
        · obtain rfl := b_false hB (fun e => by cases e; simp at h3)
          conv => whnf
          exact ⟨.inl rfl, trivial⟩
      · obtain rfl := b_false hB (fun e => by cases e; simp at h2)
        conv => whnf
        exact ⟨.inl rfl, trivial⟩
    · obtain rfl := b_false hB (fun e => by cases e; simp at h1)
      conv => whnf
      exact ⟨.inl rfl, trivial⟩
  · have hq := k_eqIG m m' false (by simp [hm])
    obtain rfl := b_false hB (fun e => by cases e; exact hm rfl)
    conv => whnf
    refine acall.pure _ (hq) rfl rfl fun _ => ?_
    conv => whnf
    exact ⟨.inl rfl, trivial⟩
end Go.Proofs.YtffhoknkfohfgaaGreatDoor.am

namespace Go.Proofs.YtffhoknkfohfgaaGreatDoor.am
open Go Go.Proofs
set_option maxRecDepth 100000 in
set_option maxHeartbeats 2000000 in
theorem z_sameG (o p : Ob) (B : Bool) (hB : B = true ↔ o = p) : K 12 [o.av, p.av] [] (.ret (.tr (tb B))) [] := by
  refine Ctr.of hT hmix Tryz.func12 rfl (fun _ _ => by kernel_rfl) rfl fun hok => ?_
  obtain ⟨_, hcl0, hcs⟩ := ((hok.slot 0 rfl).agg _ (.tail _ (.tail _ (.tail _ (.tail _ (.head _)))))).tr.lst
  obtain ⟨_, hml0, _⟩ := ((hok.slot 0 rfl).agg _ (.head _)).tr.lst
  rw [List.length_map] at hcl0 hml0
  clear hok
  obtain ⟨memory, shared, locks, buffer, cores⟩ := o
  obtain ⟨memory', shared', locks', buffer', cores'⟩ := p
  have hcl : cores.length ≤ 9223372036854775807 := hcl0
  have hml : memory.length ≤ 9223372036854775807 := hml0
  clear hcl0 hml0
  conv => whnf
  refine csplit (fun g => ?_) (fun g => ?_)
  · obtain rfl := b_false hB (fun e => by cases e; simp at g)
    conv => whnf
    exact ⟨.inl rfl, trivial⟩
  obtain rfl : shared = shared' := by simpa using g
  clear g
  conv => whnf
  refine csplit (fun g => ?_) (fun g => ?_)
  · obtain rfl := b_false hB (fun e => by cases e; simp at g)
    conv => whnf
    exact ⟨.inl rfl, trivial⟩
  obtain rfl : locks = locks' := by simpa using g
  clear g
  conv => whnf
  refine csplit (fun g => ?_) (fun g => ?_)
  · obtain rfl := b_false hB (fun e => by cases e; simp at g)
    conv => whnf
    exact ⟨.inl rfl, trivial⟩
  obtain rfl : buffer = buffer' := by simpa using g
  clear g
  conv => whnf
  refine csplit (fun g => ?_) (fun g => ?_)
  · obtain rfl := b_false hB (fun e => by cases e; simp at g)
    conv => whnf
    exact ⟨.inl rfl, trivial⟩
  have hlm : memory.length = memory'.length := len_eq g
  clear g
  conv => whnf
  refine csplit (fun g => ?_) (fun g => ?_)
  · obtain rfl := b_false hB (fun e => by cases e; simp at g)
    conv => whnf
    exact ⟨.inl rfl, trivial⟩
  have hlc : cores.length = cores'.length := len_eq g
  clear g
  conv => whnf
  refine LoopL.by (fun i : Nat => ⟨[(2, .ptr 0 0), (3, .ptr 1 0), (5, .tr (ti i))], [(0, obB (.tr (intsT memory)) shared locks buffer (.tr (coresT cores))), (1, obB (.tr (intsT memory')) shared locks buffer (.tr (coresT cores')))], 10⟩) (fun i => i ≤ memory.length ∧ memory.take i = memory'.take i) (fun i => memory.length - i) 0 [0, 1] []
    (Sub.mk' rfl ⟨⟨rfl, rfl⟩, ⟨rfl, rfl⟩, .inl rfl, trivial⟩ aut rfl rfl) ⟨Nat.zero_le _, rfl⟩ ?_
  rintro i ⟨hi, ht⟩ -
  conv => whnf
  refine csplit (fun hlt => ?_) (fun hge => ?_)
  · have hlt : i < memory.length := by have := of_decide_eq_true hlt; rw [List.length_map] at this; replace this : (i : Int) < memory.length := this; omega
    obtain ⟨d, hd⟩ : ∃ d, memory[i]? = some d := ⟨memory[i], by simp [hlt]⟩
    obtain ⟨e, he⟩ : ∃ e, memory'[i]? = some e := ⟨memory'[i]'(by omega), by simp⟩
    have hrow : (memory.map irow)[i]? = some (irow d) := by rw [List.getElem?_map, hd]; rfl
    have hrow2 : (memory'.map irow)[i]? = some (irow e) := by rw [List.getElem?_map, he]; rfl
    conv => whnf
    refine ⟨rfl, (show (0 : Int) ≤ i by omega), (show (i : Int) < (List.map irow memory).length by rw [List.length_map]; omega), fun row hr => ?_⟩
    cases hrow.symm.trans hr
    conv => whnf
    refine ⟨rfl, (show (0 : Int) ≤ i by omega), (show (i : Int) < (List.map irow memory').length by rw [List.length_map]; omega), fun row hr => ?_⟩
    cases hrow2.symm.trans hr
    conv => whnf
    refine ⟨by kernel_rfl, fun _ => ?_⟩
    conv => whnf
    refine csplit (fun hde => ?_) (fun hde => ?_)
    · obtain rfl := b_false hB (fun E => by
        cases E
        have E : d = e := Option.some.inj (hd.symm.trans he)
        subst E
        simp at hde)
      conv => whnf
      exact ⟨.inl rfl, trivial⟩
    · have hde : d = e := by simpa using hde
      conv => whnf
      exact ⟨i + 1, [0, 1], [], Sub.mk' rfl ⟨⟨rfl, rfl⟩, ⟨rfl, rfl⟩, .inl (ti_succ hlt hml), trivial⟩ aut rfl rfl, ⟨hlt, by rw [take_snoc hd, take_snoc he, ht, hde]⟩, by omega⟩
  have hge : memory.length ≤ i := by have := of_decide_eq_false hge; rw [List.length_map] at this; replace this : ¬ (i : Int) < memory.length := this; omega
  have hmm := take_all hlm hge ht
  clear hge ht hi hlm
  subst hmm
  conv => whnf
  refine ⟨fun _ => ?_, fun h => absurd rfl h⟩
  conv => whnf
  refine LoopL.by (fun i : Nat => ⟨[(2, .ptr 0 0), (3, .ptr 1 0), (6, .tr (ti i))], [(0, obB (.tr (intsT memory)) shared locks buffer (.tr (coresT cores))), (1, obB (.tr (intsT memory)) shared locks buffer (.tr (coresT cores')))], 10⟩) (fun i => i ≤ cores.length ∧ cores.take i = cores'.take i) (fun i => cores.length - i) 0 [0, 1] []
    (Sub.mk' rfl ⟨⟨rfl, rfl⟩, ⟨rfl, rfl⟩, .inl rfl, trivial⟩ aut rfl rfl) ⟨Nat.zero_le _, rfl⟩ ?_
  rintro i ⟨hi, ht⟩ -
  conv => whnf
  refine csplit (fun hlt => ?_) (fun hge => ?_)
  · have hlt : i < cores.length := by have := of_decide_eq_true hlt; rw [List.length_map] at this; replace this : (i : Int) < cores.length := this; omega
    obtain ⟨c, hd⟩ : ∃ c, cores[i]? = some c := ⟨cores[i], by simp [hlt]⟩
    obtain ⟨c', he⟩ : ∃ c', cores'[i]? = some c' := ⟨cores'[i]'(by omega), by simp⟩
    have hrow : (cores.map Cor.cells)[i]? = some c.cells := by rw [List.getElem?_map, hd]; rfl
    have hrow2 : (cores'.map Cor.cells)[i]? = some c'.cells := by rw [List.getElem?_map, he]; rfl
    have hc4 := ((hcs _ (List.mem_of_getElem? hrow)).2 (codeT c.code) (.tail _ (.head _))).lst.2.1
    rw [List.length_map] at hc4
    have hne : c ≠ c' → B = false := fun h => b_false hB (fun E => by
      cases E
      exact h (Option.some.inj (hd.symm.trans he)))
    obtain ⟨cn, cc⟩ := c
    obtain ⟨cn', cc'⟩ := c'
    have hcc : cc.length ≤ 9223372036854775807 := hc4
    have idx : ∀ (l : List Cor), l.length = cores.length → (i : Int) < ((l.map Cor.cells).length : Int) := fun l hl => by rw [List.length_map]; omega
    conv => whnf
    refine ⟨rfl, (show (0 : Int) ≤ i by omega), idx _ rfl, fun row hr => ?_⟩
    cases hrow.symm.trans hr
    conv => whnf
    refine ⟨rfl, (show (0 : Int) ≤ i by omega), idx _ hlc.symm, fun row hr => ?_⟩
    cases hrow2.symm.trans hr
    conv => whnf
    by_cases hn : cn = cn'
    · subst hn
      iterate 4 (refine csplit (fun h => absurd h (by simp)) (fun _ => ?_); conv => whnf)
      refine ⟨rfl, (show (0 : Int) ≤ i by omega), idx _ rfl, fun row hr => ?_⟩
      cases hrow.symm.trans hr
      conv => whnf
      iterate 7 (refine csplit (fun h => absurd h (by simp)) (fun _ => ?_); conv => whnf)
      refine ⟨rfl, (show (0 : Int) ≤ i by omega), idx _ hlc.symm, fun row hr => ?_⟩
      cases hrow2.symm.trans hr
      conv => whnf
      iterate 5 (refine csplit (fun h => absurd h (by simp)) (fun _ => ?_); conv => whnf)
      refine ⟨by kernel_rfl, fun _ => ?_⟩
      conv => whnf
      refine csplit (fun g => ?_) (fun g => ?_)
      · obtain rfl := hne (fun e => by cases e; simp at g)
        conv => whnf
        exact ⟨.inl rfl, trivial⟩
      have hcl2 : cc.length = cc'.length := len_eq g
      clear g
      conv => whnf
      refine LoopL.by (fun k : Nat => ⟨[(2, .ptr 0 0), (3, .ptr 1 0), (6, .tr (ti i)), (7, .tr (ti k))], [(0, obB (.tr (intsT memory)) shared locks buffer (.tr (coresT cores))), (1, obB (.tr (intsT memory)) shared locks buffer (.tr (coresT cores')))], 10⟩) (fun k => k ≤ cc.length ∧ cc.take k = cc'.take k) (fun k => cc.length - k) 0 [0, 1] []
        (Sub.mk' rfl ⟨⟨rfl, rfl⟩, ⟨rfl, rfl⟩, .inl rfl, .inl rfl, trivial⟩ aut rfl rfl) ⟨Nat.zero_le _, rfl⟩ ?_
      rintro k ⟨hk, hkt⟩ -
      conv => whnf
      refine ⟨rfl, (show (0 : Int) ≤ i by omega), idx _ rfl, fun row hr => ?_⟩; cases hrow.symm.trans hr; conv => whnf
      refine csplit (fun hlt2 => ?_) (fun hge2 => ?_)
      · have hlt2 : k < cc.length := by have := of_decide_eq_true hlt2; rw [List.length_map] at this; replace this : (k : Int) < cc.length := this; omega
        obtain ⟨x, hx⟩ : ∃ x, cc[k]? = some x := ⟨cc[k], by simp [hlt2]⟩
        obtain ⟨y, hy⟩ : ∃ y, cc'[k]? = some y := ⟨cc'[k]'(by omega), by simp⟩
        have hrowx : (cc.map Ins.cells)[k]? = some x.cells := by rw [List.getElem?_map, hx]; rfl
        have hrowy : (cc'.map Ins.cells)[k]? = some y.cells := by rw [List.getElem?_map, hy]; rfl
        conv => whnf
        refine ⟨rfl, (show (0 : Int) ≤ i by omega), idx _ rfl, fun row hr => ?_⟩; cases hrow.symm.trans hr; conv => whnf
        refine ⟨rfl, (show (0 : Int) ≤ k by omega), (show (k : Int) < (List.map Ins.cells cc).length by rw [List.length_map]; omega), fun row hr => ?_⟩; cases hrowx.symm.trans hr; conv => whnf
        refine ⟨rfl, (show (0 : Int) ≤ i by omega), idx _ hlc.symm, fun row hr => ?_⟩; cases hrow2.symm.trans hr; conv => whnf
        refine ⟨rfl, (show (0 : Int) ≤ k by omega), (show (k : Int) < (List.map Ins.cells cc').length by rw [List.length_map]; omega), fun row hr => ?_⟩; cases hrowy.symm.trans hr; conv => whnf
        refine ⟨by kernel_rfl, fun _ => ?_⟩
        conv => whnf
        refine csplit (fun hde => ?_) (fun hde => ?_)
        · obtain rfl := hne (fun e => by
            cases e
            have E : x = y := Option.some.inj (hx.symm.trans hy)
            subst E
            simp at hde)
          conv => whnf
          exact ⟨.inl rfl, trivial⟩
        · have hde : x = y := ins_un hde
          conv => whnf
          exact ⟨k + 1, [0, 1], [], Sub.mk' rfl ⟨⟨rfl, rfl⟩, ⟨rfl, rfl⟩, .inl rfl, .inl (ti_succ hlt2 hcc), trivial⟩ aut rfl rfl, ⟨hlt2, by rw [take_snoc hx, take_snoc hy, hkt, hde]⟩, by omega⟩
      · have hge2 : cc.length ≤ k := by have := of_decide_eq_false hge2; rw [List.length_map] at this; replace this : ¬ (k : Int) < cc.length := this; omega
        have hcc2 := take_all hcl2 hge2 hkt
        conv => whnf
        refine ⟨fun _ => ?_, fun h => absurd rfl h⟩
        conv => whnf
        exact ⟨i + 1, [0, 1], [], Sub.mk' rfl ⟨⟨rfl, rfl⟩, ⟨rfl, rfl⟩, .inl (ti_succ hlt hcl), trivial⟩ aut rfl rfl, ⟨hlt, by rw [take_snoc hd, take_snoc he, ht, hcc2]⟩, by omega⟩
    · obtain rfl := hne (fun e => by cases e; exact hn rfl)
      have hnn : (!(cn.toList == cn'.toList)) = true := by
        cases h : (cn.toList == cn'.toList)
        · rfl
        · exact absurd (seq_ba.1 h) hn
      (repeat' (first | (refine csplit (fun _ => ?_) (fun h => absurd (hnn.symm.trans h) (by decide)); conv => whnf) | (refine ⟨by kernel_rfl, fun _ => ?_⟩; conv => whnf)))
      exact ⟨.inl rfl, trivial⟩
  · have hge : cores.length ≤ i := by have := of_decide_eq_false hge; rw [List.length_map] at this; replace this : ¬ (i : Int) < cores.length := this; omega
    have hcc := take_all hlc hge ht
    obtain rfl := hB.2 (by rw [hcc])
    conv => whnf
    refine ⟨fun _ => ?_, fun h => absurd rfl h⟩
    conv => whnf
    exact ⟨.inl rfl, trivial⟩
end Go.Proofs.YtffhoknkfohfgaaGreatDoor.am
