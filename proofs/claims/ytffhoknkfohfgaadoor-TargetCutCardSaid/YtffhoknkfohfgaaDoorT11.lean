/- Contract of target.Decode. Plain: what the reader of bytes reads. Plain: Decode by what it reads. Plain: texts by their lines and words. Plain: an instruction's line, there and back. Plain: what is read from a text is written so. Plain: an instruction's words are read as that instruction. Plain: an object's text is read as that object. Plain: an object's bytes are read as that object, and are few. -/
import Derived.Test.YtffhoknkfohfgaaDoorT9
import Derived.Test.YtffhoknkfohfgaaDoorT10
import Derived.Test.YtffhoknkfohfgaaDoorT4
set_option linter.all false

namespace Go.Proofs.YtffhoknkfohfgaaDoor.am
open Go Go.Proofs
def memR : Nat → Rd → List Int → List Int × Rd
  | 0, r, acc => (acc, r)
  | n + 1, r, acc => bif r.bad then (acc, r) else memR n (wordR r).2 (acc ++ [(wordR r).1])
def codeR : Nat → Rd → List Ins → List Ins × Rd
  | 0, r, acc => (acc, r)
  | n + 1, r, acc => bif r.bad then (acc, r) else codeR n (insR r).2 (acc ++ [(insR r).1])
def coreR (r : Rd) : Cor × Rd :=
  (⟨(nameR r).1, (codeR (smallR 16384 (nameR r).2).1.toNat (smallR 16384 (nameR r).2).2 []).1⟩, (codeR (smallR 16384 (nameR r).2).1.toNat (smallR 16384 (nameR r).2).2 []).2)
def coresR : Nat → Rd → List Cor → List Cor × Rd
  | 0, r, acc => (acc, r)
  | n + 1, r, acc => bif r.bad then (acc, r) else coresR n (coreR r).2 (acc ++ [(coreR r).1])
def decH (r : Rd) : Ob × Rd :=
  let a := smallR 64 r
  let b := smallR 16 a.2
  let c := smallR 16 b.2
  let n := smallR 4096 c.2
  let m := memR n.1.toNat n.2 []
  let k := smallR 8 m.2
  let cs := coresR k.1.toNat k.2 []
  (⟨m.1, a.1, b.1, c.1, cs.1⟩, cs.2)
def decF (p : Ob × Rd) : Ob × Int := bif (checkO p.1).1 != 0 || p.2.bad || decide ((p.2.l.length : Int) > 0) then (emptyO, 162) else (p.1, 0)
def decS (l : List UInt8) : Ob × Int := bif decide ((l.length : Int) < 4) || !seq ⟨(l.take 4).toArray⟩ ⟨#[115, 116, 105, 108]⟩ then (emptyO, 162) else decF (decH ⟨l.drop 4, false⟩)
abbrev codeBk (l : List Ins) : Blk := .vec 37 9 64 (l.map Ins.cells)
set_option maxRecDepth 100000 in
set_option maxHeartbeats 4000000 in
theorem k_decodeErr (b : List UInt8) (h0 : (decS b).2 ≠ 0) : K 26 [.tr (bytT b)] [] (.ret (.tup [.agg [nilT, .tr (ti 0), .tr (ti 0), .tr (ti 0), nilT], .tr (ti 162)])) [] := by
  refine Ctr.new [9,17,18] hT hmix Tryd.func26 rfl (fun _ _ => by kernel_rfl) rfl fun hok => ?_
  clear hok
  obtain ⟨R, hR⟩ : ∃ R, R = decS b := ⟨_, rfl⟩
  rw [← hR] at h0
  unfold decS at hR
  have hbl := brows_len b
  conv => whnf
  have hgo : (decide ((b.length : Int) < 4) || !seq ⟨(b.take 4).toArray⟩ ⟨#[115, 116, 105, 108]⟩) = false → R = decF (decH ⟨b.drop 4, false⟩) := fun h => by rw [hR, h]; rfl
  have hno : (decide ((b.length : Int) < 4) || !seq ⟨(b.take 4).toArray⟩ ⟨#[115, 116, 105, 108]⟩) = true → R = (emptyO, 162) := fun h => by rw [hR, h]; rfl
  clear hR
  refine csplit (fun h1 => ?_) (fun h1 => ?_)
  · replace h1 : decide (((brows b).length : Int) < 4) = true := h1
    rw [hbl] at h1
    conv => whnf
    exact ⟨[], rfl, rfl, aut2⟩
  replace h1 : decide (((brows b).length : Int) < 4) = false := h1
  rw [hbl] at h1
  have hb4 : 4 ≤ b.length := by have := of_decide_eq_false h1; omega
  conv => whnf
  refine ⟨rfl, by decide, (show (0 : Int) ≤ 4 by decide), (show (4 : Int) ≤ ((brows b).length : Int) by rw [hbl]; omega), ?_⟩
  conv => whnf
  refine ⟨b.take 4, by rw [brows_take]; rfl, by rw [List.length_take]; omega, ?_⟩
  conv => whnf
  refine csplit (fun h2 => ?_) (fun h2 => ?_)
  · replace h2 : (!seq ⟨(b.take 4).toArray⟩ ⟨#[115, 116, 105, 108]⟩) = true := h2
    conv => whnf
    exact ⟨[], rfl, rfl, aut2⟩
  replace h2 : (!seq ⟨(b.take 4).toArray⟩ ⟨#[115, 116, 105, 108]⟩) = false := h2
  replace hgo := hgo (by rw [h1, h2]; rfl)
  clear hno h1 h2
  unfold decH at hgo
  conv => whnf
  refine ⟨rfl, by decide, (show (4 : Int) ≤ ((brows b).length : Int) by rw [hbl]; omega), Int.le_refl _, ?_⟩
  have hd : List.drop (4 : Int).toNat (List.take ((brows b).length : Int).toNat (brows b)) = brows (b.drop 4) := by
    rw [Int.toNat_natCast, List.take_of_length_le (Nat.le_refl _), brows_drop]; rfl
  generalize b.drop 4 = l0 at hgo hd
  have ha := k_smallR ⟨l0, false⟩ 64 (by decide)
  generalize smallR 64 ⟨l0, false⟩ = Sa at ha hgo
  obtain ⟨na, la, ba⟩ := Sa
  have hb := k_smallR ⟨la, ba⟩ 16 (by decide)
  simp only at hgo
  generalize smallR 16 ⟨la, ba⟩ = Sb at hb hgo
  obtain ⟨nb, lb, bb⟩ := Sb
  have hc := k_smallR ⟨lb, bb⟩ 16 (by decide)
  simp only at hgo
  generalize smallR 16 ⟨lb, bb⟩ = Sc at hc hgo
  obtain ⟨nc, lc, bc⟩ := Sc
  have hn := k_smallR ⟨lc, bc⟩ 4096 (by decide)
  have hng := smallR_rng (most := 4096) (by decide) ⟨lc, bc⟩
  simp only at hgo
  generalize smallR 4096 ⟨lc, bc⟩ = Sn at hn hng hgo
  obtain ⟨nn, ln, bn⟩ := Sn
  simp only at hgo ha hb hc hn hng
  conv => whnf
  refine acall.gen [14] [] _ _ _ _ ha rfl rfl rfl rfl aut ⟨⟨rfl, .inl (congrArg (Tr.lst 1 1) hd), .inl rfl, trivial⟩, trivial⟩ rfl rfl fun _ => ?_
  conv => whnf
  refine acall.au [14] [] (hb) ?_
  intro _
  conv => whnf
  refine acall.au [14] [] (hc) ?_
  intro _
  conv => whnf
  have hM : ∀ M, memR nn.toNat ⟨ln, bn⟩ [] = M → R = decF ((⟨M.1, na, nb, nc, (coresR (smallR 8 M.2).1.toNat (smallR 8 M.2).2 []).1⟩, (coresR (smallR 8 M.2).1.toNat (smallR 8 M.2).2 []).2)) := fun M h => by rw [hgo, h]
  clear hgo
  have hN : ((nn.toNat : Nat) : Int) = nn := Int.toNat_of_nonneg hng.1
  refine CutL.by (fun x : Rd × List Int => ⟨[(2, .ptr 0 0), (4, .ptr 1 0), (5, .ptr 2 0)], [(0, obB nilT 0 0 0 nilT), (1, x.1.blk), (2, obB (.sl 3 x.2.length) na nb nc nilT), (3, memBk x.2)], 10⟩)
    (fun x => R = decF ((⟨x.2, na, nb, nc, (coresR (smallR 8 x.1).1.toNat (smallR 8 x.1).2 []).1⟩, (coresR (smallR 8 x.1).1.toNat (smallR 8 x.1).2 []).2)) ∧ x.2.length ≤ 4096) ?_ ?_
  · conv => whnf
    refine acall.au [14] [] (hn) ?_
    intro _
    conv => whnf
    refine LoopL.by (fun x : Nat × Rd × List Int => ⟨[(2, .ptr 0 0), (4, .ptr 1 0), (5, .ptr 2 0), (6, .tr (ti x.1))], [(0, obB nilT 0 0 0 nilT), (1, x.2.1.blk), (2, obB (.sl 3 x.2.2.length) na nb nc nilT), (3, memBk x.2.2)], 10⟩)
      (fun x => (∀ M, memR x.1 x.2.1 x.2.2 = M → R = decF ((⟨M.1, na, nb, nc, (coresR (smallR 8 M.2).1.toNat (smallR 8 M.2).2 []).1⟩, (coresR (smallR 8 M.2).1.toNat (smallR 8 M.2).2 []).2))) ∧ x.2.2.length + x.1 ≤ 4096) (fun x => x.1) (nn.toNat, ⟨ln, bn⟩, []) [0, 14, 23] [3]
      (Sub.mk' rfl ⟨⟨rfl, rfl⟩, ⟨rfl, rfl⟩, ⟨rfl, rfl⟩, .inl (congrArg ti hN.symm), trivial⟩ ⟨⟨rfl, .inl rfl, .inl rfl, .inl rfl, .inl rfl, .inl rfl, trivial⟩, ⟨rfl, .inl rfl, .inl rfl, trivial⟩, ⟨rfl, ⟨rfl, rfl, rfl, rfl⟩, .inl rfl, .inl rfl, .inl rfl, .inl rfl, trivial⟩, ⟨rfl, _, _, _, rfl, by decide⟩, trivial⟩ rfl rfl) ⟨hM, by simp only [List.length_nil]; omega⟩ ?_
    clear hM ha hb hc hn hng hN hd
    rintro ⟨n, ⟨l, bd⟩, mem⟩ ⟨hM, hlen⟩ -
    simp only at hM hlen
    cases bd
    · cases n with
      | zero =>
        replace hM := hM _ rfl
        conv => whnf
        refine ⟨fun _ => ?_, fun h => absurd rfl h⟩
        conv => whnf
        exact ⟨(⟨l, false⟩, mem), [0, 1, 2, 3], [], Sub.au, hM, by simp only; omega⟩
      | succ m =>
        have hw := k_wordR ⟨l, false⟩
        have hM : ∀ M, memR m (wordR ⟨l, false⟩).2 (mem ++ [(wordR ⟨l, false⟩).1]) = M → R = decF ((⟨M.1, na, nb, nc, (coresR (smallR 8 M.2).1.toNat (smallR 8 M.2).2 []).1⟩, (coresR (smallR 8 M.2).1.toNat (smallR 8 M.2).2 []).2)) := hM
        generalize wordR ⟨l, false⟩ = W at hw hM
        obtain ⟨w, l1, b1⟩ := W
        simp only at hw hM
        have hm1 : IntKind.i64.wrap (((m + 1 : Nat) : Int) - 1) = (m : Int) := by rw [w64 (by omega) (by omega)]; omega
        conv => whnf
        refine csplit (fun h1 => ?_) (fun h1 => ?_)
        · conv => whnf
          refine acall.au [1] [] (hw) ?_
          conv => whnf
          refine ⟨rfl, rfl, rfl, by simp, by simp; omega, fun q hq => by simp at hq; subst hq; simp, ?_⟩
          conv => whnf
          refine ⟨by kernel_rfl, fun _ => ?_⟩
          conv => whnf
          refine ⟨(m, ⟨l1, b1⟩, mem ++ [w]), [0, 1, 2, 24], [], Sub.mk' rfl ⟨⟨rfl, rfl⟩, ⟨rfl, rfl⟩, ⟨rfl, rfl⟩, .inl (congrArg ti hm1), trivial⟩ ⟨⟨rfl, .inl rfl, .inl rfl, .inl rfl, .inl rfl, .inl rfl, trivial⟩, ⟨rfl, .inl rfl, .inl rfl, trivial⟩, ⟨rfl, ⟨rfl, by simp⟩, .inl rfl, .inl rfl, .inl rfl, .inl rfl, trivial⟩, ⟨rfl, rfl, rfl, by rw [List.take_of_length_le (by simp), List.map_append]; rfl⟩, trivial⟩ rfl rfl, ⟨hM, by simp only [List.length_append, List.length_cons, List.length_nil]; omega⟩, by simp only; omega⟩
        · exact absurd (of_decide_eq_false h1) (by simp only; omega)
    · have hM : R = decF ((⟨mem, na, nb, nc, (coresR (smallR 8 ⟨l, true⟩).1.toNat (smallR 8 ⟨l, true⟩).2 []).1⟩, (coresR (smallR 8 ⟨l, true⟩).1.toNat (smallR 8 ⟨l, true⟩).2 []).2)) := by
        have := hM (mem, ⟨l, true⟩) (by cases n <;> rfl)
        exact this
      conv => whnf
      refine csplit (fun h1 => ?_) (fun h1 => ?_)
      · conv => whnf
        refine ⟨fun _ => ?_, fun h => absurd rfl h⟩
        conv => whnf
        exact ⟨(⟨l, true⟩, mem), [0, 1, 2, 3], [], Sub.au, hM, by simp only; omega⟩
      · conv => whnf
        refine ⟨fun _ => ?_, fun h => absurd rfl h⟩
        conv => whnf
        exact ⟨(⟨l, true⟩, mem), [0, 1, 2, 3], [], Sub.au, hM, by simp only; omega⟩
  clear hM ha hb hc hn hng hN hd
  rintro ⟨⟨l, bd⟩, mem⟩ ⟨hM, hml⟩ -
  simp only at hM hml
  have hs := k_smallR ⟨l, bd⟩ 8 (by decide)
  have hsg := smallR_rng (most := 8) (by decide) ⟨l, bd⟩
  generalize smallR 8 ⟨l, bd⟩ = S at hs hsg hM
  obtain ⟨ns, ls, bs⟩ := S
  simp only at hs hsg hM
  have hC : ∀ C, coresR ns.toNat ⟨ls, bs⟩ [] = C → R = decF (⟨mem, na, nb, nc, C.1⟩, C.2) := fun C h => by rw [hM, h]
  clear hM
  have hN : ((ns.toNat : Nat) : Int) = ns := Int.toNat_of_nonneg hsg.1
  refine CutL.by (fun x : Rd × List Cor => ⟨[(2, .ptr 0 0), (4, .ptr 1 0), (5, .ptr 2 0)], [(0, obB nilT 0 0 0 nilT), (1, x.1.blk), (2, obB (.sl 3 mem.length) na nb nc (.sl 4 x.2.length)), (3, memBk mem), (4, coresBk x.2)], 10⟩)
    (fun x => R = decF (⟨mem, na, nb, nc, x.2⟩, x.1) ∧ x.2.length ≤ 8) ?_ ?_
  · conv => whnf
    refine acall.au [1] [] (hs) ?_
    intro _
    conv => whnf
    refine LoopL.by (fun x : Nat × Rd × List Cor => ⟨[(2, .ptr 0 0), (4, .ptr 1 0), (5, .ptr 2 0), (7, .tr (ti x.1))], [(0, obB nilT 0 0 0 nilT), (1, x.2.1.blk), (2, obB (.sl 3 mem.length) na nb nc (.sl 4 x.2.2.length)), (3, memBk mem), (4, coresBk x.2.2)], 10⟩)
      (fun x => (∀ C, coresR x.1 x.2.1 x.2.2 = C → R = decF (⟨mem, na, nb, nc, C.1⟩, C.2)) ∧ x.2.2.length + x.1 ≤ 8) (fun x => x.1) (ns.toNat, ⟨ls, bs⟩, []) [0, 1, 2, 3] [4]
      (Sub.mk' rfl ⟨⟨rfl, rfl⟩, ⟨rfl, rfl⟩, ⟨rfl, rfl⟩, .inl (congrArg ti hN.symm), trivial⟩ ⟨⟨rfl, .inl rfl, .inl rfl, .inl rfl, .inl rfl, .inl rfl, trivial⟩, ⟨rfl, .inl rfl, .inl rfl, trivial⟩, ⟨rfl, ⟨rfl, rfl⟩, .inl rfl, .inl rfl, .inl rfl, ⟨rfl, rfl, rfl, rfl⟩, trivial⟩, ⟨rfl, rfl, rfl, rfl⟩, ⟨rfl, rfl, rfl, by decide⟩, trivial⟩ rfl rfl) ⟨hC, by simp only [List.length_nil]; omega⟩ ?_
    clear hC hs hsg hN
    rintro ⟨n, ⟨l, bd⟩, cs⟩ ⟨hC, hlen⟩ -
    simp only at hC hlen
    cases bd
    · cases n with
      | zero =>
        replace hC := hC _ rfl
        conv => whnf
        refine ⟨fun _ => ?_, fun h => absurd rfl h⟩
        conv => whnf
        exact ⟨(⟨l, false⟩, cs), [0, 1, 2, 3, 4], [], Sub.au, hC, by simp only; omega⟩
      | succ m =>
        have hw := k_nameR ⟨l, false⟩
        have hC : ∀ C, coresR m (coreR ⟨l, false⟩).2 (cs ++ [(coreR ⟨l, false⟩).1]) = C → R = decF (⟨mem, na, nb, nc, C.1⟩, C.2) := hC
        unfold coreR at hC
        generalize nameR ⟨l, false⟩ = W at hw hC
        obtain ⟨nm, l1, b1⟩ := W
        simp only at hw hC
        have hq := k_smallR ⟨l1, b1⟩ 16384 (by decide)
        have hqg := smallR_rng (most := 16384) (by decide) ⟨l1, b1⟩
        generalize smallR 16384 ⟨l1, b1⟩ = Q at hq hqg hC
        obtain ⟨nq, l2, b2⟩ := Q
        simp only at hq hqg hC
        have hD : ∀ D, codeR nq.toNat ⟨l2, b2⟩ [] = D → ∀ C, coresR m D.2 (cs ++ [⟨nm, D.1⟩]) = C → R = decF (⟨mem, na, nb, nc, C.1⟩, C.2) := fun D hD C h => hC C (by rw [hD]; exact h)
        clear hC
        have hm1 : IntKind.i64.wrap (((m + 1 : Nat) : Int) - 1) = (m : Int) := by rw [w64 (by omega) (by omega)]; omega
        have hN : ((nq.toNat : Nat) : Int) = nq := Int.toNat_of_nonneg hqg.1
        conv => whnf
        refine csplit (fun h1 => ?_) (fun h1 => ?_)
        · conv => whnf
          refine acall.au [1] [] (hw) ?_
          intro _
          conv => whnf
          refine CutL.by (fun x : Rd × List Ins => ⟨[(2, .ptr 0 0), (4, .ptr 1 0), (5, .ptr 2 0), (7, .tr (ti ((m + 1 : Nat) : Int))), (8, .ptr 5 0)], [(0, obB nilT 0 0 0 nilT), (1, x.1.blk), (2, obB (.sl 3 mem.length) na nb nc (.sl 4 cs.length)), (3, memBk mem), (4, coresBk cs), (5, .cells 33 [.tr (ts nm), .sl 6 x.2.length]), (6, codeBk x.2)], 10⟩)
            (fun x => (∀ C, coresR m x.1 (cs ++ [⟨nm, x.2⟩]) = C → R = decF (⟨mem, na, nb, nc, C.1⟩, C.2)) ∧ x.2.length ≤ 16384) ?_ ?_
          · conv => whnf
            refine acall.au [1] [] (hq) ?_
            intro _
            conv => whnf
            refine LoopL.by (fun x : Nat × Rd × List Ins => ⟨[(2, .ptr 0 0), (4, .ptr 1 0), (5, .ptr 2 0), (7, .tr (ti ((m + 1 : Nat) : Int))), (8, .ptr 5 0), (9, .tr (ti x.1))], [(0, obB nilT 0 0 0 nilT), (1, x.2.1.blk), (2, obB (.sl 3 mem.length) na nb nc (.sl 4 cs.length)), (3, memBk mem), (4, coresBk cs), (5, .cells 33 [.tr (ts nm), .sl 6 x.2.2.length]), (6, codeBk x.2.2)], 10⟩)
              (fun x => (∀ D, codeR x.1 x.2.1 x.2.2 = D → ∀ C, coresR m D.2 (cs ++ [⟨nm, D.1⟩]) = C → R = decF (⟨mem, na, nb, nc, C.1⟩, C.2)) ∧ x.2.2.length + x.1 ≤ 16384) (fun x => x.1) (nq.toNat, ⟨l2, b2⟩, []) [0, 1, 2, 3, 4, 22] [6]
              (Sub.mk' rfl ⟨⟨rfl, rfl⟩, ⟨rfl, rfl⟩, ⟨rfl, rfl⟩, .inl rfl, ⟨rfl, rfl⟩, .inl (congrArg ti hN.symm), trivial⟩ ⟨⟨rfl, .inl rfl, .inl rfl, .inl rfl, .inl rfl, .inl rfl, trivial⟩, ⟨rfl, .inl rfl, .inl rfl, trivial⟩, ⟨rfl, ⟨rfl, rfl⟩, .inl rfl, .inl rfl, .inl rfl, ⟨rfl, rfl⟩, trivial⟩, ⟨rfl, rfl, rfl, rfl⟩, ⟨rfl, rfl, rfl, rfl, .inl rfl⟩, ⟨rfl, .inl rfl, ⟨rfl, rfl, rfl, rfl⟩, trivial⟩, ⟨rfl, _, _, _, rfl, by decide⟩, trivial⟩ rfl rfl) ⟨hD, by simp only [List.length_nil]; omega⟩ ?_
            clear hD hq hqg hN hw h1
            rintro ⟨n, ⟨l, bd⟩, cc⟩ ⟨hD, hcl⟩ -
            simp only at hD hcl
            cases bd
            · cases n with
              | zero =>
                replace hD := hD _ rfl
                conv => whnf
                refine ⟨fun _ => ?_, fun h => absurd rfl h⟩
                conv => whnf
                exact ⟨(⟨l, false⟩, cc), [0, 1, 2, 3, 4, 5, 6], [], Sub.au, hD, by simp only; omega⟩
              | succ q =>
                have hi := k_insR ⟨l, false⟩
                have hD : ∀ D, codeR q (insR ⟨l, false⟩).2 (cc ++ [(insR ⟨l, false⟩).1]) = D → ∀ C, coresR m D.2 (cs ++ [⟨nm, D.1⟩]) = C → R = decF (⟨mem, na, nb, nc, C.1⟩, C.2) := hD
                generalize insR ⟨l, false⟩ = I at hi hD
                obtain ⟨⟨i1, i2, i3, i4, i5, i6, i7, i8, i9⟩, l3, b3⟩ := I
                simp only at hi hD
                have hq1 : IntKind.i64.wrap (((q + 1 : Nat) : Int) - 1) = (q : Int) := by rw [w64 (by omega) (by omega)]; omega
                conv => whnf
                refine csplit (fun h2 => ?_) (fun h2 => ?_)
                · conv => whnf
                  refine acall.au [1] [] (hi) ?_
                  conv => whnf
                  refine ⟨rfl, rfl, rfl, by simp, by simp; omega, fun p hp => by simp at hp; subst hp; simp, ?_⟩
                  conv => whnf
                  refine ⟨by kernel_rfl, fun _ => ?_⟩
                  conv => whnf
                  refine ⟨(q, ⟨l3, b3⟩, cc ++ [⟨i1, i2, i3, i4, i5, i6, i7, i8, i9⟩]), [0, 1, 2, 3, 4, 5, 24], [], Sub.mk' rfl ⟨⟨rfl, rfl⟩, ⟨rfl, rfl⟩, ⟨rfl, rfl⟩, .inl rfl, ⟨rfl, rfl⟩, .inl (congrArg ti hq1), trivial⟩ ⟨⟨rfl, .inl rfl, .inl rfl, .inl rfl, .inl rfl, .inl rfl, trivial⟩, ⟨rfl, .inl rfl, .inl rfl, trivial⟩, ⟨rfl, ⟨rfl, rfl⟩, .inl rfl, .inl rfl, .inl rfl, ⟨rfl, rfl⟩, trivial⟩, ⟨rfl, rfl, rfl, rfl⟩, ⟨rfl, rfl, rfl, rfl, .inl rfl⟩, ⟨rfl, .inl rfl, ⟨rfl, by simp⟩, trivial⟩, ⟨rfl, rfl, rfl, ?_⟩, trivial⟩ rfl rfl, ⟨hD, by simp only [List.length_append, List.length_cons, List.length_nil]; omega⟩, by simp only; omega⟩
                  rw [List.take_of_length_le (by simp), List.map_append]; rfl
                · exact absurd (of_decide_eq_false h2) (by simp only; omega)
            · have hD := hD (cc, ⟨l, true⟩) (by cases n <;> rfl)
              simp only at hD
              conv => whnf
              refine csplit (fun h2 => ?_) (fun h2 => ?_)
              · conv => whnf
                refine ⟨fun _ => ?_, fun h => absurd rfl h⟩
                conv => whnf
                exact ⟨(⟨l, true⟩, cc), [0, 1, 2, 3, 4, 5, 6], [], Sub.au, hD, by simp only; omega⟩
              · conv => whnf
                refine ⟨fun _ => ?_, fun h => absurd rfl h⟩
                conv => whnf
                exact ⟨(⟨l, true⟩, cc), [0, 1, 2, 3, 4, 5, 6], [], Sub.au, hD, by simp only; omega⟩
          · rintro ⟨⟨l, bd⟩, cc⟩ ⟨hC, hcl⟩ -
            simp only at hC hcl
            conv => whnf
            refine ⟨by rw [List.length_map], rfl, Nat.le_refl _, (show (cs.length + 1) * 40 ≤ 150000000000000 by omega), trivial, trivial, trivial, ?_⟩
            conv => whnf
            refine ⟨(m, ⟨l, bd⟩, cs ++ [⟨nm, cc⟩]), [0, 1, 2, 3, 14], [], Sub.pk [14] ?_, ⟨hC, by simp only [List.length_append, List.length_cons, List.length_nil]; omega⟩, by simp only; omega⟩
            conv => whnf
            refine ⟨rfl, rfl, (show cc.length ≤ (cc.map Ins.cells).length by simp), code_leaf cc, ?_⟩
            refine Sub0.mk' rfl ⟨⟨rfl, rfl⟩, ⟨rfl, rfl⟩, ⟨rfl, rfl⟩, .inl (congrArg ti hm1), trivial⟩ ⟨⟨rfl, .inl rfl, .inl rfl, .inl rfl, .inl rfl, .inl rfl, trivial⟩, ⟨rfl, .inl rfl, .inl rfl, trivial⟩, ⟨rfl, ⟨rfl, rfl⟩, .inl rfl, .inl rfl, .inl rfl, ⟨rfl, by simp⟩, trivial⟩, ⟨rfl, rfl, rfl, rfl⟩, ⟨rfl, rfl, rfl, rfl, .inl ?_⟩, trivial⟩ rfl rfl
            refine (setC_snoc (i := cs.length) (by simp)).trans ?_
            show _ ++ [[ts nm, Tr.lst 9 64 (List.take cc.length (cc.map Ins.cells))]] = _
            rw [List.take_of_length_le (l := cc.map Ins.cells) (by simp), List.map_append]
            rfl
        · exact absurd (of_decide_eq_false h1) (by simp only; omega)
    · have hC : R = decF (⟨mem, na, nb, nc, cs⟩, ⟨l, true⟩) := by
        have := hC (cs, ⟨l, true⟩) (by cases n <;> rfl)
        exact this
      conv => whnf
      refine csplit (fun h1 => ?_) (fun h1 => ?_)
      · conv => whnf
        refine ⟨fun _ => ?_, fun h => absurd rfl h⟩
        conv => whnf
        exact ⟨(⟨l, true⟩, cs), [0, 1, 2, 3, 4], [], Sub.au, hC, by simp only; omega⟩
      · conv => whnf
        refine ⟨fun _ => ?_, fun h => absurd rfl h⟩
        conv => whnf
        exact ⟨(⟨l, true⟩, cs), [0, 1, 2, 3, 4], [], Sub.au, hC, by simp only; omega⟩
  clear hC hs hsg hN
  rintro ⟨⟨l, bd⟩, cs⟩ ⟨hC, hcl⟩ -
  simp only at hC hcl
  have hk := k_check ⟨mem, na, nb, nc, cs⟩
  unfold decF at hC
  generalize checkO ⟨mem, na, nb, nc, cs⟩ = Q at hk hC
  conv => whnf
  refine acall.gen [] [3, 4] _ _ _ _ hk rfl rfl rfl rfl ⟨⟨⟨rfl, by simp, by rw [List.take_of_length_le (by simp)]⟩, .inl rfl, .inl rfl, .inl rfl, ⟨rfl, by simp, by rw [List.take_of_length_le (by simp)]⟩, trivial⟩, trivial⟩ trivial rfl rfl fun _ => ?_
  have hll : decide (((brows l).length : Int) > 0) = decide ((l.length : Int) > 0) := by rw [brows_len]
  conv => whnf
  refine csplit (fun hq => ?_) (fun hq => ?_)
  · replace hq : (Q.1 != 0) = true := hq
    simp only [hq, Bool.true_or, cond_true] at hC
    conv => whnf
    exact ⟨[], rfl, rfl, aut2⟩
  replace hq : (Q.1 != 0) = false := hq
  simp only [hq, Bool.false_or] at hC
  cases bd
  · simp only [Bool.false_or] at hC
    conv => whnf
    refine csplit (fun hl => ?_) (fun hl => ?_)
    · replace hl : decide (((brows l).length : Int) > 0) = true := hl
      rw [hll] at hl
      simp only [hl, cond_true] at hC
      conv => whnf
      exact ⟨[], rfl, rfl, aut2⟩
    · replace hl : decide (((brows l).length : Int) > 0) = false := hl
      rw [hll] at hl
      simp only [hl, cond_false] at hC
      exact absurd (by rw [hC]) h0
  · simp only [Bool.true_or, cond_true] at hC
    conv => whnf
    exact ⟨[], rfl, rfl, aut2⟩
end Go.Proofs.YtffhoknkfohfgaaDoor.am

namespace Go.Proofs.YtffhoknkfohfgaaDoor.am
open Go Go.Proofs
theorem band127B : ((List.range 256).all fun k => decide (band (k : Nat) 127 = (k % 128 : Nat))) = true := by kernel_rfl
theorem band127 (k : Nat) (h : k < 256) : band (k : Nat) 127 = (k % 128 : Nat) := of_decide_eq_true (List.all_eq_true.1 band127B k (List.mem_range.2 h))
theorem pow128 (k : Nat) : 128 ^ k = 2 ^ (7 * k) := by rw [Nat.pow_mul]
theorem shlD_eq {c : UInt8} {k : Nat} (hk : k ≤ 9) (hc : k = 9 → c.toNat ≤ 1) : shlD c k = ((c.toNat % 128 * 128 ^ k : Nat) : Int) ∧ c.toNat % 128 * 128 ^ k < 18446744073709551616 := by
  have h8 := c.toNat_lt
  have hlt : c.toNat % 128 * 128 ^ k < 18446744073709551616 := by
    generalize c.toNat = x at hc h8
    rcases k9 hk with rfl | rfl | rfl | rfl | rfl | rfl | rfl | rfl | rfl | rfl <;> simp only [Nat.reducePow] <;> omega
  refine ⟨?_, hlt⟩
  unfold shlD
  rw [band127 c.toNat (by omega), u64_id (z := ((c.toNat % 128 : Nat) : Int)) (by omega) (by omega), w64 (by omega) (by omega), show min (7 * (k : Int)).toNat IntKind.u64.bits = 7 * k by show min (7 * (k : Int)).toNat 64 = _; omega]
  have e : (((c.toNat % 128 : Nat) : Int) * 2 ^ (7 * k)) = ((c.toNat % 128 * 128 ^ k : Nat) : Int) := by rw [pow128]; norm_cast
  rw [e, u64_id (by omega) (by omega)]
theorem orI_eq {a x k : Nat} (ha : a < 128 ^ k) (hx : x * 128 ^ k < 18446744073709551616) (hk : k ≤ 9) : orI (a : Int) ((x * 128 ^ k : Nat) : Int) = ((a + x * 128 ^ k : Nat) : Int) ∧ (x < 128 → a + x * 128 ^ k < 128 ^ (k + 1)) ∧ a + x * 128 ^ k < 18446744073709551616 := by
  have h1 : x < 128 → a + x * 128 ^ k < 128 ^ (k + 1) := fun h => by
    rw [Nat.pow_succ]
    have : x * 128 ^ k ≤ 127 * 128 ^ k := Nat.mul_le_mul_right _ (by omega)
    omega
  have hsum : a + x * 128 ^ k < 18446744073709551616 := by
    rcases k9 hk with rfl | rfl | rfl | rfl | rfl | rfl | rfl | rfl | rfl | rfl <;> simp only [Nat.reducePow] at ha hx ⊢ <;> omega
  refine ⟨?_, h1, hsum⟩
  unfold orI
  rw [show IntKind.u64.bits = 64 from rfl, ofInt_nat, ofInt_nat, BitVec.toNat_or, BitVec.toNat_ofNat, BitVec.toNat_ofNat, Nat.mod_eq_of_lt (by omega), Nat.mod_eq_of_lt hx]
  have e : a ||| x * 128 ^ k = a + x * 128 ^ k := by
    rw [pow128] at ha ⊢
    rw [← Nat.shiftLeft_eq, Nat.or_comm, ← Nat.shiftLeft_add_eq_or_of_lt ha, Nat.add_comm]
  rw [e, u64_id (by omega) (by omega)]
theorem numG_eq (l0 : List UInt8) : ∀ (f k a : Nat) (l : List UInt8), f + k = 10 → a < 128 ^ k → numG l0 f k a l = match nO f k a l with | none => (0, ⟨l0, true⟩) | some (m, r) => ((m : Int), ⟨r, false⟩)
  | 0, _, _, _, _, _ => rfl
  | _ + 1, _, _, [], _, _ => rfl
  | f + 1, k, a, c :: l, hk, ha => by
    unfold numG nO
    by_cases hb : (k = 9 ∧ 1 < c.toNat) ∨ (0 < k ∧ c.toNat = 0)
    · rw [if_pos hb]
      have e : ((((k : Int) == 9) && decide ((c.toNat : Int) > 1)) || (decide ((k : Int) > 0) && ((c.toNat : Int) == 0))) = true := by
        rcases hb with ⟨h1, h2⟩ | ⟨h1, h2⟩
        · rw [show ((k : Int) == 9) = true by rw [h1]; rfl, show decide ((c.toNat : Int) > 1) = true from decide_eq_true (by omega)]; rfl
        · rw [show decide ((k : Int) > 0) = true from decide_eq_true (by omega), show ((c.toNat : Int) == 0) = true by rw [h2]; rfl, Bool.and_self, Bool.or_true]
      rw [e]; rfl
    · rw [if_neg hb]
      have e : ((((k : Int) == 9) && decide ((c.toNat : Int) > 1)) || (decide ((k : Int) > 0) && ((c.toNat : Int) == 0))) = false := by
        rw [Bool.or_eq_false_iff, Bool.and_eq_false_iff, Bool.and_eq_false_iff]
        refine ⟨?_, ?_⟩
        · by_cases h : k = 9
          · exact .inr (decide_eq_false (by omega))
          · exact .inl (beq_eq_false_iff_ne.2 (by omega))
        · by_cases h : 0 < k
          · exact .inr (beq_eq_false_iff_ne.2 (by omega))
          · exact .inl (decide_eq_false (by omega))
      have hs := shlD_eq (c := c) (k := k) (by omega) (fun h => by omega)
      have ho := orI_eq ha hs.2 (by omega)
      rw [e, hs.1, ho.1]
      by_cases h : c.toNat < 128
      · rw [if_pos h, show decide ((c.toNat : Int) < 128) = true from decide_eq_true (by omega), Nat.mod_eq_of_lt h]; rfl
      · rw [if_neg h, show decide ((c.toNat : Int) < 128) = false from decide_eq_false (by omega)]
        exact numG_eq l0 f (k + 1) _ l (by omega) (ho.2.1 (by omega))
def Rf {α β : Type} (s : Rd → α × Rd) (q : PO β) (f : β → α) : Prop := ∀ r, (r.bad = true → (s r).2.bad = true) ∧ ∀ l, r = ⟨l, false⟩ → match q l with
  | none => (s r).2.bad = true
  | some (b, l') => s r = (f b, ⟨l', false⟩)
theorem rf_num : Rf numR numO (fun n : Nat => (n : Int)) := by
  intro r
  refine ⟨fun h => by unfold numR; rw [h]; rfl, fun l h => ?_⟩
  subst h
  have e : numR ⟨l, false⟩ = numG l 10 0 ((0 : Nat) : Int) l := rfl
  rw [e, numG_eq l 10 0 0 l rfl (by decide)]
  unfold numO
  cases nO 10 0 0 l <;> rfl
theorem rf_small (most : Nat) : Rf (smallR most) (smallO most) (fun n : Nat => (n : Int)) := by
  intro r
  have hn := rf_num r
  refine ⟨fun h => ?_, fun l h => ?_⟩
  · have := hn.1 h
    unfold smallR
    cases decide ((numR r).1 > most)
    · exact this
    · rfl
  · have := hn.2 l h
    unfold smallO
    unfold smallR
    cases hq : numO l with
    | none =>
      rw [hq] at this
      show (bif _ then _ else _ : Int × Rd).2.bad = true
      cases decide ((numR r).1 > most)
      · exact this
      · rfl
    | some p =>
      obtain ⟨n, l'⟩ := p
      rw [hq] at this
      replace this : numR r = ((n : Int), ⟨l', false⟩) := this
      rw [this]
      by_cases hle : n ≤ most
      · simp only [if_pos hle, show decide ((n : Int) > most) = false from decide_eq_false (by omega), cond_false]
      · simp only [if_neg hle, show decide ((n : Int) > most) = true from decide_eq_true (by omega), cond_true]
theorem unzM_eq {n : Nat} (h : n < 18446744073709551616) : unzM n = unzN n := by
  unfold unzM unzN
  have h1 : IntKind.i64.wrap ((n : Int).fdiv (2 ^ min (1 : Int).toNat IntKind.u64.bits)) = ((n / 2 : Nat) : Int) := by
    rw [show min (1 : Int).toNat IntKind.u64.bits = 1 from rfl, Int.fdiv_eq_ediv_of_nonneg _ (by decide), w64 (by omega) (by omega)]; omega
  have h2 : IntKind.u64.wrap (BitVec.ofInt IntKind.u64.bits (n : Int) &&& BitVec.ofInt IntKind.u64.bits 1).toNat = ((n % 2 : Nat) : Int) := by
    rw [show IntKind.u64.bits = 64 from rfl, show (1 : Int) = ((1 : Nat) : Int) from rfl, ofInt_nat, ofInt_nat, BitVec.toNat_and, BitVec.toNat_ofNat, BitVec.toNat_ofNat, Nat.mod_eq_of_lt h, show 1 % 2 ^ 64 = 1 from rfl, Nat.and_one_is_mod, u64_id (by omega) (by omega)]
  rw [h1, h2, w64 (n := ((n % 2 : Nat) : Int)) (by omega) (by omega), show IntKind.i64.bits = 64 from rfl, ofInt_nat]
  by_cases h0 : n % 2 = 0
  · rw [if_pos h0, h0, show IntKind.i64.wrap (0 - ((0 : Nat) : Int)) = 0 from rfl, show BitVec.ofInt 64 0 = 0#64 from rfl, BitVec.xor_zero, BitVec.toNat_ofNat, Nat.mod_eq_of_lt (by omega), w64 (by omega) (by omega)]
  · rw [if_neg h0, show n % 2 = 1 by omega, show IntKind.i64.wrap (0 - ((1 : Nat) : Int)) = -1 from rfl, show BitVec.ofInt 64 (-1) = BitVec.allOnes 64 from rfl, BitVec.xor_allOnes, BitVec.toNat_not, BitVec.toNat_ofNat, Nat.mod_eq_of_lt (by omega)]
    obtain ⟨y, hy, hy2⟩ : ∃ y : Nat, 2 ^ 64 - 1 - n / 2 = y ∧ y + n / 2 + 1 = 18446744073709551616 := ⟨_, rfl, by omega⟩
    have hz : IntKind.i64.wrap (y : Int) = (y : Int) - 18446744073709551616 := by
      simp only [IntKind.wrap, IntKind.signed, IntKind.bits, Bool.true_and, Int.reducePow]
      split
      · omega
      · rename_i hh
        exact absurd (by simp; omega) hh
    rw [hy, hz]
    omega
theorem rf_word : Rf wordR wordO id := by
  intro r
  have hn := rf_num r
  refine ⟨fun h => hn.1 h, fun l h => ?_⟩
  have := hn.2 l h
  unfold wordO
  cases hq : numO l with
  | none => rw [hq] at this; exact this
  | some p =>
    obtain ⟨n, l'⟩ := p
    rw [hq] at this
    replace this : numR r = ((n : Int), ⟨l', false⟩) := this
    show wordR r = (unzN n, ⟨l', false⟩)
    unfold wordR
    rw [this, unzM_eq (numO_inv hq).1]
theorem rf_name : Rf nameR nameO id := by
  intro r
  have hn := rf_small 32 r
  refine ⟨fun h => ?_, fun l h => ?_⟩
  · have := hn.1 h
    unfold nameR
    cases decide ((smallR 32 r).1 > ((smallR 32 r).2.l.length : Int))
    · exact this
    · rfl
  · have := hn.2 l h
    unfold nameO nameR
    cases hq : smallO 32 l with
    | none =>
      rw [hq] at this
      show (bif _ then _ else _ : ByteArray × Rd).2.bad = true
      cases decide ((smallR (32 : Int) r).1 > ((smallR (32 : Int) r).2.l.length : Int))
      · exact this
      · rfl
    | some p =>
      obtain ⟨n, l'⟩ := p
      rw [hq] at this
      replace this : smallR (32 : Int) r = ((n : Int), ⟨l', false⟩) := this
      rw [this]
      by_cases hle : n ≤ l'.length
      · simp only [if_pos hle, show decide ((n : Int) > (l'.length : Int)) = false from decide_eq_false (by omega), cond_false, Int.toNat_natCast]; rfl
      · simp only [if_neg hle, show decide ((n : Int) > (l'.length : Int)) = true from decide_eq_true (by omega), cond_true]
def loopR {α : Type} (s : Rd → α × Rd) : Nat → Rd → List α → List α × Rd
  | 0, r, acc => (acc, r)
  | n + 1, r, acc => bif r.bad then (acc, r) else loopR s n (s r).2 (acc ++ [(s r).1])
theorem memR_loop : memR = loopR wordR := by
  funext n; induction n with
  | zero => rfl
  | succ n ih => funext r acc; unfold memR loopR; rw [ih]
theorem codeR_loop : codeR = loopR insR := by
  funext n; induction n with
  | zero => rfl
  | succ n ih => funext r acc; unfold codeR loopR; rw [ih]
theorem coresR_loop : coresR = loopR coreR := by
  funext n; induction n with
  | zero => rfl
  | succ n ih => funext r acc; unfold coresR loopR; rw [ih]
theorem loop_bad {α : Type} {s : Rd → α × Rd} (n : Nat) {r : Rd} (h : r.bad = true) (acc : List α) : loopR s n r acc = (acc, r) := by
  cases n with
  | zero => rfl
  | succ n => unfold loopR; rw [h]; rfl
theorem loop_ok {α : Type} {s : Rd → α × Rd} {q : PO α} (h : Rf s q id) : ∀ (n : Nat) (l : List UInt8) (acc : List α), match repO q n l with
    | none => (loopR s n ⟨l, false⟩ acc).2.bad = true
    | some (x, l') => loopR s n ⟨l, false⟩ acc = (acc ++ x, ⟨l', false⟩)
  | 0, l, acc => by show (acc, _) = (acc ++ [], _); rw [List.append_nil]
  | n + 1, l, acc => by
    have h1 := (h ⟨l, false⟩).2 l rfl
    show match (match q l with | none => none | some (a, l) => match repO q n l with | none => none | some (x, r) => some (a :: x, r)) with
      | none => (loopR s n (s ⟨l, false⟩).2 (acc ++ [(s ⟨l, false⟩).1])).2.bad = true
      | some (x, l') => loopR s n (s ⟨l, false⟩).2 (acc ++ [(s ⟨l, false⟩).1]) = (acc ++ x, ⟨l', false⟩)
    cases hq : q l with
    | none =>
      rw [hq] at h1
      replace h1 : (s ⟨l, false⟩).2.bad = true := h1
      show (loopR s n _ _).2.bad = true
      rw [loop_bad n h1]; exact h1
    | some p =>
      obtain ⟨a, l1⟩ := p
      rw [hq] at h1
      replace h1 : s ⟨l, false⟩ = (a, ⟨l1, false⟩) := h1
      rw [h1]
      have := loop_ok h n l1 (acc ++ [a])
      simp only
      cases hr : repO q n l1 with
      | none => rw [hr] at this; exact this
      | some p =>
        obtain ⟨x, l2⟩ := p
        rw [hr] at this
        replace this : loopR s n ⟨l1, false⟩ (acc ++ [a]) = (acc ++ [a] ++ x, ⟨l2, false⟩) := this
        show loopR s n ⟨l1, false⟩ (acc ++ [a]) = (acc ++ a :: x, ⟨l2, false⟩)
        rw [this, List.append_assoc]; rfl
theorem rf_ret {α : Type} (a : α) : Rf (fun r => (a, r)) (fun l => some (a, l)) id := fun r => ⟨fun h => h, fun l h => by subst h; rfl⟩
theorem rf_map {α β γ δ : Type} {s : Rd → α × Rd} {q : PO β} {f : β → α} (g : α → γ) (g' : β → δ) (k : δ → γ) (hg : ∀ b, g (f b) = k (g' b)) (h : Rf s q f) : Rf (fun r => (g (s r).1, (s r).2)) (fun l => (q l).map fun p => (g' p.1, p.2)) k := by
  intro r
  have h1 := h r
  refine ⟨fun hr => h1.1 hr, fun l hl => ?_⟩
  have h2 := h1.2 l hl
  simp only
  cases hq : q l with
  | none => rw [hq] at h2; exact h2
  | some p =>
    obtain ⟨b, l'⟩ := p
    rw [hq] at h2
    replace h2 : s r = (f b, ⟨l', false⟩) := h2
    show (g (s r).1, (s r).2) = (k (g' b), ⟨l', false⟩)
    rw [h2, ← hg b]
def limT : Lim := ⟨19, 16384, 16384, 16384⟩
theorem fld_bad (i : Ins) (u : Int) (r : Rd) (h : r.bad = true) : (fldR i u r).2.bad = true := by
  have h1 := (rf_small 19 r).1 h
  have h2 := (rf_small 16384 r).1 h
  have h3 := (rf_word r).1 h
  have hc : ∀ (b : Bool) (x y : Ins × Rd), x.2.bad = true → y.2.bad = true → (bif b then x else y).2.bad = true := fun b x y e1 e2 => by cases b <;> assumption
  exact hc _ _ _ h1 (hc _ _ _ h2 (hc _ _ _ h2 (hc _ _ _ h2 (hc _ _ _ h2 (hc _ _ _ h2 (hc _ _ _ h3 h))))))
theorem rf_fld (i : Ins) (u : Int) (hu : u = 0 ∨ u = 1 ∨ u = 2 ∨ u = 4 ∨ u = 8 ∨ u = 16 ∨ u = 32 ∨ u = 64) : Rf (fldR i u) (fieldO limT i u) id := by
  rcases hu with rfl | rfl | rfl | rfl | rfl | rfl | rfl | rfl
  · exact rf_ret i
  · intro r
    have h := rf_small 19 r
    refine ⟨fun hr => h.1 hr, fun l hl => ?_⟩
    have h2 := h.2 l hl
    have hle : ∀ {n l'}, smallO 19 l = some (n, l') → n ≤ 19 := fun e => (smallO_inv e).1
    rw [show fieldO limT i 1 l = (smallO 19 l).map (fun p => ({ i with op := p.1 }, p.2)) from rfl]
    cases hq : smallO 19 l with
    | none => rw [hq] at h2; exact h2
    | some p =>
      obtain ⟨n, l'⟩ := p
      rw [hq] at h2
      replace h2 : smallR (19 : Int) r = ((n : Int), ⟨l', false⟩) := h2
      have hn := hle hq
      show ({ i with op := IntKind.u8.wrap (smallR (19 : Int) r).1 }, (smallR (19 : Int) r).2) = ({ i with op := (n : Int) }, (⟨l', false⟩ : Rd))
      rw [h2, wu8 (show (0 : Int) ≤ (n : Int) by omega) (by omega)]
  · exact rf_map (fun x => { i with d := x }) (fun n : Nat => { i with d := (n : Int) }) id (fun _ => rfl) (rf_small 16384)
  · exact rf_map (fun x => { i with a := x }) (fun n : Nat => { i with a := (n : Int) }) id (fun _ => rfl) (rf_small 16384)
  · exact rf_map (fun x => { i with b := x }) (fun n : Nat => { i with b := (n : Int) }) id (fun _ => rfl) (rf_small 16384)
  · exact rf_map (fun x => { i with addr := x }) (fun n : Nat => { i with addr := (n : Int) }) id (fun _ => rfl) (rf_small 16384)
  · exact rf_map (fun x => { i with to_ := x }) (fun n : Nat => { i with to_ := (n : Int) }) id (fun _ => rfl) (rf_small 16384)
  · exact rf_map (fun x => { i with word := x }) (fun x => { i with word := x }) id (fun _ => rfl) rf_word
end Go.Proofs.YtffhoknkfohfgaaDoor.am

namespace Go.Proofs.YtffhoknkfohfgaaDoor.am
open Go Go.Proofs
abbrev isU (u : Int) : Prop := u = 0 ∨ u = 1 ∨ u = 2 ∨ u = 4 ∨ u = 8 ∨ u = 16 ∨ u = 32 ∨ u = 64
theorem field_kind {L : Lim} {i b : Ins} {u : Int} (hu : isU u) {l l' : List UInt8} (h : fieldO L i u l = some (b, l')) : b.kind = i.kind := by
  rcases hu with rfl | rfl | rfl | rfl | rfl | rfl | rfl | rfl
  · rw [(f0_inv h).1]
  · obtain ⟨n, _, rfl, _⟩ := f1_inv h; rfl
  · obtain ⟨n, _, rfl, _⟩ := f2_inv h; rfl
  · obtain ⟨n, _, rfl, _⟩ := f4_inv h; rfl
  · obtain ⟨n, _, rfl, _⟩ := f8_inv h; rfl
  · obtain ⟨n, _, rfl, _⟩ := f16_inv h; rfl
  · obtain ⟨n, _, rfl, _⟩ := f32_inv h; rfl
  · obtain ⟨n, _, rfl, _⟩ := f64_inv h; rfl
theorem field_word {L : Lim} {i b : Ins} {u : Int} (hu : isU u) {l l' : List UInt8} (hw : in64 i.word) (h : fieldO L i u l = some (b, l')) : in64 b.word := by
  rcases hu with rfl | rfl | rfl | rfl | rfl | rfl | rfl | rfl
  · rw [(f0_inv h).1]; exact hw
  · obtain ⟨n, _, rfl, _⟩ := f1_inv h; exact hw
  · obtain ⟨n, _, rfl, _⟩ := f2_inv h; exact hw
  · obtain ⟨n, _, rfl, _⟩ := f4_inv h; exact hw
  · obtain ⟨n, _, rfl, _⟩ := f8_inv h; exact hw
  · obtain ⟨n, _, rfl, _⟩ := f16_inv h; exact hw
  · obtain ⟨n, _, rfl, _⟩ := f32_inv h; exact hw
  · obtain ⟨n, hn, rfl, _⟩ := f64_inv h; exact hn
theorem fields_keep {L : Lim} : ∀ (us : List Int), (∀ u ∈ us, isU u) → ∀ {i b : Ins} {l l' : List UInt8}, in64 i.word → fieldsO L us i l = some (b, l') → b.kind = i.kind ∧ in64 b.word
  | [], _, i, b, l, l', hw, h => by obtain ⟨rfl, rfl⟩ := fields_nil h; exact ⟨rfl, hw⟩
  | u :: us, hu, i, b, l, l', hw, h => by
    obtain ⟨i1, l1, h1, h2⟩ := fields_inv h
    have e1 := field_kind (hu u (.head _)) h1
    have e2 := field_word (hu u (.head _)) hw h1
    obtain ⟨e3, e4⟩ := fields_keep us (fun v hv => hu v (.tail _ hv)) e2 h2
    exact ⟨e3.trans e1, e4⟩
theorem stepR_fld {i : Ins} {u : Int} (h : i.kind ≠ 2 ∨ u ≠ 8) (r : Rd) : stepR i u r = fldR i u r := by
  unfold stepR
  rcases h with h | h
  · rw [show (i.kind == 2) = false from beq_eq_false_iff_ne.2 h, Bool.and_false]; rfl
  · rw [show (u == 8) = false from beq_eq_false_iff_ne.2 h]; rfl
theorem step_bad (i : Ins) (u : Int) (r : Rd) (h : r.bad = true) : (stepR i u r).2.bad = true := by
  unfold stepR
  cases (u == 8 && i.kind == 2 && !two i.op)
  · exact fld_bad i u r h
  · exact h
theorem steps_bad : ∀ (us : List Int) (i : Ins) (r : Rd), r.bad = true → (stepsR us i r).2.bad = true
  | [], _, _, h => h
  | u :: us, i, r, h => steps_bad us _ _ (step_bad i u r h)
theorem rf_steps : ∀ (us : List Int), (∀ u ∈ us, isU u) → ∀ i : Ins, (i.kind ≠ 2 ∨ 8 ∉ us) → Rf (stepsR us i) (fieldsO limT us i) id
  | [], _, i, _ => rf_ret i
  | u :: us, hu, i, hi => by
    intro r
    refine ⟨fun h => steps_bad _ i r h, fun l hl => ?_⟩
    have hs : stepR i u r = fldR i u r := stepR_fld (hi.imp id fun h e => h (by rw [e]; exact .head _)) r
    have h1 := (rf_fld i u (hu u (.head _)) r).2 l hl
    rw [show fieldsO limT (u :: us) i l = (match fieldO limT i u l with | none => none | some (i', l') => fieldsO limT us i' l') from rfl, show stepsR (u :: us) i r = stepsR us (stepR i u r).1 (stepR i u r).2 from rfl]
    rw [hs]
    cases hq : fieldO limT i u l with
    | none => rw [hq] at h1; exact steps_bad us _ _ h1
    | some p =>
      obtain ⟨b, l1⟩ := p
      rw [hq] at h1
      replace h1 : fldR i u r = (b, ⟨l1, false⟩) := h1
      rw [h1]
      have hk := field_kind (hu u (.head _)) hq
      exact (rf_steps us (fun v hv => hu v (.tail _ hv)) b (hi.imp (fun h => by rw [hk]; exact h) fun h e => h (.tail _ e)) ⟨l1, false⟩).2 l1 rfl
theorem kuse_isU {k : Nat} (hk : k ≤ 11) : ∀ u ∈ kuse (k : Int), isU u := by
  rcases kuse3_cases hk with rfl | rfl | rfl | rfl | rfl | rfl | rfl | rfl | rfl | rfl | rfl | rfl <;> simp [kuse, byK, kuses, isU]
theorem kuse3_isU {k : Nat} (hk : k ≤ 11) : ∀ u ∈ kuse3 (k : Int), isU u := by
  unfold kuse3
  split
  · simp [isU]
  · exact kuse_isU hk
def fieldsP (k : Nat) : PO Ins := fun l => match fieldsO limT (kuse3 k) { zeroI with kind := k } l with
  | none => none
  | some (i, l) => if i.kind = 2 ∧ two i.op = true then fieldO limT i 8 l else some (i, l)
theorem rf_fields {k : Nat} (hk : k ≤ 11) : Rf (fieldsR ⟨k, 0, 0, 0, 0, 0, 0, 0, 0⟩) (fieldsP k) id := by
  intro r
  refine ⟨fun h => steps_bad _ _ r h, fun l hl => ?_⟩
  by_cases h2 : k = 2
  · subst h2
    have h1 := (rf_steps [1, 2, 4] (by simp [isU]) ⟨2, 0, 0, 0, 0, 0, 0, 0, 0⟩ (.inr (by decide)) r).2 l hl
    rw [show fieldsP 2 l = (match fieldsO limT [1, 2, 4] ⟨2, 0, 0, 0, 0, 0, 0, 0, 0⟩ l with | none => none | some (i, l) => if i.kind = 2 ∧ two i.op = true then fieldO limT i 8 l else some (i, l)) from rfl, show fieldsR ⟨((2 : Nat) : Int), 0, 0, 0, 0, 0, 0, 0, 0⟩ r = stepR (stepsR [1, 2, 4] ⟨2, 0, 0, 0, 0, 0, 0, 0, 0⟩ r).1 8 (stepsR [1, 2, 4] ⟨2, 0, 0, 0, 0, 0, 0, 0, 0⟩ r).2 from rfl]
    cases hq : fieldsO limT [1, 2, 4] ⟨2, 0, 0, 0, 0, 0, 0, 0, 0⟩ l with
    | none => rw [hq] at h1; exact step_bad _ _ _ h1
    | some p =>
      obtain ⟨b, l1⟩ := p
      rw [hq] at h1
      replace h1 : stepsR [1, 2, 4] ⟨2, 0, 0, 0, 0, 0, 0, 0, 0⟩ r = (b, ⟨l1, false⟩) := h1
      rw [h1]
      have hb : b.kind = 2 := (fields_keep [1, 2, 4] (by simp [isU]) (i := ⟨2, 0, 0, 0, 0, 0, 0, 0, 0⟩) (by decide) hq).1
      simp only
      cases ht : two b.op
      · rw [if_neg (by simp)]
        unfold stepR
        rw [hb, ht]; rfl
      · rw [if_pos ⟨hb, rfl⟩]
        have : stepR b 8 ⟨l1, false⟩ = fldR b 8 ⟨l1, false⟩ := by unfold stepR; rw [ht, Bool.not_true, Bool.and_false]; rfl
        rw [this]
        exact (rf_fld b 8 (by decide) ⟨l1, false⟩).2 l1 rfl
  · have hk2 : ((k : Nat) : Int) ≠ 2 := by omega
    have h1 := (rf_steps (kuse k) (kuse_isU hk) ⟨k, 0, 0, 0, 0, 0, 0, 0, 0⟩ (.inl hk2) r).2 l hl
    have h3 : kuse3 (k : Int) = kuse k := by unfold kuse3; rw [if_neg hk2]
    unfold fieldsP
    rw [h3]
    rw [show ({ zeroI with kind := (k : Int) } : Ins) = ⟨k, 0, 0, 0, 0, 0, 0, 0, 0⟩ from rfl, show fieldsR ⟨(k : Int), 0, 0, 0, 0, 0, 0, 0, 0⟩ r = stepsR (kuse k) ⟨k, 0, 0, 0, 0, 0, 0, 0, 0⟩ r from rfl]
    cases hq : fieldsO limT (kuse k) ⟨k, 0, 0, 0, 0, 0, 0, 0, 0⟩ l with
    | none => rw [hq] at h1; exact h1
    | some p =>
      obtain ⟨b, l1⟩ := p
      rw [hq] at h1
      have hb : b.kind = (k : Int) := (fields_keep (kuse k) (kuse_isU hk) (i := ⟨k, 0, 0, 0, 0, 0, 0, 0, 0⟩) (show in64 0 by decide) hq).1
      simp only
      rw [if_neg (fun h => hk2 (hb ▸ h.1))]
      exact h1
theorem rf_ins : Rf insR (instrO limT) id := by
  intro r
  have hk := rf_small 11 r
  refine ⟨fun h => (rf_small 4096 _).1 (steps_bad _ _ _ (hk.1 h)), fun l hl => ?_⟩
  have h1 := hk.2 l hl
  have e : instrO limT l = match smallO 11 l with
    | none => none
    | some (k, l) => match fieldsP k l with
      | none => none
      | some (i, l) => match smallO 4096 l with
        | none => none
        | some (n, l) => some ({ i with from_ := n }, l) := by
    unfold instrO fieldsP
    cases smallO 11 l with
    | none => rfl
    | some p =>
      obtain ⟨k, l1⟩ := p
      simp only
      cases fieldsO limT (kuse3 k) { zeroI with kind := k } l1 <;> rfl
  rw [e]
  clear e
  cases hq : smallO 11 l with
  | none => rw [hq] at h1; exact (rf_small 4096 _).1 (steps_bad _ _ _ h1)
  | some p =>
    obtain ⟨k, l1⟩ := p
    rw [hq] at h1
    replace h1 : smallR (11 : Int) r = ((k : Int), ⟨l1, false⟩) := h1
    have hk := (smallO_inv hq).1
    have h2 := (rf_fields hk ⟨l1, false⟩).2 l1 rfl
    simp only
    unfold insR
    rw [h1]
    simp only
    cases hf : fieldsP k l1 with
    | none => rw [hf] at h2; exact (rf_small 4096 _).1 h2
    | some p =>
      obtain ⟨i, l2⟩ := p
      rw [hf] at h2
      replace h2 : fieldsR ⟨(k : Int), 0, 0, 0, 0, 0, 0, 0, 0⟩ ⟨l1, false⟩ = (i, ⟨l2, false⟩) := h2
      rw [h2]
      have h3 := (rf_small 4096 ⟨l2, false⟩).2 l2 rfl
      simp only
      cases hs : smallO 4096 l2 with
      | none => rw [hs] at h3; exact h3
      | some p =>
        obtain ⟨n, l3⟩ := p
        rw [hs] at h3
        replace h3 : smallR (4096 : Int) ⟨l2, false⟩ = ((n : Int), ⟨l3, false⟩) := h3
        simp only
        rw [h3]; rfl
theorem instr_word {L : Lim} {l r : List UInt8} {i : Ins} (h : instrO L l = some (i, r)) : in64 i.word := by
  obtain ⟨k, l1, l2, l3, i1, i2, n, hk, rfl, hf, hb, hn, rfl, rfl⟩ := instr_core h
  have h1 := (fields_keep _ (kuse3_isU hk) (i := { zeroI with kind := (k : Int) }) (show in64 0 by decide) hf).2
  show in64 i2.word
  split at hb
  · exact field_word (u := 8) (by decide) h1 hb
  · simp only [Option.some.injEq, Prod.mk.injEq] at hb
    obtain ⟨rfl, _⟩ := hb
    exact h1
theorem rf_core : Rf coreR (coreO fun _ => limT) id := by
  intro r
  have hn := rf_name r
  have hbad : ∀ x : Rd, x.bad = true → (codeR (smallR 16384 x).1.toNat (smallR 16384 x).2 []).2.bad = true := fun x hx => by
    have hb : (smallR (16384 : Int) x).2.bad = true := (rf_small 16384 x).1 hx
    rw [codeR_loop, loop_bad _ hb]; exact hb
  refine ⟨fun h => hbad _ (hn.1 h), fun l hl => ?_⟩
  have h1 := hn.2 l hl
  unfold coreO coreR
  cases hq : nameO l with
  | none => rw [hq] at h1; exact hbad _ h1
  | some p =>
    obtain ⟨s, l1⟩ := p
    rw [hq] at h1
    replace h1 : nameR r = (s, ⟨l1, false⟩) := h1
    rw [h1]
    have h2 := (rf_small 16384 ⟨l1, false⟩).2 l1 rfl
    simp only
    cases hs : smallO 16384 l1 with
    | none =>
      rw [hs] at h2
      replace h2 : (smallR (16384 : Int) ⟨l1, false⟩).2.bad = true := h2
      simp only
      rw [codeR_loop, loop_bad _ h2]; exact h2
    | some p =>
      obtain ⟨n, l2⟩ := p
      rw [hs] at h2
      replace h2 : smallR (16384 : Int) ⟨l1, false⟩ = ((n : Int), ⟨l2, false⟩) := h2
      rw [h2]
      have h3 := loop_ok rf_ins n l2 []
      simp only [Int.toNat_natCast]
      rw [codeR_loop]
      cases hr : repO (instrO limT) n l2 with
      | none => rw [hr] at h3; exact h3
      | some p =>
        obtain ⟨c, l3⟩ := p
        rw [hr] at h3
        replace h3 : loopR insR n ⟨l2, false⟩ [] = ([] ++ c, ⟨l3, false⟩) := h3
        rw [h3]; rfl
/-! objects -/
theorem rep_all {α : Type} {p : PO α} {P : α → Prop} (h : ∀ l a r, p l = some (a, r) → P a) : ∀ (n : Nat) (l : List UInt8) (x : List α) (r : List UInt8), repO p n l = some (x, r) → ∀ a ∈ x, P a
  | 0, l, x, r, h1 => by
    have h1 : some ([], l) = some (x, r) := h1
    simp only [Option.some.injEq, Prod.mk.injEq] at h1
    obtain ⟨rfl, rfl⟩ := h1
    intro a ha; cases ha
  | n + 1, l, x, r, h1 => by
    have h1 : (match p l with | none => none | some (a, l) => match repO p n l with | none => none | some (x, r) => some (a :: x, r)) = some (x, r) := h1
    split at h1
    · cases h1
    rename_i a l1 ha
    split at h1
    · cases h1
    rename_i x' r' hr
    simp only [Option.some.injEq, Prod.mk.injEq] at h1
    obtain ⟨rfl, rfl⟩ := h1
    intro b hb
    rcases List.mem_cons.1 hb with rfl | hb
    · exact h _ _ _ ha
    · exact rep_all h n _ _ _ hr b hb
theorem core_rng {L : Nat → Lim} {l r : List UInt8} {c : Cor} (h : coreO L l = some (c, r)) : ∀ i ∈ c.code, in64 i.word := by
  unfold coreO at h
  split at h
  · cases h
  split at h
  · cases h
  split at h
  · cases h
  rename_i cc l3 h3
  simp only [Option.some.injEq, Prod.mk.injEq] at h
  obtain ⟨rfl, _⟩ := h
  exact rep_all (fun l a r h => instr_word h) _ _ _ _ h3
theorem ob_rng {L : Nat → Nat → Lim} {l r : List UInt8} {o : Ob} (h : obO L l = some (o, r)) : Rng o := by
  unfold obO at h
  split at h
  case isFalse => cases h
  split at h
  · cases h
  split at h
  · cases h
  split at h
  · cases h
  split at h
  · cases h
  split at h
  · cases h
  rename_i m l5 h5
  split at h
  · cases h
  split at h
  · cases h
  rename_i cs l7 h7
  simp only [Option.some.injEq, Prod.mk.injEq] at h
  obtain ⟨rfl, _⟩ := h
  exact ⟨rep_all (fun l a r h => (wordO_inv h).1) _ _ _ _ h5, rep_all (fun l a r h => core_rng h) _ _ _ _ h7⟩
def limTT : Nat → Nat → Lim := fun _ _ => limT
theorem sm_bad (n : Nat) {r : Rd} (h : r.bad = true) : (smallR (n : Int) r).2.bad = true := (rf_small n r).1 h
theorem dec_bad3 (n : Int) (r : Rd) (h : r.bad = true) : ∀ acc, (coresR n.toNat r acc).2.bad = true := fun acc => by rw [coresR_loop, loop_bad _ h]; exact h
theorem dec_bad2 (m : Rd) (h : m.bad = true) : (coresR (smallR 8 m).1.toNat (smallR 8 m).2 []).2.bad = true := dec_bad3 _ _ (sm_bad 8 h) _
theorem dec_bad1 (n : Int) (r : Rd) (h : r.bad = true) : (coresR (smallR 8 (memR n.toNat r []).2).1.toNat (smallR 8 (memR n.toNat r []).2).2 []).2.bad = true := by
  refine dec_bad2 _ ?_
  rw [memR_loop, loop_bad _ h]; exact h
theorem dec_bad0 (r : Rd) (h : r.bad = true) : (coresR (smallR 8 (memR (smallR 4096 r).1.toNat (smallR 4096 r).2 []).2).1.toNat (smallR 8 (memR (smallR 4096 r).1.toNat (smallR 4096 r).2 []).2).2 []).2.bad = true := dec_bad1 _ _ (sm_bad 4096 h)
theorem rf_dec (l : List UInt8) : match obO limTT (magicL ++ l) with
    | none => (decH ⟨l, false⟩).2.bad = true
    | some (o, l') => decH ⟨l, false⟩ = (o, ⟨l', false⟩) := by
  unfold obO decH
  rw [if_pos (show List.take 4 (magicL ++ _) = magicL from rfl), show List.drop 4 (magicL ++ l) = l from rfl]
  have h1 := (rf_small 64 ⟨l, false⟩).2 l rfl
  cases q1 : smallO 64 l with
  | none => rw [q1] at h1; exact dec_bad0 _ (sm_bad 16 (sm_bad 16 h1))
  | some p =>
  obtain ⟨a, l1⟩ := p
  rw [q1] at h1
  replace h1 : smallR (64 : Int) ⟨l, false⟩ = ((a : Int), ⟨l1, false⟩) := h1
  simp only [h1]
  have h2 := (rf_small 16 ⟨l1, false⟩).2 l1 rfl
  cases q2 : smallO 16 l1 with
  | none => rw [q2] at h2; exact dec_bad0 _ (sm_bad 16 h2)
  | some p =>
  obtain ⟨b, l2⟩ := p
  rw [q2] at h2
  replace h2 : smallR (16 : Int) ⟨l1, false⟩ = ((b : Int), ⟨l2, false⟩) := h2
  simp only [h2]
  have h3 := (rf_small 16 ⟨l2, false⟩).2 l2 rfl
  cases q3 : smallO 16 l2 with
  | none => rw [q3] at h3; exact dec_bad0 _ h3
  | some p =>
  obtain ⟨c, l3⟩ := p
  rw [q3] at h3
  replace h3 : smallR (16 : Int) ⟨l2, false⟩ = ((c : Int), ⟨l3, false⟩) := h3
  simp only [h3]
  have h4 := (rf_small 4096 ⟨l3, false⟩).2 l3 rfl
  cases q4 : smallO 4096 l3 with
  | none => rw [q4] at h4; exact dec_bad1 _ _ h4
  | some p =>
  obtain ⟨n, l4⟩ := p
  rw [q4] at h4
  replace h4 : smallR (4096 : Int) ⟨l3, false⟩ = ((n : Int), ⟨l4, false⟩) := h4
  simp only [h4, Int.toNat_natCast]
  have h5 := loop_ok rf_word n l4 []
  rw [← memR_loop] at h5
  cases q5 : repO wordO n l4 with
  | none => rw [q5] at h5; exact dec_bad2 _ h5
  | some p =>
  obtain ⟨m, l5⟩ := p
  rw [q5] at h5
  replace h5 : memR n ⟨l4, false⟩ [] = (m, ⟨l5, false⟩) := h5
  simp only [h5]
  have h6 := (rf_small 8 ⟨l5, false⟩).2 l5 rfl
  cases q6 : smallO 8 l5 with
  | none => rw [q6] at h6; exact dec_bad3 _ _ h6 _
  | some p =>
  obtain ⟨k, l6⟩ := p
  rw [q6] at h6
  replace h6 : smallR (8 : Int) ⟨l5, false⟩ = ((k : Int), ⟨l6, false⟩) := h6
  simp only [h6, Int.toNat_natCast]
  have h7 := loop_ok rf_core k l6 []
  rw [← coresR_loop] at h7
  show match (match repO (coreO fun _ => limT) k l6 with | none => none | some (cs, l) => some ((⟨m, a, b, c, cs⟩ : Ob), l)) with
    | none => (coresR k ⟨l6, false⟩ []).2.bad = true
    | some (o, l') => ((⟨m, a, b, c, (coresR k ⟨l6, false⟩ []).1⟩ : Ob), (coresR k ⟨l6, false⟩ []).2) = (o, ⟨l', false⟩)
  cases q7 : repO (coreO fun _ => limT) k l6 with
  | none => rw [q7] at h7; exact h7
  | some p =>
  obtain ⟨cs, l7⟩ := p
  rw [q7] at h7
  replace h7 : coresR k ⟨l6, false⟩ [] = (cs, ⟨l7, false⟩) := h7
  simp only [h7]
theorem loop_data (s : ByteArray) : ∀ (n i : Nat) (r : List UInt8), s.size - i = n → ByteArray.toList.loop s i r = r.reverse ++ s.data.toList.drop i := by
  intro n
  induction n with
  | zero =>
    intro i r h
    unfold ByteArray.toList.loop
    rw [if_neg (by omega), List.drop_eq_nil_of_le (by have := dat_len s; omega), List.append_nil]
  | succ n ih =>
    intro i r h
    unfold ByteArray.toList.loop
    rw [if_pos (by omega), ih (i + 1) _ (by omega)]
    have hi : i < s.data.toList.length := by have := dat_len s; omega
    have hg : s.get! i = s.data.toList[i] := by
      show s.data[i]! = _
      rw [getElem!_pos s.data i (by have : s.data.size = s.size := rfl; omega)]
      simp
    rw [List.drop_eq_getElem_cons hi, List.reverse_cons, List.append_assoc, hg]; rfl
theorem toList_data (s : ByteArray) : s.toList = s.data.toList := by
  unfold ByteArray.toList
  rw [loop_data s (s.size - 0) 0 [] rfl]; simp
theorem decS_cases (l : List UInt8) : (∃ o, obO limTT l = some (o, []) ∧ (checkO o).1 = 0 ∧ decS l = (o, 0)) ∨ (decS l = (emptyO, 162) ∧ ∀ o, obO limTT l = some (o, []) → (checkO o).1 ≠ 0) := by
  by_cases hm : l.take 4 = magicL
  · have hl : l = magicL ++ l.drop 4 := by rw [← hm, List.take_append_drop]
    have hlen : 4 ≤ l.length := by
      have := congrArg List.length hm
      rw [List.length_take] at this
      simp only [magicL, List.length_cons, List.length_nil] at this; omega
    have hd : decS l = decF (decH ⟨l.drop 4, false⟩) := by
      unfold decS
      rw [hm, show decide ((l.length : Int) < 4) = false from decide_eq_false (by omega), show seq ⟨magicL.toArray⟩ ⟨#[115, 116, 105, 108]⟩ = true by unfold seq; rw [toList_data, toList_data]; rfl]
      rfl
    have hr := rf_dec (l.drop 4)
    rw [← hl] at hr
    rw [hd]
    cases hq : obO limTT l with
    | none =>
      rw [hq] at hr
      refine .inr ⟨?_, fun o h => by cases h⟩
      unfold decF
      rw [show (decH ⟨l.drop 4, false⟩).2.bad = true from hr, Bool.or_true, Bool.true_or]; rfl
    | some p =>
      obtain ⟨o, r⟩ := p
      rw [hq] at hr
      replace hr : decH ⟨l.drop 4, false⟩ = (o, ⟨r, false⟩) := hr
      rw [hr]
      by_cases hc : (checkO o).1 = 0
      · cases r with
        | nil =>
          refine .inl ⟨o, rfl, hc, ?_⟩
          unfold decF
          simp only [hc]; rfl
        | cons x r =>
          refine .inr ⟨?_, fun o' h => by simp at h⟩
          unfold decF
          simp only [hc]
          rw [show decide ((((x :: r).length : Nat) : Int) > 0) = true from decide_eq_true (by rw [List.length_cons]; omega), Bool.or_true]; rfl
      · refine .inr ⟨?_, fun o' h => ?_⟩
        · unfold decF
          simp only
          rw [show ((checkO o).1 != 0) = true by simpa using hc]; rfl
        · simp only [Option.some.injEq, Prod.mk.injEq] at h
          rw [← h.1]; exact hc
  · refine .inr ⟨?_, fun o h => ?_⟩
    · unfold decS
      have : (!seq ⟨(l.take 4).toArray⟩ ⟨#[115, 116, 105, 108]⟩) = true := by
        rw [Bool.not_eq_true']
        unfold seq
        rw [toList_data, toList_data, beq_eq_false_iff_ne]
        exact hm
      rw [this, Bool.or_true]; rfl
    · unfold obO at h
      rw [if_neg hm] at h; cases h
end Go.Proofs.YtffhoknkfohfgaaDoor.am

namespace Go.Proofs.YtffhoknkfohfgaaDoor.am
open Go Go.Proofs
def mkB (l : List UInt8) : ByteArray := ⟨l.toArray⟩
theorem mkB_data (l : List UInt8) : (mkB l).data.toList = l := by simp [mkB]
theorem ba_ext {a b : ByteArray} (h : a.data.toList = b.data.toList) : a = b := by
  obtain ⟨⟨a⟩⟩ := a
  obtain ⟨⟨b⟩⟩ := b
  have : a = b := h
  rw [this]
theorem ib_at {c : UInt8} : ∀ (w r : List UInt8), c ∉ w → Lib.indexByte (w ++ c :: r) c = w.length
  | [], r, _ => by
    show (if (c == c) then (0 : Int) else _) = 0
    rw [if_pos (by simp)]
  | b :: w, r, h => by
    have hb : ¬ (b == c) = true := fun e => h (by rw [beq_iff_eq.1 e]; exact .head _)
    have ih := ib_at w r fun e => h (.tail _ e)
    show (if (b == c) then (0 : Int) else if Lib.indexByte (w ++ c :: r) c == -1 then -1 else Lib.indexByte (w ++ c :: r) c + 1) = _
    rw [if_neg hb, ih, if_neg (by rw [beq_iff_eq]; omega), List.length_cons]; omega
theorem ib_none {c : UInt8} : ∀ (w : List UInt8), c ∉ w → Lib.indexByte w c = -1
  | [], _ => rfl
  | b :: w, h => by
    have hb : ¬ (b == c) = true := fun e => h (by rw [beq_iff_eq.1 e]; exact .head _)
    have ih := ib_none w fun e => h (.tail _ e)
    show (if (b == c) then (0 : Int) else if Lib.indexByte w c == -1 then -1 else Lib.indexByte w c + 1) = _
    rw [if_neg hb, ih]; rfl
/-! words -/
def jn : List (List UInt8) → List UInt8
  | [] => []
  | [w] => w
  | w :: v :: r => w ++ 32 :: jn (v :: r)
theorem cutAt (c : UInt8) : ∀ l : List UInt8, c ∉ l ∨ ∃ w r, c ∉ w ∧ l = w ++ c :: r
  | [] => .inl (by simp)
  | b :: l => by
    by_cases hb : b = c
    · exact .inr ⟨[], l, by simp, by rw [hb]; rfl⟩
    · rcases cutAt c l with h | ⟨w, r, h1, h2⟩
      · exact .inl (by simp only [List.mem_cons, not_or]; exact ⟨fun e => hb e.symm, h⟩)
      · exact .inr ⟨b :: w, r, by simp only [List.mem_cons, not_or]; exact ⟨fun e => hb e.symm, h1⟩, by rw [h2]; rfl⟩
/-! lines -/
def unl (ls : List (List UInt8)) : List UInt8 := ls.flatMap (· ++ [10])
theorem lines_ex : ∀ (n : Nat) (l : List UInt8), l.length ≤ n → ∃ ls tl, (∀ x ∈ ls, 10 ∉ x) ∧ 10 ∉ tl ∧ l = unl ls ++ tl
  | n, l, hn => by
    rcases cutAt 10 l with h | ⟨w, r, h1, h2⟩
    · exact ⟨[], l, by simp, h, rfl⟩
    · cases n with
      | zero => rw [h2] at hn; simp at hn
      | succ n =>
        obtain ⟨ls, tl, e1, e2, e3⟩ := lines_ex n r (by rw [h2] at hn; simp at hn; omega)
        refine ⟨w :: ls, tl, fun x hx => ?_, e2, ?_⟩
        · rcases List.mem_cons.1 hx with rfl | hx
          · exact h1
          · exact e1 x hx
        · rw [h2, e3]; simp [unl]
theorem ext_data (s : ByteArray) (a b : Nat) : (s.extract a b).data.toList = (s.data.toList.take b).drop a := by
  rw [ByteArray.data_extract, Array.toList_extract]
  simp [List.extract, List.drop_take]
theorem ext_end (s : ByteArray) (a : Nat) : (s.extract a s.size).data.toList = s.data.toList.drop a := by
  rw [ext_data, List.take_of_length_le (by have := dat_len s; omega)]
theorem lnl_at {s : ByteArray} {at_ : Nat} {w r : List UInt8} (h : s.data.toList.drop at_ = w ++ 10 :: r) (hw : 10 ∉ w) : lnl s at_ = (w.length : Int) := by
  unfold lnl idxB
  rw [ext_end, h]
  exact ib_at w r hw
theorem lnl_no {s : ByteArray} {at_ : Nat} (h : 10 ∉ s.data.toList.drop at_) : lnl s at_ = -1 := by
  unfold lnl idxB
  rw [ext_end]
  exact ib_none _ h
theorem line_at {s : ByteArray} {at_ : Nat} {w r : List UInt8} (h : s.data.toList.drop at_ = w ++ 10 :: r) : s.extract at_ (at_ + w.length) = mkB w := by
  apply ba_ext
  rw [ext_data, mkB_data, ← List.take_drop, h, List.take_append_of_le_length (Nat.le_refl _), List.take_of_length_le (Nat.le_refl _)]
theorem next_at {s : ByteArray} {at_ : Nat} {w r : List UInt8} (h : s.data.toList.drop at_ = w ++ 10 :: r) : s.data.toList.drop (at_ + w.length + 1) = r := by
  rw [Nat.add_assoc, ← List.drop_drop, h, List.drop_append]
  simp
theorem drop_lt {s : ByteArray} {at_ : Nat} {b : UInt8} {r : List UInt8} (h : s.data.toList.drop at_ = b :: r) : at_ < s.size := by
  have h1 := congrArg List.length h
  have := dat_len s
  rw [List.length_drop, List.length_cons] at h1; omega
/-- the lines behind the second -/
def runC : List (List UInt8) → List Cor → Option (List Cor)
  | [], cs => some cs
  | l :: ls, cs => match furtherS cs (mkB l) with
    | none => none
    | some cs' => runC ls cs'
theorem unl_cons (l : List UInt8) (ls : List (List UInt8)) (tl : List UInt8) : unl (l :: ls) ++ tl = l ++ 10 :: (unl ls ++ tl) := by simp [unl]
theorem parseG_run (s : ByteArray) : ∀ (ls : List (List UInt8)) (tl : List UInt8) (at_ : Nat) (cs : List Cor), (∀ x ∈ ls, 10 ∉ x) → 10 ∉ tl → at_ ≤ s.size → s.data.toList.drop at_ = unl ls ++ tl →
    (tl = [] ∧ ∃ cs', runC ls cs = some cs' ∧ parseG s (s.size - at_) at_ cs = (cs', none)) ∨ ((tl ≠ [] ∨ runC ls cs = none) ∧ ∃ p : Nat, p ≤ s.size ∧ parseG s (s.size - at_) at_ cs = ([], some p))
  | [], tl, at_, cs, _, htl, hat, hd => by
    have hd : s.data.toList.drop at_ = tl := hd
    cases tl with
    | nil =>
      have hge : s.size ≤ at_ := by have := congrArg List.length hd; have := dat_len s; rw [List.length_drop] at *; simp at *; omega
      exact .inl ⟨rfl, cs, rfl, parseG_end hge _⟩
    | cons b tl =>
      have hlt := drop_lt hd
      refine .inr ⟨.inl (by simp), at_, hat, ?_⟩
      rw [parseG_at hlt, lnl_no (by rw [hd]; exact htl)]; rfl
  | l :: ls, tl, at_, cs, hls, htl, hat, hd => by
    rw [unl_cons] at hd
    have hl := hls l (.head _)
    have hlt : at_ < s.size := by
      cases l with
      | nil => exact drop_lt hd
      | cons b l => exact drop_lt hd
    have hn := next_at hd
    have hlen := congrArg List.length hd
    have hdl := dat_len s
    rw [List.length_drop, List.length_append, List.length_cons] at hlen
    rw [parseG_at hlt, lnl_at hd hl, show decide ((l.length : Int) < 0) = false from decide_eq_false (by omega), Int.toNat_natCast, line_at hd]
    show (_ ∧ ∃ cs', runC (l :: ls) cs = some cs' ∧ (match furtherS cs (mkB l) with | none => ([], some at_) | some cs' => parseG s (s.size - at_ - 1) (at_ + l.length + 1) cs') = _) ∨ (_ ∧ ∃ p : Nat, _ ∧ (match furtherS cs (mkB l) with | none => ([], some at_) | some cs' => parseG s (s.size - at_ - 1) (at_ + l.length + 1) cs') = _)
    have hr : runC (l :: ls) cs = match furtherS cs (mkB l) with | none => none | some cs' => runC ls cs' := rfl
    rw [hr]
    cases hf : furtherS cs (mkB l) with
    | none => exact .inr ⟨.inr rfl, at_, hat, rfl⟩
    | some cs' =>
      have := parseG_run s ls tl (at_ + l.length + 1) cs' (fun x hx => hls x (.tail _ hx)) htl (by omega) hn
      simp only
      rw [parseG_fuel s (s.size - at_ - 1) (s.size - (at_ + l.length + 1)) _ _ (by omega) (by omega)]
      exact this
/-- what a text comes to, by its lines -/
def runP : List (List UInt8) → Option Ob
  | h :: m :: ls => match headL (splitBl (mkB h)), memL (splitBl (mkB m)), runC ls [] with
    | some (a, b, c), some mem, some cs => some ⟨mem, a, b, c, cs⟩
    | _, _, _ => none
  | _ => none
theorem parse_lines {s : ByteArray} {ls : List (List UInt8)} {tl : List UInt8} (hs : s.data.toList = unl ls ++ tl) (hls : ∀ x ∈ ls, 10 ∉ x) (htl : 10 ∉ tl) (hsz : s.size ≤ 16777216) :
    (tl = [] ∧ ∃ o, runP ls = some o ∧ parseS s = doneP o) ∨ ((tl ≠ [] ∨ runP ls = none) ∧ ∃ p : Nat, p ≤ s.size ∧ parseS s = (emptyO, 161, (p : Int))) := by
  have hpS : parseS s = parseH s := by unfold parseS; rw [show decide ((s.size : Int) > 16777216) = false from decide_eq_false (by omega)]; rfl
  rw [hpS]
  unfold parseH
  cases ls with
  | nil =>
    have hd : s.data.toList.drop 0 = tl := hs
    refine .inr ⟨.inr rfl, 0, Nat.zero_le _, ?_⟩
    rw [lnl_no (by rw [hd]; exact htl)]; rfl
  | cons h ls =>
    have hd : s.data.toList.drop 0 = h ++ 10 :: (unl ls ++ tl) := by rw [List.drop_zero, hs, unl_cons]
    have hn := next_at hd
    rw [lnl_at hd (hls h (.head _)), show decide ((h.length : Int) < 0) = false from decide_eq_false (by omega), Int.toNat_natCast, line_at hd]
    simp only [cond_false]
    have hlen := congrArg List.length hd
    have hdl := dat_len s
    rw [List.drop_zero, List.length_append, List.length_cons] at hlen
    generalize hA : 0 + h.length + 1 = A at hn ⊢
    cases hh : headL (splitBl (mkB h)) with
    | none => exact .inr ⟨.inr (by cases ls <;> simp [runP, hh]), 0, Nat.zero_le _, rfl⟩
    | some v =>
      obtain ⟨a, b, c⟩ := v
      simp only
      unfold parseM
      cases ls with
      | nil =>
        have hn : s.data.toList.drop A = tl := hn
        refine .inr ⟨.inr rfl, A, by omega, ?_⟩
        rw [lnl_no (by rw [hn]; exact htl)]; rfl
      | cons m ls =>
        rw [unl_cons] at hn
        have hn2 := next_at hn
        have hlen2 := congrArg List.length hn
        rw [List.length_drop, List.length_append, List.length_cons] at hlen2
        rw [lnl_at hn (hls m (.tail _ (.head _))), show decide ((m.length : Int) < 0) = false from decide_eq_false (by omega), Int.toNat_natCast, line_at hn]
        simp only [cond_false]
        cases hm : memL (splitBl (mkB m)) with
        | none => exact .inr ⟨.inr (by simp [runP, hh, hm]), A, by omega, rfl⟩
        | some mem =>
          simp only
          rcases parseG_run s ls tl (A + m.length + 1) [] (fun x hx => hls x (.tail _ (.tail _ hx))) htl (by omega) hn2 with ⟨e1, cs, e2, e3⟩ | ⟨e1, p, e2, e3⟩
          · exact .inl ⟨e1, ⟨mem, a, b, c, cs⟩, by simp [runP, hh, hm, e2], by rw [e3]; rfl⟩
          · refine .inr ⟨e1.imp id fun e => by simp [runP, hh, hm, e], p, e2, by rw [e3]; rfl⟩
/-- a text that ends within a line is none -/
theorem parse_within {s : ByteArray} (hsz : s.size ≤ 16777216) (h : s.data.toList = [] ∨ ∃ r b, s.data.toList = r ++ [b] ∧ b ≠ 10) : ∃ p : Nat, p ≤ s.size ∧ parseS s = (emptyO, 161, (p : Int)) := by
  obtain ⟨ls, tl, h1, h2, h3⟩ := lines_ex _ s.data.toList (Nat.le_refl _)
  rcases parse_lines h3 h1 h2 hsz with ⟨e1, o, e2, _⟩ | ⟨_, e⟩
  · exfalso
    subst e1
    rw [List.append_nil] at h3
    rcases h with h | ⟨r, b, h, hb⟩
    · rw [h] at h3
      cases ls with
      | nil => simp [runP] at e2
      | cons x ls => simp [unl] at h3
    · rw [h] at h3
      have hls : ls ≠ [] := fun e => by rw [e] at h3; simp [unl] at h3
      obtain ⟨x, hx⟩ : ∃ x, x = ls.getLast hls := ⟨_, rfl⟩
      have hl := List.dropLast_concat_getLast hls
      rw [← hx] at hl
      rw [← hl] at h3
      have : unl (ls.dropLast ++ [x]) = (unl ls.dropLast ++ x) ++ [10] := by simp [unl]
      rw [this] at h3
      have := congrArg List.getLast? h3
      simp at this
      exact hb this
  · exact e
end Go.Proofs.YtffhoknkfohfgaaDoor.am

namespace Go.Proofs.YtffhoknkfohfgaaDoor.am
open Go Go.Proofs
/-! numbers -/
/-! fields -/
def ndp : List Int → Prop
  | [] => True
  | u :: us => (u = 0 ∨ u ∉ us) ∧ ndp us
def skip (all u : Int) : Bool := band u all == 0 || u == 1
end Go.Proofs.YtffhoknkfohfgaaDoor.am

namespace Go.Proofs.YtffhoknkfohfgaaDoor.am
open Go Go.Proofs
def prnCs (cs : List Cor) : List UInt8 := cs.flatMap coreP
end Go.Proofs.YtffhoknkfohfgaaDoor.am

namespace Go.Proofs.YtffhoknkfohfgaaDoor.am
open Go Go.Proofs
/-! characters -/
/-- a byte of a word: neither a blank, nor a line's end, nor @ -/
def okc (c : UInt8) : Prop := c ≠ 32 ∧ c ≠ 10 ∧ c ≠ 64
def okw (s : ByteArray) : Prop := ∀ c ∈ s.data.toList, okc c
instance (c : UInt8) : Decidable (okc c) := by unfold okc; infer_instance
/-! kinds -/
/-! fields -/
/-- an instruction's words but for where it comes from -/
def bodyW (i : Ins) : List ByteArray := (bif seq (kword i.kind) ⟨#[]⟩ then [] else [kword i.kind]) ++ fieldsW i
end Go.Proofs.YtffhoknkfohfgaaDoor.am

namespace Go.Proofs.YtffhoknkfohfgaaDoor.am
open Go Go.Proofs
theorem op_right {i : Ins} {code mem : Int} (hR : RightF i code mem) (h2 : i.kind = 2) : 1 ≤ i.op ∧ i.op ≤ 18 := by
  refine hR.op.2 ?_
  rw [h2]
  unfold usedM
  generalize two i.op = t
  cases t <;> decide
/-! lines -/
def free (s : ByteArray) : Prop := 32 ∉ s.data.toList ∧ 10 ∉ s.data.toList
theorem okw.free {s : ByteArray} (h : okw s) : free s := ⟨fun hc => (h _ hc).1 rfl, fun hc => (h _ hc).2.1 rfl⟩
def textLn (i : Ins) : List UInt8 := (textB i).data.toList
def coreLn (n : ByteArray) : List UInt8 := jn [coreW.data.toList, n.data.toList]
def coreLns (c : Cor) : List (List UInt8) := coreLn c.name :: c.code.map textLn
def headLn (o : Ob) : List UInt8 := jn [objW.data.toList, ws.prn o.shared, ws.prn o.locks, ws.prn o.buffer]
def memLn (o : Ob) : List UInt8 := jn (memW.data.toList :: o.memory.map ws.prn)
def linesOf (o : Ob) : List (List UInt8) := headLn o :: memLn o :: o.cores.flatMap coreLns
/-! sizes -/
theorem iok_right {i : Ins} {code mem : Int} (hc : code ≤ 16384) (hm : mem ≤ 4096) (hR : RightF i code mem) (hw : in64 i.word) : IOk i := by
  have z : ∀ {P : Prop} {x b : Int}, (P → x = 0) ∧ (¬ P → 0 ≤ x ∧ x < b) → b ≤ 16384 → 0 ≤ x ∧ x ≤ 16384 := fun {P x b} h hb => by
    by_cases hp : P
    · have := h.1 hp; omega
    · have := h.2 hp; omega
  have hd := z hR.d (by decide)
  have ha := z hR.a (by decide)
  have hb := z hR.b (by decide)
  have h1 := z hR.addr (by omega)
  have h2 := z hR.to_ hc
  have hk := hR.kind
  have hf := hR.from_
  have ho : 0 ≤ i.op ∧ i.op ≤ 18 := by
    by_cases hp : band (usedM i.kind i.op) 1 = 0
    · have := hR.op.1 hp; omega
    · have := hR.op.2 hp; omega
  exact ⟨by omega, by omega, by omega, by omega, by omega, hw, by omega, by omega, by omega⟩
theorem insP_len {i : Ins} (hi : IOk i) (hk : 1 ≤ i.kind ∧ i.kind < 11) : (insP i).length ≤ 116 := by
  have := text_len hi hk
  unfold insP
  rw [dat_len, size_add]
  have : (⟨#[10]⟩ : ByteArray).size = 1 := rfl
  omega
theorem prnO_len {o : Ob} (hG : Good o) (hR : Rng o) : (prnO o).size ≤ 16777216 := by
  have hm4 := hG.mem
  have hc8 := hG.cores
  have e : (prnO o).size = (prnL o).length := by show (prnL o).toArray.size = _; simp
  rw [e]
  have h1 := flat_len memP 22 o.memory fun w hw => by
    have := prn_len (hR.mem w hw).1 (hR.mem w hw).2
    unfold memP
    rw [dat_len, size_add]
    have : (⟨#[32]⟩ : ByteArray).size = 1 := rfl
    omega
  have h2 := flat_len coreP 1900582 o.cores fun c hc => by
    have h3 := flat_len insP 116 c.code fun i hi => insP_len (iok_right (by have := (hG.code c hc).2; omega) (by omega) (right_inv (hG.right c hc i hi)) (hR.word c hc i hi)) (right_inv (hG.right c hc i hi)).kind
    have h4 := (hG.code c hc).2
    have h5 := name_le (hG.name c hc)
    unfold coreP
    rw [List.length_append, dat_len, size_add, size_add]
    have : (⟨#[99, 111, 114, 101, 32]⟩ : ByteArray).size = 5 := rfl
    have : (⟨#[10]⟩ : ByteArray).size = 1 := rfl
    omega
  have h3 : (headP o).data.toList.length ≤ 100 := by
    have g1 := hG.shared
    have g2 := hG.locks
    have g3 := hG.buffer
    have p1 := prn_len (n := o.shared) (by omega) (by omega)
    have p2 := prn_len (n := o.locks) (by omega) (by omega)
    have p3 := prn_len (n := o.buffer) (by omega) (by omega)
    have z1 : (⟨#[111, 98, 106, 101, 99, 116, 32]⟩ : ByteArray).size = 7 := rfl
    have z2 : (⟨#[32]⟩ : ByteArray).size = 1 := rfl
    have z3 : (⟨#[10, 109, 101, 109, 111, 114, 121]⟩ : ByteArray).size = 7 := rfl
    simp only [dat_len, headP, size_add, z1, z2, z3]; omega
  unfold prnL
  simp only [List.length_append, List.length_cons, List.length_nil]
  omega
end Go.Proofs.YtffhoknkfohfgaaDoor.am

namespace Go.Proofs.YtffhoknkfohfgaaDoor.am
open Go Go.Proofs
theorem limT_ok {code mem : Int} (hc : code ≤ 16384) (hm : mem ≤ 4096) : LimOk limT code mem := ⟨by decide, by decide, by show mem ≤ 16384; omega, by show code ≤ 16384; omega, by decide, by decide, by decide, by decide⟩
theorem vari_one {n : Nat} (h : n < 128) (f : Nat) : (vari (f + 1) n).length = 1 := by rw [vari_lt h]; rfl
theorem nu1 {x : Int} (h : 0 ≤ x ∧ x < 128) : (nuB x).length = 1 := by
  rw [nuB_nat h.1 (by omega)]
  exact vari_one (by omega) 8
theorem nu2 {x : Int} (h : 0 ≤ x ∧ x < 16384) : (nuB x).length ≤ 2 := by
  rw [nuB_nat h.1 (by omega)]
  by_cases h1 : x.toNat < 128
  · rw [vari_one h1 8]; omega
  · rw [vari_ge (by omega), List.length_cons, vari_one (by omega) 7]; omega
theorem fieldE_zero (i : Ins) : fieldE i 0 = [] := rfl
theorem insE_len {i : Ins} {code mem : Int} (hR : RightF i code mem) : (insE i).length ≤ 24 := by
  have hk := hR.kind
  have h1 := nu1 (x := i.kind) (by omega)
  have h2 := nu2 (x := i.from_) (by have := hR.from_; omega)
  have h3 : (fieldsE i).length ≤ 20 := by
    have z : ∀ {P : Prop} {x : Int}, (P → x = 0) ∧ (¬ P → 0 ≤ x ∧ x < 16) → 0 ≤ x ∧ x < 128 := fun {P x} h => by
      by_cases hp : P
      · have := h.1 hp; omega
      · have := h.2 hp; omega
    by_cases hk2 : i.kind = 2
    · have ho := nu1 (x := i.op) (by have := op_right hR hk2; omega)
      have hd := nu1 (z hR.d)
      have ha := nu1 (z hR.a)
      have hb := nu1 (z hR.b)
      have e1 : fieldE i 1 = nuB i.op := rfl
      have e2 : fieldE i 2 = nuB i.d := rfl
      have e4 : fieldE i 4 = nuB i.a := rfl
      have e8 : fieldE i 8 = nuB i.b := rfl
      unfold fieldsE
      rw [hk2]
      cases two i.op
      · show ([1, 2, 4].flatMap (fieldE i)).length ≤ 20
        simp [e1, e2, e4, ho, hd, ha]
      · show ([1, 2, 4, 8].flatMap (fieldE i)).length ≤ 20
        simp [e1, e2, e4, e8, ho, hd, ha, hb]
    · unfold fieldsE
      rw [show (i.kind == 2) = false from beq_eq_false_iff_ne.2 hk2, Bool.false_and, cond_false]
      have f := fun u => fieldE_len i u
      have f2 := f 2
      have f4 := f 4
      have f16 := f 16
      have f32 := f 32
      have f64 := f 64
      have hc : i.kind = 1 ∨ i.kind = 3 ∨ i.kind = 4 ∨ i.kind = 5 ∨ i.kind = 6 ∨ i.kind = 7 ∨ i.kind = 8 ∨ i.kind = 9 ∨ i.kind = 10 := by omega
      rcases hc with h | h | h | h | h | h | h | h | h <;> rw [h]
      · show ([2, 64, 0, 0].flatMap (fieldE i)).length ≤ 20
        simp [fieldE_zero]; omega
      · show ([2, 16, 0, 0].flatMap (fieldE i)).length ≤ 20
        simp [fieldE_zero]; omega
      · show ([4, 16, 0, 0].flatMap (fieldE i)).length ≤ 20
        simp [fieldE_zero]; omega
      · show ([2, 16, 0, 0].flatMap (fieldE i)).length ≤ 20
        simp [fieldE_zero]; omega
      · show ([0, 0, 0, 0].flatMap (fieldE i)).length ≤ 20
        simp [fieldE_zero]
      · show ([4, 0, 0, 0].flatMap (fieldE i)).length ≤ 20
        simp [fieldE_zero]; omega
      · show ([32, 0, 0, 0].flatMap (fieldE i)).length ≤ 20
        simp [fieldE_zero]; omega
      · show ([4, 32, 0, 0].flatMap (fieldE i)).length ≤ 20
        simp [fieldE_zero]; omega
      · show ([0, 0, 0, 0].flatMap (fieldE i)).length ≤ 20
        simp [fieldE_zero]
  unfold insE
  simp only [List.length_append]
  omega
theorem encB_len {o : Ob} (hG : Good o) : (encB o).length ≤ 4194304 := by
  have hm4 := hG.mem
  have hc8 := hG.cores
  have h1 := flat_len wrdB 10 o.memory fun w _ => wrdB_len w
  have h2 := flat_len coreE 393300 o.cores fun c hc => by
    have h3 := flat_len insE 24 c.code fun i hi => insE_len (right_inv (hG.right c hc i hi))
    have h4 := (hG.code c hc).2
    have h5 := name_le (hG.name c hc)
    have h6 := nuB_len c.name.size
    have h7 := nuB_len c.code.length
    unfold coreE
    simp only [List.length_append, dat_len]
    omega
  have g1 := nuB_len o.shared
  have g2 := nuB_len o.locks
  have g3 := nuB_len o.buffer
  have g4 := nuB_len o.memory.length
  have g5 := nuB_len o.cores.length
  unfold encB headE
  simp only [List.length_append, magicL, List.length_cons, List.length_nil]
  omega
end Go.Proofs.YtffhoknkfohfgaaDoor.am
