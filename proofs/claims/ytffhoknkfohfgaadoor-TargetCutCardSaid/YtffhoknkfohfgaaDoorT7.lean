/- Contracts of target: the reader of bytes: fail, number, small, word, name. Contracts of target: what is read, written, comes next. -/
import Derived.Test.YtffhoknkfohfgaaDoorT6
set_option linter.all false

namespace Go.Proofs.YtffhoknkfohfgaaDoor.am
open Go Go.Proofs
structure Rd where
  l : List UInt8
  bad : Bool
abbrev bytT (l : List UInt8) : Tr := .lst 1 1 (brows l)
abbrev Rd.blk (r : Rd) : Blk := .cells 89 [.tr (bytT r.l), .tr (tb r.bad)]
theorem k_fail (r : Rd) : K 69 [.ptr 0 0] [r.blk] (.ret (.tr (tq 0))) [some (Rd.blk ⟨r.l, true⟩)] := by
  refine Ctr.of hT hmix Tryd.func69 rfl (fun _ _ => by kernel_rfl) rfl fun hok => ?_
  clear hok
  obtain ⟨l, bad⟩ := r
  conv => whnf
  exact aut
def orI (a b : Int) : Int := IntKind.u64.wrap (BitVec.ofInt IntKind.u64.bits a ||| BitVec.ofInt IntKind.u64.bits b).toNat
def shlD (c : UInt8) (k : Nat) : Int := IntKind.u64.wrap (IntKind.u64.wrap (band (c.toNat : Int) 127) * 2 ^ (min (IntKind.i64.wrap (7 * (k : Int))).toNat IntKind.u64.bits))
def numG (l0 : List UInt8) : Nat → Nat → Int → List UInt8 → Int × Rd
  | 0, _, _, _ => (0, ⟨l0, true⟩)
  | _ + 1, _, _, [] => (0, ⟨l0, true⟩)
  | f + 1, k, n, c :: l =>
    bif (((k : Int) == 9) && decide ((c.toNat : Int) > 1)) || (decide ((k : Int) > 0) && ((c.toNat : Int) == 0)) then (0, ⟨l0, true⟩)
    else bif decide ((c.toNat : Int) < 128) then (orI n (shlD c k), ⟨l, false⟩) else numG l0 f (k + 1) (orI n (shlD c k)) l
def numR (r : Rd) : Int × Rd := bif r.bad then (0, ⟨r.l, true⟩) else numG r.l 10 0 0 r.l
theorem numG_at {l0 l : List UInt8} {k : Nat} {n : Int} {c : UInt8} (h : l[k]? = some c) (hk : k < 10) : numG l0 (10 - k) k n (l.drop k) =
    bif (((k : Int) == 9) && decide ((c.toNat : Int) > 1)) || (decide ((k : Int) > 0) && ((c.toNat : Int) == 0)) then (0, ⟨l0, true⟩)
    else bif decide ((c.toNat : Int) < 128) then (orI n (shlD c k), ⟨l.drop (k + 1), false⟩) else numG l0 (10 - (k + 1)) (k + 1) (orI n (shlD c k)) (l.drop (k + 1)) := by
  rw [drop_cons h, show 10 - k = (10 - (k + 1)) + 1 by omega]; rfl
theorem numG_end {l0 l : List UInt8} {k : Nat} {n : Int} (h : l.length ≤ k ∨ 10 ≤ k) : numG l0 (10 - k) k n (l.drop k) = (0, ⟨l0, true⟩) := by
  rcases h with h | h
  · rw [List.drop_eq_nil_of_le h]
    cases 10 - k <;> rfl
  · rw [show 10 - k = 0 by omega]; rfl
theorem brow_get {l : List UInt8} {k : Nat} {row : List Tr} (h : (brows l)[k]? = some row) : ∃ c, l[k]? = some c ∧ row = [.v (.int .u8 (c.toNat : Int))] := by
  obtain ⟨c, h1, h2⟩ := map_get (f := fun b : UInt8 => [Tr.v (.int .u8 b.toNat)]) h
  exact ⟨c, h1, h2.symm⟩
theorem brows_drop (l : List UInt8) (k : Nat) : (brows l).drop k = brows (l.drop k) := by simp [brows, List.map_drop]
theorem brows_take (l : List UInt8) (k : Nat) : (brows l).take k = brows (l.take k) := by simp [brows, List.map_take]
set_option maxRecDepth 100000 in
theorem k_numberR (r : Rd) : K 68 [.ptr 0 0] [r.blk] (.ret (.tr (tq (numR r).1))) [some (numR r).2.blk] := by
  obtain ⟨l, bad⟩ := r
  cases bad
  · have hS : numR ⟨l, false⟩ = numG l 10 0 0 l := rfl
    generalize hR : numR ⟨l, false⟩ = R at hS ⊢
    clear hR
    refine Ctr.of hT hmix Tryd.func68 rfl (fun _ _ => by kernel_rfl) rfl fun hok => ?_
    have hll := (hok.cells 0 rfl _ (.head _)).tr.lst.2.1
    rw [brows_len] at hll
    replace hll : l.length ≤ 9223372036854775807 := hll
    clear hok
    conv => whnf
    refine LoopL.by (fun x : Nat × Int => ⟨[(0, .ptr 0 0), (3, .tr (tq x.2)), (4, .tr (ti x.1))], [(0, Rd.blk ⟨l, false⟩)], 10⟩) (fun x => R = numG l (10 - x.1) x.1 x.2 (l.drop x.1) ∧ x.1 ≤ 10) (fun x => 10 - x.1) (0, 0) [0] []
      (Sub.au) ⟨hS, by decide⟩ ?_
    clear hS
    rintro ⟨k, n⟩ ⟨hf, hk10⟩ -
    simp only at hf hk10
    conv => whnf
    refine csplit (fun h1 => ?_) (fun h1 => ?_)
    · have hlt : k < l.length := by have := of_decide_eq_true h1; rw [brows_len] at this; replace this : (k : Int) < l.length := this; omega
      clear h1
      conv => whnf
      refine csplit (fun h2 => ?_) (fun h2 => ?_)
      · have hk : k < 10 := by have := of_decide_eq_true h2; omega
        have hk1 : IntKind.i64.wrap ((k : Int) + 1) = ((k + 1 : Nat) : Int) := by rw [w64 (by omega) (by omega)]; omega
        clear h2
        conv => whnf
        refine ⟨rfl, by omega, by rw [brows_len]; show (k : Int) < l.length; omega, fun row hrow => ?_⟩
        obtain ⟨c, hc, rfl⟩ := brow_get hrow
        replace hc : l[k]? = some c := hc
        rw [numG_at hc hk] at hf
        generalize hO : orI n (shlD c k) = O at hf
        conv => whnf
        have bad : ((((k : Int) == 9) && decide ((c.toNat : Int) > 1)) || (decide ((k : Int) > 0) && ((c.toNat : Int) == 0))) = true → R = (0, ⟨l, true⟩) := fun h => by rw [hf, h]; rfl
        have good : ((((k : Int) == 9) && decide ((c.toNat : Int) > 1)) || (decide ((k : Int) > 0) && ((c.toNat : Int) == 0))) = false → R = bif decide ((c.toNat : Int) < 128) then (O, ⟨l.drop (k + 1), false⟩) else numG l (10 - (k + 1)) (k + 1) O (l.drop (k + 1)) := fun h => by rw [hf, h]; rfl
        clear hf
        have hdrop : List.drop (IntKind.i64.wrap ((k : Int) + 1)).toNat (List.take ((brows l).length : Int).toNat (brows l)) = brows (l.drop (k + 1)) := by
          rw [hk1, Int.toNat_natCast, Int.toNat_natCast, List.take_of_length_le (Nat.le_refl _), brows_drop]
        refine csplit (fun a1 => ?_) (fun a1 => ?_)
        · conv => whnf
          refine csplit (fun a2 => ?_) (fun a2 => ?_)
          · conv => whnf
            rw [bad (by simp only [a1, a2, Bool.true_and, Bool.and_true, Bool.or_true, Bool.true_or, Bool.and_self])]
            conv => whnf
            refine acall.au [0] [] (k_fail ⟨l, false⟩) ?_
            intro _
            conv => whnf
            exact aut
          · conv => whnf
            refine csplit (fun a3 => ?_) (fun a3 => ?_)
            · conv => whnf
              refine csplit (fun a4 => ?_) (fun a4 => ?_)
              · conv => whnf
                rw [bad (by simp only [a1, a2, a3, a4, Bool.true_and, Bool.and_true, Bool.or_true, Bool.true_or, Bool.and_self])]
                conv => whnf
                refine acall.au [0] [] (k_fail ⟨l, false⟩) ?_
                intro _
                conv => whnf
                exact aut
              · conv => whnf
                replace good := good (by simp only [a1, a2, a3, a4, Bool.false_and, Bool.and_false, Bool.or_false, Bool.false_or])
                refine ⟨(show (0 : Int) ≤ IntKind.i64.wrap (7 * (k : Int)) by rw [w64 (by omega) (by omega)]; omega), ?_⟩
                conv => whnf
                refine csplit (fun h3 => ?_) (fun h3 => ?_)
                · rw [h3] at good
                  replace good : R = (O, ⟨l.drop (k + 1), false⟩) := good
                  conv => whnf
                  refine ⟨rfl, (show (0 : Int) ≤ IntKind.i64.wrap ((k : Int) + 1) by rw [hk1]; omega), (show IntKind.i64.wrap ((k : Int) + 1) ≤ ((brows l).length : Int) by rw [hk1, brows_len]; omega), Int.le_refl _, ?_⟩
                  conv => whnf
                  rw [good]
                  exact ⟨.inl (congrArg tq hO), ⟨rfl, .inl (congrArg (Tr.lst 1 1) hdrop), .inl rfl, trivial⟩, trivial⟩
                · rw [h3] at good
                  conv => whnf
                  exact ⟨(k + 1, O), [0], [], Sub.mk' rfl ⟨⟨rfl, rfl⟩, .inl (congrArg tq hO), .inl (congrArg ti hk1), trivial⟩ aut rfl rfl, ⟨good, by omega⟩, by simp only; omega⟩
            · conv => whnf
              replace good := good (by simp only [a1, a2, a3, Bool.false_and, Bool.and_false, Bool.or_false, Bool.false_or])
              refine ⟨(show (0 : Int) ≤ IntKind.i64.wrap (7 * (k : Int)) by rw [w64 (by omega) (by omega)]; omega), ?_⟩
              conv => whnf
              refine csplit (fun h3 => ?_) (fun h3 => ?_)
              · rw [h3] at good
                replace good : R = (O, ⟨l.drop (k + 1), false⟩) := good
                conv => whnf
                refine ⟨rfl, (show (0 : Int) ≤ IntKind.i64.wrap ((k : Int) + 1) by rw [hk1]; omega), (show IntKind.i64.wrap ((k : Int) + 1) ≤ ((brows l).length : Int) by rw [hk1, brows_len]; omega), Int.le_refl _, ?_⟩
                conv => whnf
                rw [good]
                exact ⟨.inl (congrArg tq hO), ⟨rfl, .inl (congrArg (Tr.lst 1 1) hdrop), .inl rfl, trivial⟩, trivial⟩
              · rw [h3] at good
                conv => whnf
                exact ⟨(k + 1, O), [0], [], Sub.mk' rfl ⟨⟨rfl, rfl⟩, .inl (congrArg tq hO), .inl (congrArg ti hk1), trivial⟩ aut rfl rfl, ⟨good, by omega⟩, by simp only; omega⟩
        · conv => whnf
          refine csplit (fun a3 => ?_) (fun a3 => ?_)
          · conv => whnf
            refine csplit (fun a4 => ?_) (fun a4 => ?_)
            · conv => whnf
              rw [bad (by simp only [a1, a3, a4, Bool.true_and, Bool.and_true, Bool.or_true, Bool.true_or, Bool.and_self])]
              conv => whnf
              refine acall.au [0] [] (k_fail ⟨l, false⟩) ?_
              intro _
              conv => whnf
              exact aut
            · conv => whnf
              replace good := good (by simp only [a1, a3, a4, Bool.false_and, Bool.and_false, Bool.or_false, Bool.false_or])
              refine ⟨(show (0 : Int) ≤ IntKind.i64.wrap (7 * (k : Int)) by rw [w64 (by omega) (by omega)]; omega), ?_⟩
              conv => whnf
              refine csplit (fun h3 => ?_) (fun h3 => ?_)
              · rw [h3] at good
                replace good : R = (O, ⟨l.drop (k + 1), false⟩) := good
                conv => whnf
                refine ⟨rfl, (show (0 : Int) ≤ IntKind.i64.wrap ((k : Int) + 1) by rw [hk1]; omega), (show IntKind.i64.wrap ((k : Int) + 1) ≤ ((brows l).length : Int) by rw [hk1, brows_len]; omega), Int.le_refl _, ?_⟩
                conv => whnf
                rw [good]
                exact ⟨.inl (congrArg tq hO), ⟨rfl, .inl (congrArg (Tr.lst 1 1) hdrop), .inl rfl, trivial⟩, trivial⟩
              · rw [h3] at good
                conv => whnf
                exact ⟨(k + 1, O), [0], [], Sub.mk' rfl ⟨⟨rfl, rfl⟩, .inl (congrArg tq hO), .inl (congrArg ti hk1), trivial⟩ aut rfl rfl, ⟨good, by omega⟩, by simp only; omega⟩
          · conv => whnf
            replace good := good (by simp only [a1, a3, Bool.false_and, Bool.and_false, Bool.or_false, Bool.false_or])
            refine ⟨(show (0 : Int) ≤ IntKind.i64.wrap (7 * (k : Int)) by rw [w64 (by omega) (by omega)]; omega), ?_⟩
            conv => whnf
            refine csplit (fun h3 => ?_) (fun h3 => ?_)
            · rw [h3] at good
              replace good : R = (O, ⟨l.drop (k + 1), false⟩) := good
              conv => whnf
              refine ⟨rfl, (show (0 : Int) ≤ IntKind.i64.wrap ((k : Int) + 1) by rw [hk1]; omega), (show IntKind.i64.wrap ((k : Int) + 1) ≤ ((brows l).length : Int) by rw [hk1, brows_len]; omega), Int.le_refl _, ?_⟩
              conv => whnf
              rw [good]
              exact ⟨.inl (congrArg tq hO), ⟨rfl, .inl (congrArg (Tr.lst 1 1) hdrop), .inl rfl, trivial⟩, trivial⟩
            · rw [h3] at good
              conv => whnf
              exact ⟨(k + 1, O), [0], [], Sub.mk' rfl ⟨⟨rfl, rfl⟩, .inl (congrArg tq hO), .inl (congrArg ti hk1), trivial⟩ aut rfl rfl, ⟨good, by omega⟩, by simp only; omega⟩
      · have hk : 10 ≤ k := by have := of_decide_eq_false h2; omega
        rw [numG_end (.inr hk)] at hf
        rw [hf]
        conv => whnf
        refine ⟨fun _ => ?_, fun h => absurd rfl h⟩
        conv => whnf
        refine acall.au [0] [] (k_fail ⟨l, false⟩) ?_
        intro _
        conv => whnf
        exact aut
    · have hge : l.length ≤ k := by have := of_decide_eq_false h1; rw [brows_len] at this; replace this : ¬ (k : Int) < l.length := this; omega
      rw [numG_end (.inl hge)] at hf
      rw [hf]
      conv => whnf
      refine ⟨fun _ => ?_, fun h => absurd rfl h⟩
      conv => whnf
      refine acall.au [0] [] (k_fail ⟨l, false⟩) ?_
      intro _
      conv => whnf
      exact aut
  · have hS : numR ⟨l, true⟩ = (0, ⟨l, true⟩) := rfl
    rw [hS]
    refine Ctr.of hT hmix Tryd.func68 rfl (fun _ _ => by kernel_rfl) rfl fun hok => ?_
    clear hok
    conv => whnf
    refine LoopL.by (fun _ : Unit => ⟨[(0, .ptr 0 0), (3, .tr (tq 0)), (4, .tr (ti 0))], [(0, Rd.blk ⟨l, true⟩)], 10⟩) (fun _ => True) (fun _ => 0) () [0] [] (Sub.au) trivial ?_
    rintro - - -
    conv => whnf
    refine csplit (fun h1 => ?_) (fun h1 => ?_)
    · conv => whnf
      refine ⟨fun _ => ?_, fun h => absurd rfl h⟩
      conv => whnf
      refine acall.au [0] [] (k_fail ⟨l, true⟩) ?_
      intro _
      conv => whnf
      exact aut
    · conv => whnf
      refine ⟨fun _ => ?_, fun h => absurd rfl h⟩
      conv => whnf
      refine acall.au [0] [] (k_fail ⟨l, true⟩) ?_
      intro _
      conv => whnf
      exact aut
theorem u64_zero : (0 : Int) ≤ 0 ∧ (0 : Int) < 18446744073709551616 := ⟨by decide, by decide⟩
theorem numG_rng (l0 : List UInt8) : ∀ (f k : Nat) (n : Int) (l : List UInt8), 0 ≤ n → n < 18446744073709551616 → 0 ≤ (numG l0 f k n l).1 ∧ (numG l0 f k n l).1 < 18446744073709551616
  | 0, _, _, _, _, _ => u64_zero
  | _ + 1, _, _, [], _, _ => u64_zero
  | f + 1, k, n, c :: l, h0, h1 => by
    unfold numG
    cases ((((k : Int) == 9) && decide ((c.toNat : Int) > 1)) || (decide ((k : Int) > 0) && ((c.toNat : Int) == 0)))
    · cases decide ((c.toNat : Int) < 128)
      · exact numG_rng l0 f (k + 1) _ l (u64_wrap _).1 (u64_wrap _).2
      · exact u64_wrap _
    · exact u64_zero
theorem numR_rng (r : Rd) : 0 ≤ (numR r).1 ∧ (numR r).1 < 18446744073709551616 := by
  unfold numR
  cases r.bad
  · exact numG_rng _ _ _ _ _ (by decide) (by decide)
  · exact u64_zero
def smallR (most : Int) (r : Rd) : Int × Rd := bif decide ((numR r).1 > most) then (0, ⟨(numR r).2.l, true⟩) else ((numR r).1, (numR r).2)
theorem smallR_rng {most : Int} (h : 0 ≤ most) (r : Rd) : 0 ≤ (smallR most r).1 ∧ (smallR most r).1 ≤ most := by
  unfold smallR
  have := numR_rng r
  cases hb : decide ((numR r).1 > most)
  · have := of_decide_eq_false hb; exact ⟨by simp only [cond_false]; omega, by simp only [cond_false]; omega⟩
  · exact ⟨Int.le_refl _, h⟩
theorem u64_id {z : Int} (h0 : 0 ≤ z) (h1 : z < 18446744073709551616) : IntKind.u64.wrap z = z := by
  simp only [IntKind.wrap, IntKind.signed, IntKind.bits, Bool.false_and, Bool.false_eq_true, if_false, Int.reducePow]
  omega
theorem k_smallR (r : Rd) (most : Int) (hm : 0 ≤ most ∧ most ≤ 9223372036854775807) : K 45 [.ptr 0 0, .tr (ti most)] [r.blk] (.ret (.tr (ti (smallR most r).1))) [some (smallR most r).2.blk] := by
  refine Ctr.of hT hmix Tryd.func45 rfl (fun _ _ => by kernel_rfl) rfl fun hok => ?_
  clear hok
  have hn := k_numberR r
  have hg := numR_rng r
  have hS : smallR most r = bif decide ((numR r).1 > most) then (0, ⟨(numR r).2.l, true⟩) else ((numR r).1, (numR r).2) := rfl
  generalize smallR most r = S at hS ⊢
  generalize numR r = N at hn hg hS
  obtain ⟨n, l1, b1⟩ := N
  simp only at hn hg hS
  obtain ⟨l, bad⟩ := r
  have hmw : IntKind.u64.wrap most = most := u64_id hm.1 (by omega)
  conv => whnf
  refine acall.au [0] [] (hn) ?_
  intro _
  conv => whnf
  refine csplit (fun h => ?_) (fun h => ?_)
  · replace h : decide (n > IntKind.u64.wrap most) = true := h
    rw [hmw] at h
    rw [h] at hS
    rw [hS]
    conv => whnf
    refine acall.au [0] [] (k_fail ⟨l1, b1⟩) ?_
    intro _
    conv => whnf
    exact aut
  · replace h : decide (n > IntKind.u64.wrap most) = false := h
    rw [hmw] at h
    rw [h] at hS
    rw [hS]
    have hw : IntKind.i64.wrap n = n := w64 (by omega) (by have := of_decide_eq_false h; omega)
    conv => whnf
    exact ⟨.inl (congrArg ti hw), aut⟩
def unzM (n : Int) : Int := IntKind.i64.wrap (BitVec.ofInt IntKind.i64.bits (IntKind.i64.wrap (n.fdiv (2 ^ (min (1 : Int).toNat IntKind.u64.bits)))) ^^^ BitVec.ofInt IntKind.i64.bits (IntKind.i64.wrap (0 - IntKind.i64.wrap (IntKind.u64.wrap (BitVec.ofInt IntKind.u64.bits n &&& BitVec.ofInt IntKind.u64.bits 1).toNat)))).toNat
def wordR (r : Rd) : Int × Rd := (unzM (numR r).1, (numR r).2)
theorem k_wordR (r : Rd) : K 46 [.ptr 0 0] [r.blk] (.ret (.tr (ti (wordR r).1))) [some (wordR r).2.blk] := by
  refine Ctr.of hT hmix Tryd.func46 rfl (fun _ _ => by kernel_rfl) rfl fun hok => ?_
  clear hok
  have hn := k_numberR r
  unfold wordR
  generalize numR r = N at hn ⊢
  obtain ⟨n, l1, b1⟩ := N
  obtain ⟨l, bad⟩ := r
  conv => whnf
  refine acall.au [0] [] (hn) ?_
  intro _
  conv => whnf
  refine ⟨by decide, ?_⟩
  conv => whnf
  exact aut
def nameR (r : Rd) : ByteArray × Rd := bif decide ((smallR 32 r).1 > ((smallR 32 r).2.l.length : Int)) then (⟨#[]⟩, ⟨(smallR 32 r).2.l, true⟩) else
  (⟨((smallR 32 r).2.l.take (smallR 32 r).1.toNat).toArray⟩, ⟨(smallR 32 r).2.l.drop (smallR 32 r).1.toNat, (smallR 32 r).2.bad⟩)
theorem k_nameR (r : Rd) : K 47 [.ptr 0 0] [r.blk] (.ret (.tr (ts (nameR r).1))) [some (nameR r).2.blk] := by
  refine Ctr.of hT hmix Tryd.func47 rfl (fun _ _ => by kernel_rfl) rfl fun hok => ?_
  clear hok
  have hn := k_smallR r 32 (by decide)
  have hg := smallR_rng (most := 32) (by decide) r
  have hS : nameR r = bif decide ((smallR 32 r).1 > ((smallR 32 r).2.l.length : Int)) then (⟨#[]⟩, ⟨(smallR 32 r).2.l, true⟩) else
    (⟨((smallR 32 r).2.l.take (smallR 32 r).1.toNat).toArray⟩, ⟨(smallR 32 r).2.l.drop (smallR 32 r).1.toNat, (smallR 32 r).2.bad⟩) := rfl
  generalize nameR r = S at hS ⊢
  generalize smallR 32 r = N at hn hg hS
  obtain ⟨n, l1, b1⟩ := N
  simp only at hn hg hS
  obtain ⟨l, bad⟩ := r
  have hlen := brows_len l1
  conv => whnf
  refine acall.au [0] [] (hn) ?_
  intro _
  conv => whnf
  refine csplit (fun h => ?_) (fun h => ?_)
  · replace h : decide (n > ((brows l1).length : Int)) = true := h
    rw [hlen] at h
    rw [h] at hS
    rw [hS]
    conv => whnf
    exact aut
  · replace h : decide (n > ((brows l1).length : Int)) = false := h
    rw [hlen] at h
    rw [h] at hS
    rw [hS]
    have hle : n ≤ l1.length := by have := of_decide_eq_false h; omega
    conv => whnf
    refine ⟨rfl, by decide, hg.1, (show n ≤ ((brows l1).length : Int) by rw [hlen]; exact hle), ?_⟩
    conv => whnf
    refine ⟨l1.take n.toNat, by rw [brows_take]; rfl, by rw [List.length_take]; omega, ?_⟩
    conv => whnf
    refine ⟨rfl, hg.1, (show n ≤ ((brows l1).length : Int) by rw [hlen]; exact hle), Int.le_refl _, ?_⟩
    conv => whnf
    refine ⟨.inl rfl, ⟨rfl, .inl (congrArg (Tr.lst 1 1) ?_), .inl rfl, trivial⟩, trivial⟩
    show List.drop n.toNat (List.take ((brows l1).length : Int).toNat (brows l1)) = _
    rw [Int.toNat_natCast, List.take_of_length_le (Nat.le_refl _), brows_drop]
    rfl
end Go.Proofs.YtffhoknkfohfgaaDoor.am

namespace Go.Proofs.YtffhoknkfohfgaaDoor.am
open Go Go.Proofs

def drainsS (k : Int) : Bool := k == 5 || k == 6 || k == 7
theorem k_drains (k : Int) : K 21 [.tr (tu k)] [] (.ret (.tr (tb (drainsS k)))) [] := by
  refine Ctr.of hT hmix Tryd.func21 rfl (fun _ _ => by kernel_rfl) rfl fun hok => ?_
  conv => whnf
  (repeat' (refine csplit (fun h => ?_) (fun h => ?_) <;> (try dsimp only at h) <;> conv => whnf)) <;> (repeat' (first | exact trivial | exact Or.inl rfl | exact rfl | (refine Or.inl (congrArg _ ?_); simp only [drainsS, *] <;> rfl) | apply And.intro))
end Go.Proofs.YtffhoknkfohfgaaDoor.am
