/- Plain law: words and signs there and back. No program. -/
import Derived.Test.YtkjjcldcfokigaaDoorW4
import Derived.Test.YtkjjcldcfokigaaDoorWlw
import Derived.Test.YtkjjcldcfokigaaDoorWps
namespace Go.Proofs.YtkjjcldcfokigaaDoor.ws
open Go Go.RowKit

theorem dig_pos (n : Nat) : 0 < (dig n).length := by
  by_cases h : n < 10
  · rw [dig_small h]; simp
  · rw [dig_big h]; simp
theorem okV_lo (neg : Bool) : okV neg 0 = 0 := by cases neg <;> rfl
theorem pgo_dig (neg : Bool) (at_ : Nat) : ∀ (k n : Nat) (r : List UInt8), n < 10 ^ (k + 1) → n ≤ most neg → (neg = true → 0 < n) → pgo neg at_ (dig n ++ r) at_ 0 = pgo neg at_ r (at_ + (dig n).length) n
  | 0, n, r, h, hm, hn => by
    have hs : n < 10 := by simpa using h
    rw [dig_small hs]
    have hc := dch_toNat hs
    show pgo neg at_ (dch n :: r) at_ 0 = _
    rw [pgo_go (decide_eq_false ?_), hc]
    · simp
    · rw [hc]
      rintro (h | h | h | ⟨h, _, h3⟩ | h)
      · omega
      · omega
      · omega
      · have := hn h; omega
      · omega
  | k + 1, n, r, h, hm, hn => by
    by_cases hs : n < 10
    · exact pgo_dig neg at_ 0 n r (by simpa using hs) hm hn
    · rw [dig_big hs, List.append_assoc, pgo_dig neg at_ k (n / 10) _ (by rw [Nat.pow_succ] at h; omega) (by omega) (fun _ => by omega)]
      have hc := dch_toNat (d := n % 10) (by omega)
      have hp := dig_pos (n / 10)
      show pgo neg at_ (dch (n % 10) :: r) _ _ = _
      rw [pgo_go (decide_eq_false ?_), hc]
      · rw [show 10 * (n / 10) + (48 + n % 10 - 48) = n by omega]
        simp [Nat.add_assoc]
      · rw [hc]
        rintro (h | h | h | ⟨_, h, _⟩ | h)
        · omega
        · omega
        · omega
        · omega
        · omega
theorem dig_pow {n : Nat} (h : n ≤ 9223372036854775808) : n < 10 ^ (18 + 1) := Nat.lt_of_le_of_lt h (by decide)
theorem pgo_all (neg : Bool) (at_ n : Nat) (hm : n ≤ most neg) (hn : neg = true → 0 < n) : pgo neg at_ (dig n) at_ 0 = (okV neg n, 0, 0) := by
  have h := pgo_dig neg at_ 18 n [] (dig_pow (Nat.le_trans hm (most_le neg))) hm hn
  rw [List.append_nil] at h
  have := dig_pos n
  rw [h]
  unfold pgo
  rw [if_neg (by omega)]
theorem dig_head (n : Nat) : (dig n).head? ≠ some 45 := by
  suffices h : ∀ k n, n < 10 ^ (k + 1) → (dig n).head? ≠ some 45 by
    exact h n n (Nat.lt_of_lt_of_le (Nat.lt_pow_self (by decide)) (Nat.pow_le_pow_right (by decide) (by omega)))
  intro k
  induction k with
  | zero =>
    intro n h
    have hs : n < 10 := by simpa using h
    rw [dig_small hs]
    intro hc
    have e : dch n = 45 := by simpa using hc
    have := dch_toNat hs
    rw [e] at this
    have : (45 : UInt8).toNat = 45 := rfl
    omega
  | succ k ih =>
    intro n h
    by_cases hs : n < 10
    · rw [dig_small hs]
      intro hc
      have e : dch n = 45 := by simpa using hc
      have := dch_toNat hs
      rw [e] at this
      have : (45 : UInt8).toNat = 45 := rfl
      omega
    · rw [dig_big hs]
      have hp := dig_pos (n / 10)
      cases hd : dig (n / 10) with
      | nil => rw [hd] at hp; simp at hp
      | cons a l =>
        have := ih (n / 10) (by rw [Nat.pow_succ] at h; omega)
        rw [hd] at this
        exact this
theorem prs_prn {v : Int} (h1 : -9223372036854775808 ≤ v) (h2 : v ≤ 9223372036854775807) : prs (prn v) = (v, 0, 0) := by
  unfold prn
  by_cases h : v < 0
  · rw [if_pos h]
    have e : prs (45 :: dig (-v).toNat) = pgo true 1 (dig (-v).toNat) 1 0 := by simp [prs, isNeg]
    rw [e, pgo_all true 1 _ (by unfold most; simp; omega) (fun _ => by omega)]
    simp [okV]; omega
  · rw [if_neg h]
    have hd := dig_head v.toNat
    have e0 : isNeg (dig v.toNat) = false := by
      unfold isNeg
      simpa using hd
    have e : prs (dig v.toNat) = pgo false 0 (dig v.toNat) 0 0 := by simp [prs, e0]
    rw [e, pgo_all false 0 _ (by unfold most; simp; omega) (fun h => by cases h)]
    simp [okV]; omega

/-- what is read, behind a first digit -/
theorem pgo_back (neg : Bool) (at_ : Nat) : ∀ (l : List UInt8) (i n : Nat), at_ < i → n ≤ most neg →
    (∃ p : Nat, pgo neg at_ l i n = (0, 10, (p : Int)) ∧ p ≤ i + l.length) ∨ (∃ m : Nat, pgo neg at_ l i n = (okV neg m, 0, 0) ∧ dig m = dig n ++ l ∧ n ≤ m ∧ m ≤ most neg)
  | [], i, n, hi, hm => .inr ⟨n, by unfold pgo; rw [if_neg (by omega)], by simp, Nat.le_refl _, hm⟩
  | c :: r, i, n, hi, hm => by
    cases hb : bad neg at_ i n c.toNat
    · have hb' := of_decide_eq_false hb
      rw [pgo_go hb]
      have hn : n ≠ 0 := fun h => hb' (.inr (.inr (.inl ⟨hi, h⟩)))
      have h1 : ¬ c.toNat < 48 := fun h => hb' (.inl h)
      have h2 : ¬ 57 < c.toNat := fun h => hb' (.inr (.inl h))
      have h3 : ¬ most neg < 10 * n + (c.toNat - 48) := fun h => hb' (.inr (.inr (.inr (.inr h))))
      rcases pgo_back neg at_ r (i + 1) (10 * n + (c.toNat - 48)) (by omega) (by omega) with ⟨p, hp, hl⟩ | ⟨m, hp, hd, hle, hmm⟩
      · exact .inl ⟨p, hp, by simp; omega⟩
      · refine .inr ⟨m, hp, ?_, by omega, hmm⟩
        rw [hd, dig_big (by omega), List.append_assoc]
        have e1 : (10 * n + (c.toNat - 48)) / 10 = n := by omega
        have e2 : (10 * n + (c.toNat - 48)) % 10 = c.toNat - 48 := by omega
        rw [e1, e2]
        have e3 : dch (c.toNat - 48) = c := by
          apply UInt8.toNat_inj.1
          rw [dch_toNat (by omega)]; omega
        rw [e3]; rfl
    · rw [pgo_bad hb]
      exact .inl ⟨i, rfl, by simp⟩
theorem pgo_begin (neg : Bool) (at_ : Nat) (l : List UInt8) :
    (∃ p : Nat, pgo neg at_ l at_ 0 = (0, 10, (p : Int)) ∧ p ≤ at_ + l.length) ∨ (∃ m : Nat, pgo neg at_ l at_ 0 = (okV neg m, 0, 0) ∧ dig m = l ∧ (neg = true → 0 < m) ∧ m ≤ most neg) := by
  cases l with
  | nil => exact .inl ⟨at_, by unfold pgo; rw [if_pos rfl], by simp⟩
  | cons c r =>
    cases hb : bad neg at_ at_ 0 c.toNat
    · have hb' := of_decide_eq_false hb
      rw [pgo_go hb]
      have h1 : ¬ c.toNat < 48 := fun h => hb' (.inl h)
      have h2 : ¬ 57 < c.toNat := fun h => hb' (.inr (.inl h))
      have h3 : ¬ most neg < 10 * 0 + (c.toNat - 48) := fun h => hb' (.inr (.inr (.inr (.inr h))))
      have h4 : neg = true → c.toNat ≠ 48 := fun hn hc => hb' (.inr (.inr (.inr (.inl ⟨hn, rfl, hc⟩))))
      rcases pgo_back neg at_ r (at_ + 1) (10 * 0 + (c.toNat - 48)) (by omega) (by omega) with ⟨p, hp, hl⟩ | ⟨m, hp, hd, hle, hmm⟩
      · exact .inl ⟨p, hp, by simp; omega⟩
      · refine .inr ⟨m, hp, ?_, fun hn => by have := h4 hn; omega, hmm⟩
        rw [hd, dig_small (by omega)]
        have e3 : dch (10 * 0 + (c.toNat - 48)) = c := by
          apply UInt8.toNat_inj.1
          rw [dch_toNat (by omega)]; omega
        rw [e3]; rfl
    · rw [pgo_bad hb]
      exact .inl ⟨at_, rfl, by simp⟩
/-- a text is a word's own, or it is refused at a place within it -/
theorem prs_back (l : List UInt8) : (∃ p : Nat, prs l = (0, 10, (p : Int)) ∧ p ≤ l.length) ∨ (∃ v : Int, prs l = (v, 0, 0) ∧ prn v = l ∧ -9223372036854775808 ≤ v ∧ v ≤ 9223372036854775807) := by
  cases hn : isNeg l
  · have e : prs l = pgo false 0 l 0 0 := by simp [prs, hn]
    rw [e]
    rcases pgo_begin false 0 l with ⟨p, hp, hl⟩ | ⟨m, hp, hd, _, hm⟩
    · exact .inl ⟨p, hp, by omega⟩
    · have hm' : m ≤ 9223372036854775807 := hm
      refine .inr ⟨m, hp, ?_, by omega, by omega⟩
      unfold prn; rw [if_neg (by omega), ← hd]; rfl
  · obtain ⟨r, rfl⟩ : ∃ r, l = 45 :: r := by
      cases l with
      | nil => simp [isNeg] at hn
      | cons c r => exact ⟨r, by simp [isNeg] at hn; rw [hn]⟩
    have e : prs (45 :: r) = pgo true 1 r 1 0 := by simp [prs, hn]
    rw [e]
    rcases pgo_begin true 1 r with ⟨p, hp, hl⟩ | ⟨m, hp, hd, h0, hm⟩
    · exact .inl ⟨p, hp, by simp; omega⟩
    · have hm' : m ≤ 9223372036854775808 := hm
      have := h0 rfl
      refine .inr ⟨-(m : Int), hp, ?_, by omega, by omega⟩
      unfold prn; rw [if_pos (by omega), Int.neg_neg, ← hd]; rfl

def findL (l : List UInt8) : Nat → Nat → Nat
  | 0, _ => 0
  | n + 1, k => if isTwo k && sgL.getD k [] == l then k else findL l n (k + 1)
theorem findL_eq (s : ByteArray) : ∀ n k, findFrom s n k = findL s.data.toList n k
  | 0, k => rfl
  | n + 1, k => by
    simp only [findFrom, findL, toList_data, findL_eq s n (k + 1)]
    rfl
theorem find_sg (op : Nat) (h : isTwo op = true) : findN (sg op) = op := by
  have e : findN (sg op) = findL (sgL.getD op []) 19 0 := findL_eq (sg op) 19 0
  rw [e]
  have hr : op = 1 ∨ op = 2 ∨ op = 3 ∨ op = 4 ∨ op = 5 ∨ op = 6 ∨ op = 7 ∨ op = 8 ∨ op = 9 ∨ op = 10 ∨ op = 11 ∨ op = 12 ∨ op = 13 ∨ op = 14 ∨ op = 15 ∨ op = 16 := by simp [isTwo] at h; omega
  rcases hr with rfl | rfl | rfl | rfl | rfl | rfl | rfl | rfl | rfl | rfl | rfl | rfl | rfl | rfl | rfl | rfl <;> decide
end Go.Proofs.YtkjjcldcfokigaaDoor.ws
