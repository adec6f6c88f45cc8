/- Plain law of reading and writing words. No program. -/
import Derived.Test.YtkjjcldcfokigaaDoorWpl
namespace Go.Proofs.YtkjjcldcfokigaaDoor.ws
open Go Go.RowKit

def most (neg : Bool) : Nat := if neg then 9223372036854775808 else 9223372036854775807
theorem most_le (neg : Bool) : most neg ≤ 9223372036854775808 := by unfold most; split <;> omega
theorem most_ge (neg : Bool) : 9223372036854775807 ≤ most neg := by unfold most; split <;> omega
def bad (neg : Bool) (at_ i n c : Nat) : Bool := decide (c < 48 ∨ 57 < c ∨ (at_ < i ∧ n = 0) ∨ (neg = true ∧ i = at_ ∧ c = 48) ∨ most neg < 10 * n + (c - 48))
def okV (neg : Bool) (n : Nat) : Int := if neg then -n else n
/-- the number that is read: its value, the error, the place -/
def pgo (neg : Bool) (at_ : Nat) : List UInt8 → Nat → Nat → Int × Int × Int
  | [], i, n => if i = at_ then (0, 10, (i : Int)) else (okV neg n, 0, 0)
  | c :: r, i, n => if bad neg at_ i n c.toNat then (0, 10, (i : Int)) else pgo neg at_ r (i + 1) (10 * n + (c.toNat - 48))
def isNeg (l : List UInt8) : Bool := l.head? == some 45
def prs (l : List UInt8) : Int × Int × Int :=
  if isNeg l then pgo true 1 (l.drop 1) 1 0 else pgo false 0 l 0 0

theorem pgo_bad {neg : Bool} {at_ i n : Nat} {c : UInt8} {r : List UInt8} (h : bad neg at_ i n c.toNat = true) : pgo neg at_ (c :: r) i n = (0, 10, (i : Int)) := by simp [pgo, h]
theorem pgo_go {neg : Bool} {at_ i n : Nat} {c : UInt8} {r : List UInt8} (h : bad neg at_ i n c.toNat = false) : pgo neg at_ (c :: r) i n = pgo neg at_ r (i + 1) (10 * n + (c.toNat - 48)) := by simp [pgo, h]
theorem drop_at (s : ByteArray) (i : Nat) (h : i < s.size) : s.data.toList.drop i = s[i] :: s.data.toList.drop (i + 1) := by
  rw [List.drop_eq_getElem_cons (by simpa using h)]; rfl
theorem drop_end (s : ByteArray) (i : Nat) (h : s.size ≤ i) : s.data.toList.drop i = [] := List.drop_of_length_le (by simpa using h)

theorem toList_data (s : ByteArray) : s.toList = s.data.toList := ByteArray.toList_eq s
theorem ne_empty {s : ByteArray} (h : 0 < s.size) : s.toList.isEmpty = false := by
  rw [toList_data]
  cases hq : s.data.toList with
  | nil => have : s.data.toList.length = s.size := by simp
           rw [hq] at this; simp at this; omega
  | cons _ _ => rfl
theorem is_empty {s : ByteArray} (h : s.size = 0) : s.toList = [] := by
  rw [toList_data]
  exact List.length_eq_zero_iff.1 (by simpa using h)
theorem head_at (s : ByteArray) (h : 0 < s.size) : s.data.toList.head? = some (s[0]'h) := by
  have := drop_at s 0 h
  rw [List.drop_zero] at this
  rw [this]; rfl
theorem prs_pos {s : ByteArray} (h : 0 < s.size) (h0 : (s[0]'h).toNat ≠ 45) : prs s.data.toList = pgo false 0 (s.data.toList.drop 0) 0 0 := by
  have e : isNeg s.data.toList = false := by
    unfold isNeg
    rw [head_at s h]
    cases hq : (some (s[0]'h) == some (45 : UInt8))
    · rfl
    · exact absurd (by rw [show s[0]'h = 45 from by simpa using hq]; rfl) h0
  simp [prs, e]
theorem prs_neg {s : ByteArray} (h : 0 < s.size) (h0 : (s[0]'h).toNat = 45) : prs s.data.toList = pgo true 1 (s.data.toList.drop 1) 1 0 := by
  have e : isNeg s.data.toList = true := by
    unfold isNeg
    rw [head_at s h, show s[0]'h = 45 from UInt8.toNat_inj.1 h0]
    rfl
  simp [prs, e]
theorem prs_none {s : ByteArray} (h : s.size = 0) : prs s.data.toList = (0, 10, 0) := by
  have : s.data.toList = [] := List.length_eq_zero_iff.1 (by simpa using h)
  rw [this]; rfl
/-- a number that is read is below its bound: what the reader's own test says -/
theorem big_iff (neg : Bool) {n d : Nat} (hn : n ≤ most neg) (hd : d ≤ 9) :
    n * 10 / 18446744073709551616 + (n * 10 % 18446744073709551616 + d) / 18446744073709551616 = 0 ∧ (n * 10 % 18446744073709551616 + d) % 18446744073709551616 ≤ most neg ↔ 10 * n + d ≤ most neg := by
  have := most_le neg
  omega

/-- a digit's letter -/
def dch (d : Nat) : UInt8 := UInt8.ofNat (48 + d)
theorem dch_toNat {d : Nat} (h : d < 10) : (dch d).toNat = 48 + d := by unfold dch; rw [UInt8.toNat_ofNat']; omega
/-- the digits of a number -/
def dig (n : Nat) : List UInt8 := if n < 10 then [dch n] else dig (n / 10) ++ [dch (n % 10)]
  termination_by n
  decreasing_by omega
theorem dig_small {n : Nat} (h : n < 10) : dig n = [dch n] := by rw [dig, if_pos h]
theorem dig_big {n : Nat} (h : ¬ n < 10) : dig n = dig (n / 10) ++ [dch (n % 10)] := by rw [dig, if_neg h]
theorem dig_len : ∀ (k n : Nat), n < 10 ^ (k + 1) → (dig n).length ≤ k + 1
  | 0, n, h => by rw [dig_small (by simpa using h)]; simp
  | k + 1, n, h => by
    by_cases hn : n < 10
    · rw [dig_small hn]; simp
    · rw [dig_big hn]
      have := dig_len k (n / 10) (by rw [Nat.pow_succ] at h; omega)
      simp; omega
theorem dig_len64 {n : Nat} (h : n < 18446744073709551616) : (dig n).length ≤ 20 :=
  dig_len 19 n (Nat.lt_trans h (by decide))
def prn (w : Int) : List UInt8 := if w < 0 then 45 :: dig (-w).toNat else dig w.toNat

end Go.Proofs.YtkjjcldcfokigaaDoor.ws
