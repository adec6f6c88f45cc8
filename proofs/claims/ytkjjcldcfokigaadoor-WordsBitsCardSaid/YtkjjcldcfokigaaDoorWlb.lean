/- Plain laws of bits. No program. -/
import Derived.Test.YtkjjcldcfokigaaDoorWlw
namespace Go.Proofs.YtkjjcldcfokigaaDoor.ws
open Go Go.RowKit

theorem w64_bmod (n : Int) : wrap64 n = n.bmod 18446744073709551616 := by
  unfold wrap64; rw [Int.bmod_def]; split <;> omega
theorem wrap_toNat (z : BitVec 64) : IntKind.i64.wrap (z.toNat : Int) = z.toInt := by
  rw [IntKind.wrap_i64]
  have := z.isLt
  rw [BitVec.toInt_eq_toNat_cond]
  split <;> omega
theorem ofInt_toInt {a : Int} (h1 : -9223372036854775808 ≤ a) (h2 : a ≤ 9223372036854775807) : (BitVec.ofInt 64 a).toInt = a := by
  rw [BitVec.toInt_ofInt, ← w64_bmod]; exact w64_in h1 h2
theorem band_eq (a b : Int) : band a b = (BitVec.ofInt 64 a &&& BitVec.ofInt 64 b).toInt := wrap_toNat _
theorem bor_eq (a b : Int) : bor a b = (BitVec.ofInt 64 a ||| BitVec.ofInt 64 b).toInt := wrap_toNat _
theorem bxor_eq (a b : Int) : bxor a b = (BitVec.ofInt 64 a ^^^ BitVec.ofInt 64 b).toInt := wrap_toNat _
theorem bits1 {a : Int} (b : Int) (h1 : -9223372036854775808 ≤ a) (h2 : a ≤ 9223372036854775807) : (doV 8 (doV 8 a b) b != a) = false := nb (by
  simp only [doV]
  rw [bxor_eq, bxor_eq, BitVec.ofInt_toInt, BitVec.xor_assoc, BitVec.xor_self, BitVec.xor_zero, ofInt_toInt h1 h2])
theorem nat_and_or : ∀ (n a b : Nat), a < 2 ^ n → b < 2 ^ n → (a &&& b) + (a ||| b) = a + b
  | 0, a, b, ha, hb => by
    have h1 : a = 0 := by simpa using ha
    have h2 : b = 0 := by simpa using hb
    rw [h1, h2]; rfl
  | n + 1, a, b, ha, hb => by
    have ih := nat_and_or n (a / 2) (b / 2) (by rw [Nat.pow_succ] at ha; omega) (by rw [Nat.pow_succ] at hb; omega)
    have e1 : (a &&& b) / 2 = (a / 2) &&& (b / 2) := Nat.and_div_two
    have e2 : (a ||| b) / 2 = (a / 2) ||| (b / 2) := Nat.or_div_two
    have e3 : (a &&& b) % 2 = (a % 2) &&& (b % 2) := by simpa using Nat.and_mod_two_pow (a := a) (b := b) (n := 1)
    have e4 : (a ||| b) % 2 = (a % 2) ||| (b % 2) := by simpa using Nat.or_mod_two_pow (a := a) (b := b) (n := 1)
    have ha2 : a % 2 = 0 ∨ a % 2 = 1 := by omega
    have hb2 : b % 2 = 0 ∨ b % 2 = 1 := by omega
    clear ha hb
    rw [← e1, ← e2] at ih
    rcases ha2 with h | h <;> rcases hb2 with h' | h' <;> rw [h, h'] at e3 e4 <;>
      simp only [Nat.and_zero, Nat.zero_and, Nat.and_self, Nat.or_zero, Nat.zero_or, Nat.or_self] at e3 e4 <;> omega
theorem bv_and_or (x y : BitVec 64) : (x &&& y) + (x ||| y) = x + y := by
  apply BitVec.eq_of_toNat_eq
  rw [BitVec.toNat_add, BitVec.toNat_add, BitVec.toNat_and, BitVec.toNat_or, nat_and_or 64 _ _ x.isLt y.isLt]
theorem toInt_add (x y : BitVec 64) : wrap64 (x.toInt + y.toInt) = (x + y).toInt := by
  rw [w64_bmod, BitVec.toInt_add]
theorem bits2 {a b : Int} (h1 : -9223372036854775808 ≤ a) (h2 : a ≤ 9223372036854775807) (h3 : -9223372036854775808 ≤ b) (h4 : b ≤ 9223372036854775807) : (doV 1 (doV 6 a b) (doV 7 a b) != doV 1 a b) = false := nb (by
  simp only [doV]
  rw [band_eq, bor_eq, toInt_add]
  have e : (BitVec.ofInt 64 a &&& BitVec.ofInt 64 b) + (BitVec.ofInt 64 a ||| BitVec.ofInt 64 b) = BitVec.ofInt 64 a + BitVec.ofInt 64 b := bv_and_or _ _
  rw [e, ← toInt_add, ofInt_toInt h1 h2, ofInt_toInt h3 h4])
theorem shN_small {n : Nat} (h : n < 64) : shN n = n := by unfold shN; omega
theorem shN_mod (n : Nat) : shN ((n : Int) % 64) = shN n := by unfold shN; omega
theorem bits4 (a : Int) (n : Nat) : (doV 10 a n == doV 10 a ((n : Int) % 64)) = true := yb (by simp only [doV]; rw [shN_mod])
def turnsP (op : Nat) : Prop := op = 1 ∨ op = 3 ∨ op = 6 ∨ op = 7 ∨ op = 8 ∨ op = 11 ∨ op = 12
theorem turn_law {op : Nat} (a b : Int) (h : turnsP op) : doV op a b = doV op b a := by
  rcases h with rfl | rfl | rfl | rfl | rfl | rfl | rfl
  · simp only [doV, Int.add_comm]
  · simp only [doV, Int.mul_comm]
  · simp only [doV]; rw [band_eq, band_eq, BitVec.and_comm]
  · simp only [doV]; rw [bor_eq, bor_eq, BitVec.or_comm]
  · simp only [doV]; rw [bxor_eq, bxor_eq, BitVec.xor_comm]
  · simp only [doV]; rw [show (a == b) = (b == a) from by rw [Bool.eq_iff_iff]; simp; omega]
  · simp only [doV]; rw [show (a != b) = (b != a) from by rw [Bool.eq_iff_iff]; simp; omega]
end Go.Proofs.YtkjjcldcfokigaaDoor.ws
