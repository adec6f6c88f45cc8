/- Plain arithmetic of words: what the operators make of two words. No program. -/
import Derived.WalkKit
namespace Go.Proofs.YtkjjcldcfokigaaDoor.ws
open Go Go.RowKit

theorem ret_int {k : IntKind} {a b : Int} (h : a = b) : Ending.returned (.int k a) = .returned (.int k b) := by rw [h]
theorem ret_bool {a b : Bool} (h : a = b) : Ending.returned (.bool a) = .returned (.bool b) := by rw [h]
theorem ret_str {a b : ByteArray} (h : a = b) : Ending.returned (.string a) = .returned (.string b) := by rw [h]

def shN (b : Int) : Nat := (b % 64).toNat
def band (a b : Int) : Int := IntKind.i64.wrap ((BitVec.ofInt 64 a &&& BitVec.ofInt 64 b).toNat)
def bor (a b : Int) : Int := IntKind.i64.wrap ((BitVec.ofInt 64 a ||| BitVec.ofInt 64 b).toNat)
def bxor (a b : Int) : Int := IntKind.i64.wrap ((BitVec.ofInt 64 a ^^^ BitVec.ofInt 64 b).toNat)
def quo (a b : Int) : Int := if b = 0 then 0 else wrap64 (a.tdiv b)
def tr (c : Bool) : Int := if c then 1 else 0
def rem (a b : Int) : Int := if b = 0 then a else wrap64 (a - wrap64 (quo a b * b))

/-- what the operator of two with number op makes of a and b -/
def doV (op : Nat) (a b : Int) : Int :=
  match op with
  | 1 => wrap64 (a + b) | 2 => wrap64 (a - b) | 3 => wrap64 (a * b) | 4 => quo a b | 5 => rem a b
  | 6 => band a b | 7 => bor a b | 8 => bxor a b
  | 9 => wrap64 (a * 2 ^ shN b) | 10 => a / 2 ^ shN b
  | 11 => tr (a == b) | 12 => tr (a != b) | 13 => tr (decide (a < b)) | 14 => tr (decide (a ≤ b))
  | 15 => tr (decide (b < a)) | 16 => tr (decide (b ≤ a)) | _ => 0
def oneV (op : Nat) (a : Int) : Int :=
  match op with
  | 17 => wrap64 (-a) | 18 => tr (a == 0) | _ => 0

theorem and63_nat (b : Int) : (BitVec.ofInt 64 b &&& BitVec.ofInt 64 63).toNat = shN b := by
  have e : (BitVec.ofInt 64 63).toNat = 2 ^ 6 - 1 := by decide
  rw [BitVec.toNat_and, e, Nat.and_two_pow_sub_one_eq_mod, BitVec.toNat_ofInt]
  unfold shN
  omega
theorem shN_lt (b : Int) : shN b < 64 := by unfold shN; omega
theorem shN_u64 (b : Int) : shN (IntKind.u64.wrap b) = shN b := by unfold shN; rw [IntKind.wrap_u64]; omega
theorem bits_and63 (b : Int) : bits BinOp.and IntKind.u64 (IntKind.u64.wrap b) 63 = ((shN b : Nat) : Int) := by
  have h := shN_lt b
  show IntKind.u64.wrap ((BitVec.ofInt 64 (IntKind.u64.wrap b) &&& BitVec.ofInt 64 63).toNat : Nat) = _
  rw [and63_nat, shN_u64, IntKind.wrap_u64]; omega
theorem bits_and63' (b : Int) : bits BinOp.and IntKind.i64 b 63 = ((shN b : Nat) : Int) := by
  have h := shN_lt b
  show IntKind.i64.wrap ((BitVec.ofInt 64 b &&& BitVec.ofInt 64 63).toNat : Nat) = _
  rw [and63_nat, IntKind.wrap_i64]; omega
theorem bits_band (a b : Int) : bits BinOp.and IntKind.i64 a b = band a b := rfl
theorem bits_bor (a b : Int) : bits BinOp.or IntKind.i64 a b = bor a b := rfl
theorem bits_bxor (a b : Int) : bits BinOp.xor IntKind.i64 a b = bxor a b := rfl

end Go.Proofs.YtkjjcldcfokigaaDoor.ws
