/- Plain laws of the words' operators. No program. -/
import Derived.Test.YtkjjcldcfokigaaDoorWps
namespace Go.Proofs.YtkjjcldcfokigaaDoor.ws
open Go Go.RowKit

theorem w64_mod (x : Int) : wrap64 x % 18446744073709551616 = x % 18446744073709551616 := by unfold wrap64; omega
theorem w64_eq {x y : Int} (h : x % 18446744073709551616 = y % 18446744073709551616) : wrap64 x = wrap64 y := by unfold wrap64; omega
theorem w64_in {x : Int} (h1 : -9223372036854775808 ≤ x) (h2 : x ≤ 9223372036854775807) : wrap64 x = x := by unfold wrap64; omega
theorem w64_lo (x : Int) : -9223372036854775808 ≤ wrap64 x := by unfold wrap64; omega
theorem w64_hi (x : Int) : wrap64 x ≤ 9223372036854775807 := by unfold wrap64; omega
theorem w64_add_l (x y : Int) : wrap64 (wrap64 x + y) = wrap64 (x + y) := w64_eq (by rw [Int.add_emod, w64_mod, ← Int.add_emod])
theorem w64_add_r (x y : Int) : wrap64 (x + wrap64 y) = wrap64 (x + y) := w64_eq (by rw [Int.add_emod, w64_mod, ← Int.add_emod])
theorem w64_mul_l (x y : Int) : wrap64 (wrap64 x * y) = wrap64 (x * y) := w64_eq (by rw [Int.mul_emod, w64_mod, ← Int.mul_emod])
theorem w64_mul_r (x y : Int) : wrap64 (x * wrap64 y) = wrap64 (x * y) := w64_eq (by rw [Int.mul_emod, w64_mod, ← Int.mul_emod])
theorem w64_sub_r (x y : Int) : wrap64 (x - wrap64 y) = wrap64 (x - y) := w64_eq (by rw [Int.sub_emod, w64_mod, ← Int.sub_emod])
theorem w64_w64 (x : Int) : wrap64 (wrap64 x) = wrap64 x := w64_in (w64_lo x) (w64_hi x)
theorem nb {a b : Int} (h : a = b) : (a != b) = false := by rw [h]; simp
theorem yb {a b : Int} (h : a = b) : (a == b) = true := by rw [h]; simp

theorem ring1 (a b c : Int) : (doV 1 a (doV 1 b c) != doV 1 (doV 1 a b) c) = false := nb (by simp only [doV, w64_add_l, w64_add_r, Int.add_assoc])
theorem ring2 (a b c : Int) : (doV 3 a (doV 3 b c) != doV 3 (doV 3 a b) c) = false := nb (by simp only [doV, w64_mul_l, w64_mul_r, Int.mul_assoc])
theorem ring3 (a b : Int) : (doV 1 a b != doV 1 b a) = false := nb (by simp only [doV, Int.add_comm])
theorem ring4 (a b : Int) : (doV 3 a b != doV 3 b a) = false := nb (by simp only [doV, Int.mul_comm])
theorem ring5 (a b c : Int) : (doV 3 a (doV 1 b c) == doV 1 (doV 3 a b) (doV 3 a c)) = true := yb (by simp only [doV, w64_mul_r, w64_add_l, w64_add_r, Int.mul_add])
theorem ring6 (a b : Int) : (doV 2 a b == doV 1 a (oneV 17 b)) = true := yb (by simp only [doV, oneV, w64_add_r]; rw [Int.sub_eq_add_neg])
theorem ring7 (a : Int) : (doV 1 a (oneV 17 a) == 0) = true := yb (by simp only [doV, oneV, w64_add_r]; rw [Int.add_right_neg]; exact w64_in (by omega) (by omega))
theorem ring8 (a : Int) (h1 : -9223372036854775808 ≤ a) (h2 : a ≤ 9223372036854775807) : (doV 3 a 1 == a) = true := yb (by simp only [doV, Int.mul_one]; exact w64_in h1 h2)
theorem ring9 (a : Int) (h1 : -9223372036854775808 ≤ a) (h2 : a ≤ 9223372036854775807) : (doV 1 a 0 == a) = true := yb (by simp only [doV, Int.add_zero]; exact w64_in h1 h2)

theorem tr01 (c : Bool) : tr c = 0 ∨ tr c = 1 := by cases c <;> simp [tr]
theorem ord1 (a b : Int) : (doV 13 a b + doV 11 a b + doV 15 a b != 1) = false := nb (by
  simp only [doV, tr]
  by_cases h1 : a < b
  · simp [h1, show ¬ a = b by omega, show ¬ b < a by omega]
  · by_cases h2 : a = b
    · subst h2; simp
    · simp [h1, h2, show b < a by omega])
theorem ord2 (a b : Int) : (doV 14 a b != 1 - doV 15 a b) = false := nb (by
  simp only [doV, tr]; by_cases h : a ≤ b
  · simp [h, show ¬ b < a by omega]
  · simp [h, show b < a by omega])
theorem ord3 (a b : Int) : (doV 16 a b != 1 - doV 13 a b) = false := nb (by
  simp only [doV, tr]; by_cases h : b ≤ a
  · simp [h, show ¬ a < b by omega]
  · simp [h, show a < b by omega])
theorem ord4 (a b : Int) : (doV 12 a b != 1 - doV 11 a b) = false := nb (by
  simp only [doV, tr]; by_cases h : a = b
  · simp [h]
  · simp [h])
theorem ord5 (a b : Int) : (doV 13 a b != doV 15 b a) = false := nb rfl

theorem tmod_lt {a b : Int} (ha : 0 ≤ a) (h : b ≠ 0) : a.tmod b < b.natAbs := by
  rw [Int.tmod_eq_emod_of_nonneg ha]; exact Int.emod_lt a h
/-- the remainder: cut towards 0 -/
theorem rem_eq {a b : Int} (ha1 : -9223372036854775808 ≤ a) (ha2 : a ≤ 9223372036854775807) (hb1 : -9223372036854775808 ≤ b) (hb2 : b ≤ 9223372036854775807) (h : b ≠ 0) : rem a b = a.tmod b := by
  have e := Int.mul_tdiv_add_tmod a b
  unfold rem quo
  rw [if_neg h, if_neg h, w64_mul_l, w64_sub_r]
  have e2 : a - a.tdiv b * b = a.tmod b := by rw [Int.mul_comm]; omega
  rw [e2]
  by_cases hs : 0 ≤ a
  · have l1 := Int.tmod_nonneg b hs
    have l2 : a.tmod b < b.natAbs := tmod_lt hs h
    exact w64_in (by omega) (by omega)
  · have hn : (-a).tmod b = -(a.tmod b) := Int.neg_tmod a b
    have l1 := Int.tmod_nonneg (a := -a) b (by omega)
    have l2 : (-a).tmod b < b.natAbs := tmod_lt (by omega) h
    exact w64_in (by omega) (by omega)
theorem div_back {a b : Int} (ha1 : -9223372036854775808 ≤ a) (ha2 : a ≤ 9223372036854775807) (h : b ≠ 0) : (doV 1 (doV 3 (doV 4 a b) b) (doV 5 a b) != a) = false := nb (by
  simp only [doV]
  unfold rem
  rw [if_neg h, w64_sub_r, w64_add_l, w64_add_r]
  rw [show quo a b * b + (a - quo a b * b) = a by omega]
  exact w64_in ha1 ha2)
theorem rem_bounds {a b : Int} (ha1 : -9223372036854775808 ≤ a) (ha2 : a ≤ 9223372036854775807) (hb1 : -9223372036854775808 ≤ b) (hb2 : b ≤ 9223372036854775807) (h : b ≠ 0) :
    (rem a b).natAbs < b.natAbs ∧ (0 ≤ a → 0 ≤ rem a b) ∧ (a ≤ 0 → rem a b ≤ 0) := by
  rw [rem_eq ha1 ha2 hb1 hb2 h]
  have hn : (-a).tmod b = -(a.tmod b) := Int.neg_tmod a b
  by_cases hs : 0 ≤ a
  · have l1 := Int.tmod_nonneg b hs
    have l2 : a.tmod b < b.natAbs := tmod_lt hs h
    refine ⟨by omega, fun _ => l1, fun h0 => ?_⟩
    obtain rfl : a = 0 := by omega
    simp
  · have l1 := Int.tmod_nonneg (a := -a) b (by omega)
    have l2 : (-a).tmod b < b.natAbs := tmod_lt (by omega) h
    exact ⟨by omega, fun h0 => absurd h0 hs, fun _ => by omega⟩
end Go.Proofs.YtkjjcldcfokigaaDoor.ws
