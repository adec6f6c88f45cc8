/- Print, of the package and of the reference. -/
import Derived.Test.YtkjjcldcfokigaaDoorW3
import Derived.Test.YtkjjcldcfokigaaDoorWps
import Derived.ShutString
namespace Go.Proofs.YtkjjcldcfokigaaDoor.ws
open Go Go.RowKit Go.Lib

/-- what stands in the block after j digits -/
def prRow (l : List UInt8) : Array Value := (List.replicate (20 - l.length) (Value.int .u8 0) ++ l.map fun c => Value.int .u8 c.toNat).toArray

theorem prRow_eq (l : List UInt8) : (prRow l).toList = List.replicate (20 - l.length) (Value.int .u8 0) ++ l.map fun c => Value.int .u8 c.toNat := rfl
theorem prRow_get (l : List UInt8) (p : Nat) (hp : 1 ≤ p) (hl : p + l.length = 20) : (prRow l)[p - 1]? = some (.int .u8 0) := by
  unfold prRow
  have h : 20 - l.length = (p - 1) + 1 := by omega
  rw [List.getElem?_toArray, List.getElem?_append_left (by simp; omega), h, List.getElem?_replicate, if_pos (by omega)]
theorem prRow_set (l : List UInt8) (c : UInt8) (p : Nat) (hp : 1 ≤ p) (hl : p + l.length = 20) : (prRow l).setIfInBounds (p - 1) (.int .u8 c.toNat) = prRow (c :: l) := by
  unfold prRow
  have h : 20 - l.length = (p - 1) + 1 := by omega
  have h' : 20 - (c :: l).length = p - 1 := by simp; omega
  rw [h, h', List.setIfInBounds_toArray, List.replicate_succ', List.append_assoc]
  congr 1
  rw [List.set_append_right _ _ (by simp)]
  simp
theorem prRow_at (l : List UInt8) (p i : Nat) (hl : p + l.length = 20) (hi : i < l.length) : (prRow l)[p + i]? = some (.int .u8 (l[i]'hi).toNat) := by
  unfold prRow
  rw [List.getElem?_toArray, List.getElem?_append_right (by simp; omega)]
  simp [show p + i - (20 - l.length) = i by omega, hi]
theorem slice_end (B p : Nat) (hp : 1 ≤ p) (hp2 : p ≤ 20) (W : World) :
    (Instr.sliceAt 59 (.pointer (some ⟨B, 0, none⟩)) (some (.int .i64 ((p : Int) - 1))) none none).run Tryd.prog W = .ok (.slice (some ⟨B, p - 1, none⟩) (21 - p) (21 - p)) W := by
  have hal : Tryd.prog.arrayLen 59 = 20 := by kernel_rfl
  have hu : Tryd.prog.underlying 59 = some (.array (Tryd.prog.arrayLen 59) (Tryd.prog.elem 59)) := by kernel_rfl
  have hz : ∀ W, (sizeOf (Tryd.prog.elem 59)).run Tryd.prog W = .ok 1 W := fun W => by kernel_rfl
  rw [run_sliceAt_array_l W _ _ hu .i64 _ (by omega) (by rw [hal]; omega), hz]
  simp only [Result.andThen, slicedAt, hal]
  have e : ((p : Int) - 1).toNat = p - 1 := by omega
  rw [e, if_neg (by omega)]
  have e2 : (⟨B, 0, none⟩ : Addr).add ((p - 1) * 1) = ⟨B, p - 1, none⟩ := by
    unfold Addr.add
    by_cases h : (p - 1) * 1 = 0
    · rw [if_pos h, show p - 1 = 0 by omega]
    · rw [if_neg h]; simp
  rw [e2, show 20 - (p - 1) = 21 - p by omega]
theorem conv_end (l : List UInt8) (p n : Nat) (w : World) (hl : p + l.length = 20) (hn : l.length = n) :
    (convert 60 9 (.slice (some ⟨w.heap.size, p, none⟩) n n)).run Tryd.prog (w.alloc (.cells (prRow l) 59)) = .ok (.string ⟨l.toArray⟩) (w.alloc (.cells (prRow l) 59)) := by
  subst hn
  refine run_convert_bytes_back _ _ _ 5 _ _ l Tryd.underlying60 Tryd.underlying5 Tryd.underlying9 fun j hj => ?_
  have e : (⟨w.heap.size, p, none⟩ : Addr).add j = ⟨w.heap.size, p + j, none⟩ := by
    unfold Addr.add; split <;> simp_all
  rw [e, World.cell?_alloc_at _ _ _ _ rfl, prRow_at l p j hl hj]
theorem dig_toNat (n : Nat) : (dch (n % 10)).toNat = 48 + n % 10 := dch_toNat (by omega)

theorem pow_bound {n j : Nat} (h : n * 10 ^ j ≤ 9223372036854775808) (hn : 0 < n) : j ≤ 18 := by
  apply Decidable.byContradiction
  intro hj
  have h1 : 10 ^ 19 ≤ 10 ^ j := Nat.pow_le_pow_right (by decide) (by omega)
  have h2 : 1 * 10 ^ j ≤ n * 10 ^ j := Nat.mul_le_mul_right _ hn
  have h3 : (10 : Nat) ^ 19 = 10000000000000000000 := by decide
  omega
theorem pow_step {n j N : Nat} (h : n * 10 ^ j ≤ N) : n / 10 * 10 ^ (j + 1) ≤ N := by
  have h1 : n / 10 * 10 ≤ n := Nat.div_mul_le_self n 10
  have h2 := Nat.mul_le_mul_right (10 ^ j) h1
  have h3 : n / 10 * 10 ^ (j + 1) = n / 10 * 10 * 10 ^ j := by rw [Nat.pow_succ, Nat.mul_assoc, Nat.mul_comm 10]
  omega

def rowOf (p : Nat) (d : Int) (l : List UInt8) : Array Value := (prRow l).setIfInBounds (p - 1) (.int .u8 d)
theorem rowOf_eq (p m : Nat) (l : List UInt8) (hp : 1 ≤ p) (hl : p + l.length = 20) : (prRow l).setIfInBounds (p - 1) (.int .u8 (48 + (m : Int) % 10)) = prRow (dch (m % 10) :: l) := by
  rw [← prRow_set l _ p hp hl, dig_toNat]
  rfl
theorem minus_eq (p : Nat) (l : List UInt8) (hp : 1 ≤ p) (hl : p + l.length = 20) : (prRow l).setIfInBounds (p - 1) (.int .u8 45) = prRow (45 :: l) := prRow_set l 45 p hp hl

set_option maxHeartbeats 1000000 in
theorem print_pos (N : Nat) (w : World) (hN : N ≤ 9223372036854775807) :
    Calls Tryd.prog 17 #[.int .i64 N] w fun e w' => e = .returned (.string ⟨(prn N).toArray⟩) ∧ Below w.heap.size w w' := by
  have R : Hid (prn N = dig N) := by
    show prn N = dig N
    unfold prn; rw [if_neg (by omega)]; rfl
  go_enter Tryd.func17, Tryd.ntmps17
  go_wp2
  go_loopw [4, 5] (fun a n wr => ∃ (l : List UInt8) (p m : Nat), p + l.length = 20 ∧ 1 ≤ p ∧ a = .int .i64 p ∧ n = .int .u64 m ∧ m ≤ N ∧ Hid ((0 < l.length → 0 < m) ∧ m * 10 ^ l.length ≤ N ∧ dig N = dig m ++ l) ∧ wr = w.alloc (.cells (prRow l) 59)) (fun a _ _ => (intOf a).toNat)
  case atStart => exact ⟨[], 20, N, rfl, by omega, rfl, rfl, by omega, ⟨fun h => absurd h (by decide), by simp, by simp⟩, rfl⟩
  case round =>
    obtain ⟨l, p, m, hp, hp1, rfl, rfl, hmN, H, rfl⟩ := hrel
    have hg := prRow_get l p hp1 hp
    have hsl := slice_end w.heap.size p hp1 (by omega)
    have hrow := rowOf_eq p m l hp1 hp
    by_cases h9 : m < 10
    · have hz : (((m : Int) / 10) == 0) = true := by simp; omega
      have hcv := conv_end (dch (m % 10) :: l) (p - 1) (21 - p) w (by simp; omega) (by simp; omega)
      go_wp2
      go_ret
      refine ⟨ret_str ?_, (Below.refl _ _).alloc (Nat.le_refl _) _⟩
      rw [R.out, H.out.2.2, dig_small h9, show m % 10 = m by omega]
      rfl
    · have hz : (((m : Int) / 10) == 0) = false := by simp; omega
      go_wp2
      have hl18 : l.length + 1 ≤ 18 := pow_bound (n := m / 10) (by have := pow_step H.out.2.1; omega) (by omega)
      go_roundw
      case rel =>
        exact ⟨dch (m % 10) :: l, p - 1, m / 10, by simp; omega, by omega, by go_num, by go_num, by omega, ⟨fun _ => by omega, pow_step H.out.2.1, by rw [H.out.2.2, dig_big h9, List.append_assoc]; rfl⟩, rfl⟩
      case measure => simp [intOf]; omega

set_option maxHeartbeats 1000000 in
theorem print_neg (N : Nat) (w : World) (hN : N ≤ 9223372036854775808) (h0 : 0 < N) :
    Calls Tryd.prog 17 #[.int .i64 (-(N : Int))] w fun e w' => e = .returned (.string ⟨(prn (-(N : Int))).toArray⟩) ∧ Below w.heap.size w w' := by
  have R : Hid (prn (-(N : Int)) = 45 :: dig N) := by
    show prn _ = _
    unfold prn; rw [if_pos (by omega), Int.neg_neg]; rfl
  have hlt : -(N : Int) < 0 := by omega
  have hw : IntKind.u64.wrap (-(IntKind.u64.wrap (-(N : Int)))) = N := by rw [IntKind.wrap_u64, IntKind.wrap_u64]; omega
  go_enter Tryd.func17, Tryd.ntmps17
  go_wp2
  go_loopw [4, 5] (fun a n wr => ∃ (l : List UInt8) (p m : Nat), p + l.length = 20 ∧ 2 ≤ p ∧ a = .int .i64 p ∧ n = .int .u64 m ∧ m ≤ N ∧ Hid ((0 < l.length → 0 < m) ∧ m * 10 ^ l.length ≤ N ∧ dig N = dig m ++ l) ∧ wr = w.alloc (.cells (prRow l) 59)) (fun a _ _ => (intOf a).toNat)
  case atStart => exact ⟨[], 20, N, rfl, by omega, rfl, rfl, by omega, ⟨fun h => absurd h (by decide), by simp, by simp⟩, rfl⟩
  case round =>
    obtain ⟨l, p, m, hp, hp1, rfl, rfl, hmN, H, rfl⟩ := hrel
    have hg := prRow_get l p (by omega) hp
    have hrow := rowOf_eq p m l (by omega) hp
    by_cases h9 : m < 10
    · have hz : (((m : Int) / 10) == 0) = true := by simp; omega
      have hp' : p - 1 + (dch (m % 10) :: l).length = 20 := by simp; omega
      have hg' := prRow_get (dch (m % 10) :: l) (p - 1) (by omega) hp'
      have hmin := minus_eq (p - 1) (dch (m % 10) :: l) (by omega) hp'
      have hsl := slice_end w.heap.size (p - 1) (by omega) (by omega)
      have hcv := conv_end (45 :: dch (m % 10) :: l) (p - 1 - 1) (21 - (p - 1)) w (by simp; omega) (by simp; omega)
      have e : ((p - 1 : Nat) : Int) = (p : Int) - 1 := by omega
      rw [e] at hsl
      clear e hp'
      go_wp2
      go_ret
      refine ⟨ret_str ?_, (Below.refl _ _).alloc (Nat.le_refl _) _⟩
      rw [R.out, H.out.2.2, dig_small h9, show m % 10 = m by omega]
      rfl
    · have hz : (((m : Int) / 10) == 0) = false := by simp; omega
      go_wp2
      have hl18 : l.length + 1 ≤ 18 := pow_bound (n := m / 10) (by have := pow_step H.out.2.1; omega) (by omega)
      go_roundw
      case rel =>
        exact ⟨dch (m % 10) :: l, p - 1, m / 10, by simp; omega, by omega, by go_num, by go_num, by omega, ⟨fun _ => by omega, pow_step H.out.2.1, by rw [H.out.2.2, dig_big h9, List.append_assoc]; rfl⟩, rfl⟩
      case measure => simp [intOf]; omega

theorem print_any (v : Int) (w : World) (h1 : -9223372036854775808 ≤ v) (h2 : v ≤ 9223372036854775807) :
    Calls Tryd.prog 17 #[.int .i64 v] w fun e w' => e = .returned (.string ⟨(prn v).toArray⟩) ∧ Below w.heap.size w w' := by
  by_cases h : 0 ≤ v
  · obtain ⟨N, rfl⟩ := Int.eq_ofNat_of_zero_le h
    exact print_pos N w (by omega)
  · obtain ⟨N, hN⟩ := Int.eq_ofNat_of_zero_le (a := -v) (by omega)
    obtain rfl : v = -(N : Int) := by omega
    exact print_neg N w (by omega) (by omega)
end Go.Proofs.YtkjjcldcfokigaaDoor.ws
