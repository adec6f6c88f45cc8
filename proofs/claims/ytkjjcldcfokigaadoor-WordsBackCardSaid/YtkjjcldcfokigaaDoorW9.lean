/- Parse, at every text; lives. -/
import Derived.Test.YtkjjcldcfokigaaDoorW4
import Derived.Test.YtkjjcldcfokigaaDoorW5p
import Derived.Test.YtkjjcldcfokigaaDoorW5n
import Derived.Test.YtkjjcldcfokigaaDoorW6p
import Derived.Test.YtkjjcldcfokigaaDoorW6n
import Derived.Test.YtkjjcldcfokigaaDoorW7
import Derived.Test.YtkjjcldcfokigaaDoorW8
namespace Go.Proofs.YtkjjcldcfokigaaDoor.ws
open Go Go.RowKit Go.Lib

theorem parse_none (s : ByteArray) (w : World) (h : s.size = 0) :
    Calls Tryd.prog 15 #[.string s] w fun e w' => e = .returned (.tuple #[.int .i64 (prs s.data.toList).1, .int .i64 (prs s.data.toList).2.1, .int .i64 (prs s.data.toList).2.2]) ∧ w = w' := by
  have R := Lib.hid (prs_none h)
  have h1 := is_empty h
  have h2 : ((0 : Int) == s.size) = true := by rw [h]; rfl
  have h3 : s.toList.isEmpty = true := by rw [h1]; rfl
  clear h h1
  go_enter Tryd.func15, Tryd.ntmps15
  go_wp2
  go_ret3
  rw [R.out]
  exact ⟨rfl, rfl⟩
theorem rparse_none (s : ByteArray) (w : World) (h : s.size = 0) :
    Calls Tryd.prog 16 #[.string s] w fun e w' => e = .returned (.tuple #[.int .i64 (prs s.data.toList).1, .int .i64 (prs s.data.toList).2.1, .int .i64 (prs s.data.toList).2.2]) ∧ w = w' := by
  have R := Lib.hid (prs_none h)
  have h1 : ¬ (0 : Int) < s.size := by omega
  have h2 : ¬ (0 : Int) < 0 := by omega
  have hs : (s.size : Int) ≤ 0 := by omega
  clear h
  go_enter Tryd.func16, Tryd.ntmps16
  go_wp2_with fail
  go_loop [8, 6] (fun n i => n = .int .u64 0 ∧ i = .int .i64 0) (fun _ _ => 0)
  case atStart => exact ⟨rfl, rfl⟩
  case round =>
    obtain ⟨rfl, rfl⟩ := hrel
    go_wp2
    go_ret3
    rw [R.out]
    exact ⟨rfl, rfl⟩
theorem parse_any (s : ByteArray) (w : World) (hs : s.size ≤ 9223372036854775807) :
    Calls Tryd.prog 15 #[.string s] w fun e w' => e = .returned (.tuple #[.int .i64 (prs s.data.toList).1, .int .i64 (prs s.data.toList).2.1, .int .i64 (prs s.data.toList).2.2]) ∧ w = w' := by
  by_cases h : s.size = 0
  · exact parse_none s w h
  · by_cases h0 : (s[0]'(by omega)).toNat = 45
    · exact parse_neg s w hs (by omega) h0
    · exact parse_pos s w hs (by omega) h0
theorem rparse_any (s : ByteArray) (w : World) (hs : s.size ≤ 9223372036854775807) :
    Calls Tryd.prog 16 #[.string s] w fun e w' => e = .returned (.tuple #[.int .i64 (prs s.data.toList).1, .int .i64 (prs s.data.toList).2.1, .int .i64 (prs s.data.toList).2.2]) ∧ w = w' := by
  by_cases h : s.size = 0
  · exact rparse_none s w h
  · by_cases h0 : (s[0]'(by omega)).toNat = 45
    · exact rparse_neg s w hs (by omega) h0
    · exact rparse_pos s w hs (by omega) h0

theorem prs_12 : prs [45, 49, 50] = (-12, 0, 0) := by decide
theorem prn_12 : prn (-12) = [45, 49, 50] := by
  have h : dig 12 = [49, 50] := by rw [dig_big (by decide), dig_small (by decide)]; decide
  simp [prn, h]
theorem do_1 (w : World) : Calls Tryd.prog 10 #[.int .u8 1, .int .i64 9223372036854775807, .int .i64 1] w fun e w' => e = .returned (.tuple #[.int .i64 (-9223372036854775808), .int .i64 0]) ∧ Below w.heap.size w w' := by
  refine (do_any 1 9223372036854775807 1 w).mono ?_
  rintro e w' ⟨rfl, rfl⟩
  exact ⟨ret_int2 (by decide +kernel) (by decide), (Below.refl _ _).alloc (Nat.le_refl _) _⟩
theorem one_18 (w : World) : Calls Tryd.prog 12 #[.int .u8 18, .int .i64 7] w fun e w' => e = .returned (.tuple #[.int .i64 0, .int .i64 0]) ∧ Below w.heap.size w w' := by
  refine (one_any 18 7 w).mono ?_
  rintro e w' ⟨rfl, rfl⟩
  exact ⟨ret_int2 (by decide +kernel) (by decide), (Below.refl _ _).alloc (Nat.le_refl _) _⟩
theorem parse_12 (w : World) : Calls Tryd.prog 15 #[.string ⟨#[45, 49, 50]⟩] w fun e w' => e = .returned (.tuple #[.int .i64 (-12), .int .i64 0, .int .i64 0]) ∧ w = w' := by
  refine (parse_any ⟨#[45, 49, 50]⟩ w (by decide)).mono ?_
  rintro e w' ⟨rfl, rfl⟩
  have h : prs (ByteArray.mk #[45, 49, 50]).data.toList = (-12, 0, 0) := prs_12
  rw [h]
  exact ⟨rfl, rfl⟩
theorem print_12 (w : World) : Calls Tryd.prog 17 #[.int .i64 (-12)] w fun e w' => e = .returned (.string ⟨#[45, 49, 50]⟩) ∧ Below w.heap.size w w' := by
  refine (print_any (-12) w (by decide) (by decide)).mono ?_
  rintro e w' ⟨rfl, h⟩
  exact ⟨ret_str (by rw [prn_12]), h⟩
theorem show_9 (w : World) (ht : Tab w) : Calls Tryd.prog 23 #[.int .u8 9] w fun e w' => e = .returned (.string ⟨#[60, 60]⟩) ∧ w = w' := show_any 9 w ht

set_option maxHeartbeats 1000000 in
theorem lives_any (w : World) (ht : Tab w) :
    Calls Tryd.prog 14 #[] w fun e w' => e = .returned (.bool true) ∧ Below w.heap.size w w' := by
  have HT := Lib.hid ht
  clear ht
  go_enter Tryd.func14, Tryd.ntmps14
  go_wp2_with (first
    | (go_at_call 10; refine (do_1 _).mono ?_; rintro e w1 ⟨rfl, hb1⟩)
    | (go_at_call 12; refine (one_18 _).mono ?_; rintro e w2 ⟨rfl, hb2⟩)
    | (go_at_call 15; refine (parse_12 _).mono ?_; rintro e w3 ⟨rfl, rfl⟩)
    | (go_at_call 17; refine (print_12 _).mono ?_; rintro e w4 ⟨rfl, hb4⟩)
    | (go_at_call 23; refine (show_9 _ (((HT.out.below hb1).below hb2).below hb4)).mono ?_; rintro e w5 ⟨rfl, rfl⟩))
  go_ret
  have h1 := hb1.size
  have h2 := hb2.size
  exact ⟨rfl, (hb1.trans (hb2.mono h1)).trans (hb4.mono (Nat.le_trans h1 h2))⟩
end Go.Proofs.YtkjjcldcfokigaaDoor.ws
