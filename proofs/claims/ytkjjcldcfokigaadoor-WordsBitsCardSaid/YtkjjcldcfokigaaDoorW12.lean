/- The law without the document on bits. -/
import Derived.Test.YtkjjcldcfokigaaDoorW10
import Derived.Test.YtkjjcldcfokigaaDoorWlb
namespace Go.Proofs.YtkjjcldcfokigaaDoor.ws
open Go Go.RowKit Go.Lib

theorem turns_iff (op : Nat) : turns op = true ↔ turnsP op := by simp [turns, turnsP]
theorem not0 : oneV 18 0 = 1 := rfl
theorem not1 : oneV 18 1 = 0 := rfl
theorem bits3 (a : Int) {n : Nat} (h : n < 63) : (doV 9 a n != doV 3 a (wrap64 (2 ^ n))) = false := nb (by
  simp only [doV]; rw [shN_small (by omega), w64_mul_r])

set_option maxHeartbeats 4000000 in
theorem bits_core (op : Nat) (a b : Int) (n : Nat) (w : World) (ht : Tab w) (ha1 : -9223372036854775808 ≤ a) (ha2 : a ≤ 9223372036854775807) (hb1 : -9223372036854775808 ≤ b) (hb2 : b ≤ 9223372036854775807) (hn : n ≤ 255) (h63 : 63 ≤ n) :
    Calls Tryd.prog 7 #[.int .u8 op, .int .i64 a, .int .i64 b, .int .u8 n] w fun e w' => e = .returned (.bool true) ∧ Below w.heap.size w w' := by
  have hk := Ok.first ht
  have f1 := bits1 b ha1 ha2
  have f2 := bits2 ha1 ha2 hb1 hb2
  have f3 := bits4 a n
  have G2 := Lib.hid not0
  have G3 := Lib.hid not1
  clear ht
  have T0 : turns op = false ∨ (turns op = true ∧ (doV op a b == doV op b a) = true) := by
    cases ht : turns op
    · exact .inl rfl
    · exact .inr ⟨rfl, yb (turn_law a b ((turns_iff op).1 ht))⟩
  rcases T0 with ht | ⟨ht, T⟩
  all_goals
    have G5 := Lib.hid ht
    clear ht
    by_cases ha : a = 0
    · have ha' : (a == 0) = true := by simpa using ha
      have G1 := Lib.hid (show oneV 18 a = 1 by rw [ha]; rfl)
      clear ha
      go_enter Tryd.func7, Tryd.ntmps7
      go_wp2_with (first
        | (go_at_call 14; refine (l_lives (by assumption)).mono ?_; rintro e w1 ⟨rfl, hk⟩)
        | (go_at_call_of 12 (Value.int IntKind.i64 a); refine (l_not _ (by assumption)).mono ?_; rw [G1.out]; rintro e w1 ⟨rfl, hk⟩)
        | (go_at_call_of 12 (Value.int IntKind.i64 0); refine (l_not _ (by assumption)).mono ?_; rw [G2.out]; rintro e w1 ⟨rfl, hk⟩)
        | (go_at_call_of 12 (Value.int IntKind.i64 1); refine (l_not _ (by assumption)).mono ?_; rw [G3.out]; rintro e w1 ⟨rfl, hk⟩)
        | (go_at_call 21; refine (turns_any op _).mono ?_; rw [G5.out]; rintro e w1 ⟨rfl, rfl⟩)
        | (go_at_call_of 19 (Value.int IntKind.u8 (op : Int)); refine (l_lawdo op _ _ (by assumption)).mono ?_; rintro e w1 ⟨rfl, hk⟩)
        | (go_at_call_of 19 (Value.int IntKind.u8 1); refine (l_lawdo1 _ _ (by assumption)).mono ?_; rintro e w1 ⟨rfl, hk⟩)
        | (go_at_call_of 19 (Value.int IntKind.u8 3); refine (l_lawdo3 _ _ (by assumption)).mono ?_; rintro e w1 ⟨rfl, hk⟩)
        | (go_at_call_of 19 (Value.int IntKind.u8 6); refine (l_lawdo6 _ _ (by assumption)).mono ?_; rintro e w1 ⟨rfl, hk⟩)
        | (go_at_call_of 19 (Value.int IntKind.u8 7); refine (l_lawdo7 _ _ (by assumption)).mono ?_; rintro e w1 ⟨rfl, hk⟩)
        | (go_at_call_of 19 (Value.int IntKind.u8 8); refine (l_lawdo8 _ _ (by assumption)).mono ?_; rintro e w1 ⟨rfl, hk⟩)
        | (go_at_call_of 19 (Value.int IntKind.u8 9); refine (l_lawdo9 _ _ (by assumption)).mono ?_; rintro e w1 ⟨rfl, hk⟩)
        | (go_at_call_of 19 (Value.int IntKind.u8 10); refine (l_lawdo10 _ _ (by assumption)).mono ?_; rintro e w1 ⟨rfl, hk⟩))
      all_goals first | (exfalso; omega) | (go_ret; exact ⟨rfl, (show Ok w _ by assumption).below⟩)
    · have ha' : (a == 0) = false := by simpa using ha
      have G1 := Lib.hid (show oneV 18 a = 0 by simp [oneV, tr, ha])
      clear ha
      go_enter Tryd.func7, Tryd.ntmps7
      go_wp2_with (first
        | (go_at_call 14; refine (l_lives (by assumption)).mono ?_; rintro e w1 ⟨rfl, hk⟩)
        | (go_at_call_of 12 (Value.int IntKind.i64 a); refine (l_not _ (by assumption)).mono ?_; rw [G1.out]; rintro e w1 ⟨rfl, hk⟩)
        | (go_at_call_of 12 (Value.int IntKind.i64 0); refine (l_not _ (by assumption)).mono ?_; rw [G2.out]; rintro e w1 ⟨rfl, hk⟩)
        | (go_at_call_of 12 (Value.int IntKind.i64 1); refine (l_not _ (by assumption)).mono ?_; rw [G3.out]; rintro e w1 ⟨rfl, hk⟩)
        | (go_at_call 21; refine (turns_any op _).mono ?_; rw [G5.out]; rintro e w1 ⟨rfl, rfl⟩)
        | (go_at_call_of 19 (Value.int IntKind.u8 (op : Int)); refine (l_lawdo op _ _ (by assumption)).mono ?_; rintro e w1 ⟨rfl, hk⟩)
        | (go_at_call_of 19 (Value.int IntKind.u8 1); refine (l_lawdo1 _ _ (by assumption)).mono ?_; rintro e w1 ⟨rfl, hk⟩)
        | (go_at_call_of 19 (Value.int IntKind.u8 3); refine (l_lawdo3 _ _ (by assumption)).mono ?_; rintro e w1 ⟨rfl, hk⟩)
        | (go_at_call_of 19 (Value.int IntKind.u8 6); refine (l_lawdo6 _ _ (by assumption)).mono ?_; rintro e w1 ⟨rfl, hk⟩)
        | (go_at_call_of 19 (Value.int IntKind.u8 7); refine (l_lawdo7 _ _ (by assumption)).mono ?_; rintro e w1 ⟨rfl, hk⟩)
        | (go_at_call_of 19 (Value.int IntKind.u8 8); refine (l_lawdo8 _ _ (by assumption)).mono ?_; rintro e w1 ⟨rfl, hk⟩)
        | (go_at_call_of 19 (Value.int IntKind.u8 9); refine (l_lawdo9 _ _ (by assumption)).mono ?_; rintro e w1 ⟨rfl, hk⟩)
        | (go_at_call_of 19 (Value.int IntKind.u8 10); refine (l_lawdo10 _ _ (by assumption)).mono ?_; rintro e w1 ⟨rfl, hk⟩))
      all_goals first | (exfalso; omega) | (go_ret; exact ⟨rfl, (show Ok w _ by assumption).below⟩)

set_option maxHeartbeats 4000000 in
theorem bits_low (op : Nat) (a b : Int) (n : Nat) (w : World) (ht : Tab w) (ha1 : -9223372036854775808 ≤ a) (ha2 : a ≤ 9223372036854775807) (hb1 : -9223372036854775808 ≤ b) (hb2 : b ≤ 9223372036854775807) (hn : n ≤ 255) (h63 : n < 63) :
    Calls Tryd.prog 7 #[.int .u8 op, .int .i64 a, .int .i64 b, .int .u8 n] w fun e w' => e = .returned (.bool true) ∧ Below w.heap.size w w' := by
  have hk := Ok.first ht
  have f1 := bits1 b ha1 ha2
  have f2 := bits2 ha1 ha2 hb1 hb2
  have f3 := bits4 a n
  have f4 := bits3 a h63
  have G2 := Lib.hid not0
  have G3 := Lib.hid not1
  clear ht
  have T0 : turns op = false ∨ (turns op = true ∧ (doV op a b == doV op b a) = true) := by
    cases ht : turns op
    · exact .inl rfl
    · exact .inr ⟨rfl, yb (turn_law a b ((turns_iff op).1 ht))⟩
  rcases T0 with ht | ⟨ht, T⟩
  all_goals
    have G5 := Lib.hid ht
    clear ht
    by_cases ha : a = 0
    · have ha' : (a == 0) = true := by simpa using ha
      have G1 := Lib.hid (show oneV 18 a = 1 by rw [ha]; rfl)
      clear ha
      go_enter Tryd.func7, Tryd.ntmps7
      go_wp2_with (first
        | (go_at_call 14; refine (l_lives (by assumption)).mono ?_; rintro e w1 ⟨rfl, hk⟩)
        | (go_at_call_of 12 (Value.int IntKind.i64 a); refine (l_not _ (by assumption)).mono ?_; rw [G1.out]; rintro e w1 ⟨rfl, hk⟩)
        | (go_at_call_of 12 (Value.int IntKind.i64 0); refine (l_not _ (by assumption)).mono ?_; rw [G2.out]; rintro e w1 ⟨rfl, hk⟩)
        | (go_at_call_of 12 (Value.int IntKind.i64 1); refine (l_not _ (by assumption)).mono ?_; rw [G3.out]; rintro e w1 ⟨rfl, hk⟩)
        | (go_at_call 21; refine (turns_any op _).mono ?_; rw [G5.out]; rintro e w1 ⟨rfl, rfl⟩)
        | (go_at_call_of 19 (Value.int IntKind.u8 (op : Int)); refine (l_lawdo op _ _ (by assumption)).mono ?_; rintro e w1 ⟨rfl, hk⟩)
        | (go_at_call_of 19 (Value.int IntKind.u8 1); refine (l_lawdo1 _ _ (by assumption)).mono ?_; rintro e w1 ⟨rfl, hk⟩)
        | (go_at_call_of 19 (Value.int IntKind.u8 3); refine (l_lawdo3 _ _ (by assumption)).mono ?_; rintro e w1 ⟨rfl, hk⟩)
        | (go_at_call_of 19 (Value.int IntKind.u8 6); refine (l_lawdo6 _ _ (by assumption)).mono ?_; rintro e w1 ⟨rfl, hk⟩)
        | (go_at_call_of 19 (Value.int IntKind.u8 7); refine (l_lawdo7 _ _ (by assumption)).mono ?_; rintro e w1 ⟨rfl, hk⟩)
        | (go_at_call_of 19 (Value.int IntKind.u8 8); refine (l_lawdo8 _ _ (by assumption)).mono ?_; rintro e w1 ⟨rfl, hk⟩)
        | (go_at_call_of 19 (Value.int IntKind.u8 9); refine (l_lawdo9 _ _ (by assumption)).mono ?_; rintro e w1 ⟨rfl, hk⟩)
        | (go_at_call_of 19 (Value.int IntKind.u8 10); refine (l_lawdo10 _ _ (by assumption)).mono ?_; rintro e w1 ⟨rfl, hk⟩))
      all_goals first | (exfalso; omega) | (go_ret; exact ⟨rfl, (show Ok w _ by assumption).below⟩)
    · have ha' : (a == 0) = false := by simpa using ha
      have G1 := Lib.hid (show oneV 18 a = 0 by simp [oneV, tr, ha])
      clear ha
      go_enter Tryd.func7, Tryd.ntmps7
      go_wp2_with (first
        | (go_at_call 14; refine (l_lives (by assumption)).mono ?_; rintro e w1 ⟨rfl, hk⟩)
        | (go_at_call_of 12 (Value.int IntKind.i64 a); refine (l_not _ (by assumption)).mono ?_; rw [G1.out]; rintro e w1 ⟨rfl, hk⟩)
        | (go_at_call_of 12 (Value.int IntKind.i64 0); refine (l_not _ (by assumption)).mono ?_; rw [G2.out]; rintro e w1 ⟨rfl, hk⟩)
        | (go_at_call_of 12 (Value.int IntKind.i64 1); refine (l_not _ (by assumption)).mono ?_; rw [G3.out]; rintro e w1 ⟨rfl, hk⟩)
        | (go_at_call 21; refine (turns_any op _).mono ?_; rw [G5.out]; rintro e w1 ⟨rfl, rfl⟩)
        | (go_at_call_of 19 (Value.int IntKind.u8 (op : Int)); refine (l_lawdo op _ _ (by assumption)).mono ?_; rintro e w1 ⟨rfl, hk⟩)
        | (go_at_call_of 19 (Value.int IntKind.u8 1); refine (l_lawdo1 _ _ (by assumption)).mono ?_; rintro e w1 ⟨rfl, hk⟩)
        | (go_at_call_of 19 (Value.int IntKind.u8 3); refine (l_lawdo3 _ _ (by assumption)).mono ?_; rintro e w1 ⟨rfl, hk⟩)
        | (go_at_call_of 19 (Value.int IntKind.u8 6); refine (l_lawdo6 _ _ (by assumption)).mono ?_; rintro e w1 ⟨rfl, hk⟩)
        | (go_at_call_of 19 (Value.int IntKind.u8 7); refine (l_lawdo7 _ _ (by assumption)).mono ?_; rintro e w1 ⟨rfl, hk⟩)
        | (go_at_call_of 19 (Value.int IntKind.u8 8); refine (l_lawdo8 _ _ (by assumption)).mono ?_; rintro e w1 ⟨rfl, hk⟩)
        | (go_at_call_of 19 (Value.int IntKind.u8 9); refine (l_lawdo9 _ _ (by assumption)).mono ?_; rintro e w1 ⟨rfl, hk⟩)
        | (go_at_call_of 19 (Value.int IntKind.u8 10); refine (l_lawdo10 _ _ (by assumption)).mono ?_; rintro e w1 ⟨rfl, hk⟩))
      all_goals first | (exfalso; omega) | (go_ret; exact ⟨rfl, (show Ok w _ by assumption).below⟩)

theorem bits_law (op : Nat) (a b : Int) (n : Nat) (w : World) (ht : Tab w) (ha1 : -9223372036854775808 ≤ a) (ha2 : a ≤ 9223372036854775807) (hb1 : -9223372036854775808 ≤ b) (hb2 : b ≤ 9223372036854775807) (hn : n ≤ 255) :
    Calls Tryd.prog 7 #[.int .u8 op, .int .i64 a, .int .i64 b, .int .u8 n] w fun e w' => e = .returned (.bool true) ∧ Below w.heap.size w w' := by
  by_cases h : n < 63
  · exact bits_low op a b n w ht ha1 ha2 hb1 hb2 hn h
  · exact bits_core op a b n w ht ha1 ha2 hb1 hb2 hn (by omega)

end Go.Proofs.YtkjjcldcfokigaaDoor.ws
