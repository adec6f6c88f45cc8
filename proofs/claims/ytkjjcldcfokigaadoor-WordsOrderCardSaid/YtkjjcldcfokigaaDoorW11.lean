/- The laws without the document: a ring; order and division. -/
import Derived.Test.YtkjjcldcfokigaaDoorW10
namespace Go.Proofs.YtkjjcldcfokigaaDoor.ws
open Go Go.RowKit Go.Lib

set_option maxHeartbeats 4000000 in
theorem ring_law (a b c : Int) (w : World) (ht : Tab w) (ha1 : -9223372036854775808 ≤ a) (ha2 : a ≤ 9223372036854775807) :
    Calls Tryd.prog 5 #[.int .i64 a, .int .i64 b, .int .i64 c] w fun e w' => e = .returned (.bool true) ∧ Below w.heap.size w w' := by
  have hk := Ok.first ht
  have f1 := ring1 a b c
  have f2 := ring2 a b c
  have f3 := ring3 a b
  have f4 := ring4 a b
  have f5 := ring5 a b c
  have f6 := ring6 a b
  have f7 := ring7 a
  have f8 := ring8 a ha1 ha2
  have f9 := ring9 a ha1 ha2
  clear ht ha1 ha2
  go_enter Tryd.func5, Tryd.ntmps5
  go_wp2_with (first
    | (go_at_call 14; refine (l_lives (by assumption)).mono ?_; rintro e w1 ⟨rfl, hk⟩)
    | (go_at_call 20; refine (l_minus _ (by assumption)).mono ?_; rintro e w1 ⟨rfl, hk⟩)
    | (go_at_call_of 19 (Value.int IntKind.u8 1); refine (l_lawdo1 _ _ (by assumption)).mono ?_; rintro e w1 ⟨rfl, hk⟩)
    | (go_at_call_of 19 (Value.int IntKind.u8 2); refine (l_lawdo2 _ _ (by assumption)).mono ?_; rintro e w1 ⟨rfl, hk⟩)
    | (go_at_call_of 19 (Value.int IntKind.u8 3); refine (l_lawdo3 _ _ (by assumption)).mono ?_; rintro e w1 ⟨rfl, hk⟩))
  go_ret
  refine ⟨rfl, ?_⟩
  exact (show Ok w _ by assumption).below

theorem tr_bd (c : Bool) : 0 ≤ tr c ∧ tr c ≤ 1 := by cases c <;> simp [tr]
set_option maxHeartbeats 4000000 in
theorem order_zero (a : Int) (w : World) (ht : Tab w) :
    Calls Tryd.prog 6 #[.int .i64 a, .int .i64 0] w fun e w' => e = .returned (.bool true) ∧ Below w.heap.size w w' := by
  have hk := Ok.first ht
  have f1 := ord1 a 0
  have f2 := ord2 a 0
  have f3 := ord3 a 0
  have f4 := ord4 a 0
  have f5 := ord5 a 0
  obtain ⟨p1, p2⟩ : 0 ≤ doV 13 a 0 ∧ doV 13 a 0 ≤ 1 := tr_bd _
  obtain ⟨p3, p4⟩ : 0 ≤ doV 11 a 0 ∧ doV 11 a 0 ≤ 1 := tr_bd _
  obtain ⟨p5, p6⟩ : 0 ≤ doV 15 a 0 ∧ doV 15 a 0 ≤ 1 := tr_bd _
  have f6 : (doV 4 a 0 == 0) = true := yb (by simp [doV, quo])
  have f7 : (doV 5 a 0 == a) = true := yb (by simp [doV, rem])
  clear ht
  go_enter Tryd.func6, Tryd.ntmps6
  go_wp2_with (first
    | (go_at_call 14; refine (l_lives (by assumption)).mono ?_; rintro e w1 ⟨rfl, hk⟩)
    | (go_at_call_of 19 (Value.int IntKind.u8 4); refine (l_lawdo4 _ _ (by assumption)).mono ?_; rintro e w1 ⟨rfl, hk⟩)
    | (go_at_call_of 19 (Value.int IntKind.u8 5); refine (l_lawdo5 _ _ (by assumption)).mono ?_; rintro e w1 ⟨rfl, hk⟩)
    | (go_at_call_of 19 (Value.int IntKind.u8 11); refine (l_lawdo11 _ _ (by assumption)).mono ?_; rintro e w1 ⟨rfl, hk⟩)
    | (go_at_call_of 19 (Value.int IntKind.u8 12); refine (l_lawdo12 _ _ (by assumption)).mono ?_; rintro e w1 ⟨rfl, hk⟩)
    | (go_at_call_of 19 (Value.int IntKind.u8 13); refine (l_lawdo13 _ _ (by assumption)).mono ?_; rintro e w1 ⟨rfl, hk⟩)
    | (go_at_call_of 19 (Value.int IntKind.u8 14); refine (l_lawdo14 _ _ (by assumption)).mono ?_; rintro e w1 ⟨rfl, hk⟩)
    | (go_at_call_of 19 (Value.int IntKind.u8 15); refine (l_lawdo15 _ _ (by assumption)).mono ?_; rintro e w1 ⟨rfl, hk⟩)
    | (go_at_call_of 19 (Value.int IntKind.u8 16); refine (l_lawdo16 _ _ (by assumption)).mono ?_; rintro e w1 ⟨rfl, hk⟩))
  go_ret
  refine ⟨rfl, ?_⟩
  exact (show Ok w _ by assumption).below

set_option maxHeartbeats 4000000 in
theorem order_ne (a b R : Int) (w : World) (ht : Tab w) (ha1 : -9223372036854775808 ≤ a) (ha2 : a ≤ 9223372036854775807) (hb1 : -9223372036854775808 ≤ b) (hb2 : b ≤ 9223372036854775807) (hb : b ≠ 0) (hR : doV 5 a b = R)
    (hr1 : -9223372036854775807 ≤ R) (hr2 : R ≤ 9223372036854775807) (hs : (0 < b ∧ R < b ∧ -b < R) ∨ (b < 0 ∧ b < R ∧ R < -b)) (hc : R = 0 ∨ (0 < R ∧ 0 < a) ∨ (R < 0 ∧ a < 0)) :
    Calls Tryd.prog 6 #[.int .i64 a, .int .i64 b] w fun e w' => e = .returned (.bool true) ∧ Below w.heap.size w w' := by
  have hk := Ok.first ht
  have f0 : (b == 0) = false := by simpa using hb
  have f1 := ord1 a b
  have f2 := ord2 a b
  have f3 := ord3 a b
  have f4 := ord4 a b
  have f5 := ord5 a b
  obtain ⟨p1, p2⟩ : 0 ≤ doV 13 a b ∧ doV 13 a b ≤ 1 := tr_bd _
  obtain ⟨p3, p4⟩ : 0 ≤ doV 11 a b ∧ doV 11 a b ≤ 1 := tr_bd _
  obtain ⟨p5, p6⟩ : 0 ≤ doV 15 a b ∧ doV 15 a b ≤ 1 := tr_bd _
  have f6 := div_back ha1 ha2 hb
  rw [hR] at f6
  have HR := Lib.hid hR
  clear ht hR hb
  rcases hs with ⟨s1, s2, s3⟩ | ⟨s1, s2, s3⟩
  all_goals
    rcases hc with rfl | ⟨c1, c2⟩ | ⟨c1, c2⟩
    all_goals
      go_enter Tryd.func6, Tryd.ntmps6
      go_wp2_with (first
        | (go_at_call 14; refine (l_lives (by assumption)).mono ?_; rintro e w1 ⟨rfl, hk⟩)
        | (go_at_call_of 19 (Value.int IntKind.u8 5); refine (l_lawdo5 _ _ (by assumption)).mono ?_; rw [HR.out]; rintro e w1 ⟨rfl, hk⟩)
        | (go_at_call_of 19 (Value.int IntKind.u8 1); refine (l_lawdo1 _ _ (by assumption)).mono ?_; rintro e w1 ⟨rfl, hk⟩)
        | (go_at_call_of 19 (Value.int IntKind.u8 3); refine (l_lawdo3 _ _ (by assumption)).mono ?_; rintro e w1 ⟨rfl, hk⟩)
        | (go_at_call_of 19 (Value.int IntKind.u8 4); refine (l_lawdo4 _ _ (by assumption)).mono ?_; rintro e w1 ⟨rfl, hk⟩)
        | (go_at_call_of 19 (Value.int IntKind.u8 11); refine (l_lawdo11 _ _ (by assumption)).mono ?_; rintro e w1 ⟨rfl, hk⟩)
        | (go_at_call_of 19 (Value.int IntKind.u8 12); refine (l_lawdo12 _ _ (by assumption)).mono ?_; rintro e w1 ⟨rfl, hk⟩)
        | (go_at_call_of 19 (Value.int IntKind.u8 13); refine (l_lawdo13 _ _ (by assumption)).mono ?_; rintro e w1 ⟨rfl, hk⟩)
        | (go_at_call_of 19 (Value.int IntKind.u8 14); refine (l_lawdo14 _ _ (by assumption)).mono ?_; rintro e w1 ⟨rfl, hk⟩)
        | (go_at_call_of 19 (Value.int IntKind.u8 15); refine (l_lawdo15 _ _ (by assumption)).mono ?_; rintro e w1 ⟨rfl, hk⟩)
        | (go_at_call_of 19 (Value.int IntKind.u8 16); refine (l_lawdo16 _ _ (by assumption)).mono ?_; rintro e w1 ⟨rfl, hk⟩))
      go_ret
      exact ⟨ret_bool (by first | rfl | (simp; omega)), (show Ok w _ by assumption).below⟩

theorem order_law (a b : Int) (w : World) (ht : Tab w) (ha1 : -9223372036854775808 ≤ a) (ha2 : a ≤ 9223372036854775807) (hb1 : -9223372036854775808 ≤ b) (hb2 : b ≤ 9223372036854775807) :
    Calls Tryd.prog 6 #[.int .i64 a, .int .i64 b] w fun e w' => e = .returned (.bool true) ∧ Below w.heap.size w w' := by
  by_cases hb : b = 0
  · subst hb
    exact order_zero a w ht
  · obtain ⟨h1, h2, h3⟩ := rem_bounds ha1 ha2 hb1 hb2 hb
    refine order_ne a b (rem a b) w ht ha1 ha2 hb1 hb2 hb rfl ?_ ?_ ?_ ?_
    · omega
    · omega
    · omega
    · omega

end Go.Proofs.YtkjjcldcfokigaaDoor.ws
