/- The reference's operators; Two, Turns. -/
import Derived.Test.YtkjjcldcfokigaaDoorW2
namespace Go.Proofs.YtkjjcldcfokigaaDoor.ws
open Go Go.RowKit

theorem ret_int2 {k l : IntKind} {a b c d : Int} (h : a = b) (h' : c = d) : Ending.returned (.tuple #[.int k a, .int l c]) = .returned (.tuple #[.int k b, .int l d]) := by rw [h, h']

theorem rtruth_any (c : Bool) (w : World) :
    Calls Tryd.prog 33 #[.bool c] w fun e w' => e = .returned (.tuple #[.int .i64 (tr c), .int .i64 0]) ∧ w = w' := by
  cases c
  all_goals
    go_enter Tryd.func33, Tryd.ntmps33
    go_wp2
    go_ret2
    exact ⟨rfl, rfl⟩

theorem rquo_any (a b : Int) (w : World) :
    Calls Tryd.prog 32 #[.int .i64 a, .int .i64 b] w fun e w' => e = .returned (.int .i64 (quo a b)) ∧ w = w' := by
  by_cases h0 : b = 0
  · subst h0
    go_enter Tryd.func32, Tryd.ntmps32
    go_wp2
    go_ret
    exact ⟨by simp [quo], rfl⟩
  · have h0' : (b == 0) = false := by simpa using h0
    by_cases h1 : b = -1
    · subst h1
      go_enter Tryd.func32, Tryd.ntmps32
      go_wp2
      go_ret
      exact ⟨by simp [quo], rfl⟩
    · have h1' : (b == -1) = false := by simpa using h1
      have H0 : Hid (b ≠ 0) := h0
      go_enter Tryd.func32, Tryd.ntmps32
      go_wp2
      go_ret
      exact ⟨by simp [quo, h0], rfl⟩

theorem rtwo_any (op : Nat) (w : World) :
    Calls Tryd.prog 26 #[.int .u8 op] w fun e w' => e = .returned (.bool (isTwo op)) ∧ w = w' := by
  have e : isTwo op = (decide (1 ≤ op) && decide (op ≤ 16)) := by simp [isTwo]
  have E := Lib.hid e
  clear e
  by_cases h1 : 1 ≤ op
  · by_cases h2 : op ≤ 16
    all_goals
      go_enter Tryd.func26, Tryd.ntmps26
      go_wp2
      go_ret
      exact ⟨ret_bool (by rw [E.out, Bool.eq_iff_iff]; simp only [decide_eq_true_eq, Bool.and_eq_true]; omega), rfl⟩
  · obtain rfl : op = 0 := by omega
    clear h1
    go_enter Tryd.func26, Tryd.ntmps26
    go_wp2
    go_ret
    exact ⟨ret_bool (by rw [E.out]; rfl), rfl⟩

theorem rdo_any (op : Nat) (a b : Int) (w : World) :
    Calls Tryd.prog 11 #[.int .u8 op, .int .i64 a, .int .i64 b] w fun e w' => e = .returned (.tuple #[.int .i64 (doV op a b), .int .i64 (doE op)]) ∧ w = w' := by
  cases h : isTwo op
  · have h2 : op = 0 ∨ 17 ≤ op := by simp [isTwo] at h; omega
    have e2 : doV op a b = 0 := by
      rcases h2 with rfl | h2
      · rfl
      · match op, h2 with
        | 17, _ => rfl
        | k + 18, _ => rfl
    have E2 := Lib.hid e2
    clear e2
    have e3 : doE op = 2 := by simp [doE, h]
    have E3 := Lib.hid e3
    clear e3 h
    rcases h2 with rfl | h2
    all_goals
      go_enter Tryd.func11, Tryd.ntmps11
      go_wp2
      go_ret2
      exact ⟨ret_int2 E2.out.symm E3.out.symm, rfl⟩
  · have hr : op = 1 ∨ op = 2 ∨ op = 3 ∨ op = 4 ∨ op = 5 ∨ op = 6 ∨ op = 7 ∨ op = 8 ∨ op = 9 ∨ op = 10 ∨ op = 11 ∨ op = 12 ∨ op = 13 ∨ op = 14 ∨ op = 15 ∨ op = 16 := by simp [isTwo] at h; omega
    clear h
    have hb := bits_and63' b
    have hz := shN_lt b
    have hs : IntKind.u64.wrap (bits BinOp.and IntKind.i64 b 63) = ((shN b : Nat) : Int) := by rw [hb, IntKind.wrap_u64]; omega
    have h0 : 0 ≤ IntKind.u64.wrap (bits BinOp.and IntKind.i64 b 63) := by rw [hs]; omega
    have ht : (IntKind.u64.wrap (bits BinOp.and IntKind.i64 b 63)).toNat = shN b := by rw [hs]; rfl
    have hm : min (shN b) 64 = shN b := by omega
    have HT := Lib.hid ht
    have HM := Lib.hid hm
    clear ht hm hs hb hz
    rcases hr with rfl | rfl | rfl | rfl | rfl | rfl | rfl | rfl | rfl | rfl | rfl | rfl | rfl | rfl | rfl | rfl
    case inr.inr.inr.inr.inl =>
      by_cases hz : b = 0
      · subst hz
        go_enter Tryd.func11, Tryd.ntmps11
        go_wp2
        go_ret2
        exact ⟨ret_int2 (by simp [doV, rem]) rfl, rfl⟩
      · have hz' : (b == 0) = false := by simpa using hz
        have HZ : Hid (b ≠ 0) := hz
        clear hz
        go_enter Tryd.func11, Tryd.ntmps11
        go_wp2_with (go_at_call 32; refine (rquo_any _ _ _).mono ?_; rintro e w' ⟨rfl, rfl⟩)
        go_ret2
        exact ⟨ret_int2 (by simp [doV, rem, HZ.out]) rfl, rfl⟩
    all_goals
      go_enter Tryd.func11, Tryd.ntmps11
      go_wp2_with (first | (go_at_call 33; refine (rtruth_any _ _).mono ?_; rintro e w' ⟨rfl, rfl⟩) | (go_at_call 32; refine (rquo_any _ _ _).mono ?_; rintro e w' ⟨rfl, rfl⟩))
      go_ret2
      exact ⟨ret_int2 (by first | rfl | (simp only [doV, HT.out, HM.out])) rfl, rfl⟩

theorem rone_any (op : Nat) (a : Int) (w : World) :
    Calls Tryd.prog 13 #[.int .u8 op, .int .i64 a] w fun e w' => e = .returned (.tuple #[.int .i64 (oneV op a), .int .i64 (oneE op)]) ∧ w = w' := by
  cases h : isOne op
  · have e2 := oneV_none op a h
    have E2 := Lib.hid e2
    clear e2
    have e3 : oneE op = 2 := by simp [oneE, h]
    have E3 := Lib.hid e3
    clear e3
    simp [isOne] at h
    obtain ⟨h1, h2⟩ := h
    have h1' : ((op : Int) == 17) = false := by simp; omega
    have h2' : ((op : Int) == 18) = false := by simp; omega
    clear h1 h2
    go_enter Tryd.func13, Tryd.ntmps13
    go_wp2
    go_ret2
    exact ⟨ret_int2 E2.out.symm E3.out.symm, rfl⟩
  · have hr : op = 17 ∨ op = 18 := by simpa [isOne] using h
    clear h
    rcases hr with rfl | rfl
    all_goals
      go_enter Tryd.func13, Tryd.ntmps13
      go_wp2_with (go_at_call 33; refine (rtruth_any _ _).mono ?_; rintro e w' ⟨rfl, rfl⟩)
      go_ret2
      exact ⟨ret_int2 (by simp [oneV]) rfl, rfl⟩

def turns (op : Nat) : Bool := decide (op = 1 ∨ op = 3 ∨ op = 6 ∨ op = 7 ∨ op = 8 ∨ op = 11 ∨ op = 12)
theorem turns_any (op : Nat) (w : World) :
    Calls Tryd.prog 21 #[.int .u8 op] w fun e w' => e = .returned (.bool (turns op)) ∧ w = w' := by
  by_cases h : op = 1 ∨ op = 3 ∨ op = 6 ∨ op = 7 ∨ op = 8 ∨ op = 11 ∨ op = 12
  · rcases h with rfl | rfl | rfl | rfl | rfl | rfl | rfl
    all_goals
      go_enter Tryd.func21, Tryd.ntmps21
      go_wp2
      go_ret
      exact ⟨rfl, rfl⟩
  · have e : turns op = false := by simp only [turns, h, decide_false]
    have E := Lib.hid e
    clear e
    have h1 : ((op : Int) == 1) = false := by simp; omega
    have h2 : ((op : Int) == 3) = false := by simp; omega
    have h3 : ((op : Int) == 6) = false := by simp; omega
    have h4 : ((op : Int) == 7) = false := by simp; omega
    have h5 : ((op : Int) == 8) = false := by simp; omega
    have h6 : ((op : Int) == 11) = false := by simp; omega
    have h7 : ((op : Int) == 12) = false := by simp; omega
    clear h
    go_enter Tryd.func21, Tryd.ntmps21
    go_wp2
    go_ret
    exact ⟨ret_bool E.out.symm, rfl⟩
theorem rturns_any (op : Nat) (w : World) :
    Calls Tryd.prog 30 #[.int .u8 op] w fun e w' => e = .returned (.bool (turns op)) ∧ w = w' := by
  by_cases h : op = 1 ∨ op = 3 ∨ op = 6 ∨ op = 7 ∨ op = 8 ∨ op = 11 ∨ op = 12
  · rcases h with rfl | rfl | rfl | rfl | rfl | rfl | rfl
    all_goals
      go_enter Tryd.func30, Tryd.ntmps30
      go_wp2
      go_ret
      exact ⟨rfl, rfl⟩
  · have e : turns op = false := by simp only [turns, h, decide_false]
    have E := Lib.hid e
    clear e
    have h1 : ((op : Int) == 1) = false := by simp; omega
    have h2 : ((op : Int) == 3) = false := by simp; omega
    have h3 : ((op : Int) == 6) = false := by simp; omega
    have h4 : ((op : Int) == 7) = false := by simp; omega
    have h5 : ((op : Int) == 8) = false := by simp; omega
    have h6 : ((op : Int) == 11) = false := by simp; omega
    have h7 : ((op : Int) == 12) = false := by simp; omega
    clear h
    go_enter Tryd.func30, Tryd.ntmps30
    go_wp2
    go_ret
    exact ⟨ret_bool E.out.symm, rfl⟩

end Go.Proofs.YtkjjcldcfokigaaDoor.ws
