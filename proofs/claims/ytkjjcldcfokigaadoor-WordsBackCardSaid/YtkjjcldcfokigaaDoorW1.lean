/- The operators of package words, and the reference's: what each computes. -/
import Derived.Test.YtkjjcldcfokigaaDoorProg
import Derived.Test.YtkjjcldcfokigaaDoorWpl
import Derived.WalkLawsBesides
import Derived.Deep.WholeRow
import Derived.Lib.Hide
namespace Go.Proofs.YtkjjcldcfokigaaDoor.ws
open Go Go.RowKit

theorem truth_any (c : Bool) (w : World) :
    Calls Tryd.prog 56 #[.bool c] w fun e w' => e = .returned (.int .i64 (tr c)) ∧ w = w' := by
  cases c
  all_goals
    go_enter Tryd.func56, Tryd.ntmps56
    go_wp2
    go_ret
    exact ⟨rfl, rfl⟩

theorem add_any (a b : Int) (w : World) :
    Calls Tryd.prog 38 #[.int .i64 a, .int .i64 b] w fun e w' => e = .returned (.int .i64 (doV 1 a b)) ∧ w = w' := by
  go_enter Tryd.func38, Tryd.ntmps38
  go_wp2
  go_ret
  exact ⟨rfl, rfl⟩

theorem sub_any (a b : Int) (w : World) :
    Calls Tryd.prog 39 #[.int .i64 a, .int .i64 b] w fun e w' => e = .returned (.int .i64 (doV 2 a b)) ∧ w = w' := by
  go_enter Tryd.func39, Tryd.ntmps39
  go_wp2
  go_ret
  exact ⟨rfl, rfl⟩

theorem mul_any (a b : Int) (w : World) :
    Calls Tryd.prog 40 #[.int .i64 a, .int .i64 b] w fun e w' => e = .returned (.int .i64 (doV 3 a b)) ∧ w = w' := by
  go_enter Tryd.func40, Tryd.ntmps40
  go_wp2
  go_ret
  exact ⟨rfl, rfl⟩

theorem div_any (a b : Int) (w : World) :
    Calls Tryd.prog 41 #[.int .i64 a, .int .i64 b] w fun e w' => e = .returned (.int .i64 (doV 4 a b)) ∧ w = w' := by
  by_cases h0 : b = 0
  · subst h0
    go_enter Tryd.func41, Tryd.ntmps41
    go_wp2
    go_ret
    exact ⟨by simp [doV, quo], rfl⟩
  · have h0' : (b == 0) = false := by simpa using h0
    by_cases h1 : b = -1
    · subst h1
      go_enter Tryd.func41, Tryd.ntmps41
      go_wp2
      go_ret
      exact ⟨by simp [doV, quo], rfl⟩
    · have h1' : (b == -1) = false := by simpa using h1
      have H0 : Hid (b ≠ 0) := h0
      go_enter Tryd.func41, Tryd.ntmps41
      go_wp2
      go_ret
      exact ⟨by simp [doV, quo, h0], rfl⟩

theorem rem_any (a b : Int) (w : World) :
    Calls Tryd.prog 42 #[.int .i64 a, .int .i64 b] w fun e w' => e = .returned (.int .i64 (doV 5 a b)) ∧ w = w' := by
  by_cases h0 : b = 0
  · subst h0
    go_enter Tryd.func42, Tryd.ntmps42
    go_wp2
    go_ret
    exact ⟨by simp [doV, rem], rfl⟩
  · have h0' : (b == 0) = false := by simpa using h0
    have H0 : Hid (b ≠ 0) := h0
    clear h0
    go_enter Tryd.func42, Tryd.ntmps42
    go_wp2_with (go_at_call 41; refine (div_any _ _ _).mono ?_; rintro e w' ⟨rfl, rfl⟩)
    go_ret
    exact ⟨by simp [doV, rem, H0.out], rfl⟩

theorem and_any (a b : Int) (w : World) :
    Calls Tryd.prog 43 #[.int .i64 a, .int .i64 b] w fun e w' => e = .returned (.int .i64 (doV 6 a b)) ∧ w = w' := by
  go_enter Tryd.func43, Tryd.ntmps43
  go_wp2
  go_ret
  exact ⟨rfl, rfl⟩

theorem or_any (a b : Int) (w : World) :
    Calls Tryd.prog 44 #[.int .i64 a, .int .i64 b] w fun e w' => e = .returned (.int .i64 (doV 7 a b)) ∧ w = w' := by
  go_enter Tryd.func44, Tryd.ntmps44
  go_wp2
  go_ret
  exact ⟨rfl, rfl⟩

theorem xor_any (a b : Int) (w : World) :
    Calls Tryd.prog 45 #[.int .i64 a, .int .i64 b] w fun e w' => e = .returned (.int .i64 (doV 8 a b)) ∧ w = w' := by
  go_enter Tryd.func45, Tryd.ntmps45
  go_wp2
  go_ret
  exact ⟨rfl, rfl⟩

theorem shl_any (a b : Int) (w : World) :
    Calls Tryd.prog 46 #[.int .i64 a, .int .i64 b] w fun e w' => e = .returned (.int .i64 (doV 9 a b)) ∧ w = w' := by
  have hb := bits_and63 b
  have h0 : 0 ≤ bits BinOp.and IntKind.u64 (IntKind.u64.wrap b) 63 := by rw [hb]; omega
  have hs : (bits BinOp.and IntKind.u64 (IntKind.u64.wrap b) 63).toNat = shN b := by rw [hb]; rfl
  have hm : min (shN b) 64 = shN b := by have := shN_lt b; omega
  have HS := Lib.hid hs
  clear hs hb
  have HM := Lib.hid hm
  clear hm
  go_enter Tryd.func46, Tryd.ntmps46
  go_wp2
  go_ret
  exact ⟨ret_int (by simp only [HS.out, HM.out, doV]), rfl⟩

theorem shr_any (a b : Int) (w : World) :
    Calls Tryd.prog 47 #[.int .i64 a, .int .i64 b] w fun e w' => e = .returned (.int .i64 (doV 10 a b)) ∧ w = w' := by
  have hb := bits_and63 b
  have h0 : 0 ≤ bits BinOp.and IntKind.u64 (IntKind.u64.wrap b) 63 := by rw [hb]; omega
  have hs : (bits BinOp.and IntKind.u64 (IntKind.u64.wrap b) 63).toNat = shN b := by rw [hb]; rfl
  have hm : min (shN b) 64 = shN b := by have := shN_lt b; omega
  have HS := Lib.hid hs
  clear hs hb
  have HM := Lib.hid hm
  clear hm
  go_enter Tryd.func47, Tryd.ntmps47
  go_wp2
  go_ret
  exact ⟨ret_int (by simp only [HS.out, HM.out, doV]), rfl⟩

theorem is_any (a b : Int) (w : World) :
    Calls Tryd.prog 48 #[.int .i64 a, .int .i64 b] w fun e w' => e = .returned (.int .i64 (doV 11 a b)) ∧ w = w' := by
  go_enter Tryd.func48, Tryd.ntmps48
  go_wp2_with (go_at_call 56; refine (truth_any _ _).mono ?_; rintro e w' ⟨rfl, rfl⟩)
  go_ret
  exact ⟨by simp [doV], rfl⟩

theorem isNot_any (a b : Int) (w : World) :
    Calls Tryd.prog 49 #[.int .i64 a, .int .i64 b] w fun e w' => e = .returned (.int .i64 (doV 12 a b)) ∧ w = w' := by
  go_enter Tryd.func49, Tryd.ntmps49
  go_wp2_with (go_at_call 56; refine (truth_any _ _).mono ?_; rintro e w' ⟨rfl, rfl⟩)
  go_ret
  exact ⟨by simp [doV], rfl⟩

theorem less_any (a b : Int) (w : World) :
    Calls Tryd.prog 50 #[.int .i64 a, .int .i64 b] w fun e w' => e = .returned (.int .i64 (doV 13 a b)) ∧ w = w' := by
  go_enter Tryd.func50, Tryd.ntmps50
  go_wp2_with (go_at_call 56; refine (truth_any _ _).mono ?_; rintro e w' ⟨rfl, rfl⟩)
  go_ret
  exact ⟨by simp [doV], rfl⟩

theorem most_any (a b : Int) (w : World) :
    Calls Tryd.prog 51 #[.int .i64 a, .int .i64 b] w fun e w' => e = .returned (.int .i64 (doV 14 a b)) ∧ w = w' := by
  go_enter Tryd.func51, Tryd.ntmps51
  go_wp2_with (go_at_call 56; refine (truth_any _ _).mono ?_; rintro e w' ⟨rfl, rfl⟩)
  go_ret
  exact ⟨by simp [doV], rfl⟩

theorem above_any (a b : Int) (w : World) :
    Calls Tryd.prog 52 #[.int .i64 a, .int .i64 b] w fun e w' => e = .returned (.int .i64 (doV 15 a b)) ∧ w = w' := by
  go_enter Tryd.func52, Tryd.ntmps52
  go_wp2_with (go_at_call 56; refine (truth_any _ _).mono ?_; rintro e w' ⟨rfl, rfl⟩)
  go_ret
  exact ⟨by simp [doV], rfl⟩

theorem least_any (a b : Int) (w : World) :
    Calls Tryd.prog 53 #[.int .i64 a, .int .i64 b] w fun e w' => e = .returned (.int .i64 (doV 16 a b)) ∧ w = w' := by
  go_enter Tryd.func53, Tryd.ntmps53
  go_wp2_with (go_at_call 56; refine (truth_any _ _).mono ?_; rintro e w' ⟨rfl, rfl⟩)
  go_ret
  exact ⟨by simp [doV], rfl⟩

theorem minus_any (a : Int) (w : World) :
    Calls Tryd.prog 54 #[.int .i64 a] w fun e w' => e = .returned (.int .i64 (oneV 17 a)) ∧ w = w' := by
  go_enter Tryd.func54, Tryd.ntmps54
  go_wp2_with (go_at_call 56; refine (truth_any _ _).mono ?_; rintro e w' ⟨rfl, rfl⟩)
  go_ret
  exact ⟨by simp [oneV], rfl⟩

theorem not_any (a : Int) (w : World) :
    Calls Tryd.prog 55 #[.int .i64 a] w fun e w' => e = .returned (.int .i64 (oneV 18 a)) ∧ w = w' := by
  go_enter Tryd.func55, Tryd.ntmps55
  go_wp2_with (go_at_call 56; refine (truth_any _ _).mono ?_; rintro e w' ⟨rfl, rfl⟩)
  go_ret
  exact ⟨by simp [oneV], rfl⟩

def opsRow : Array Value := #[.nilFunc, .nilFunc, .func (.func 38) #[] #[], .nilFunc, .func (.func 39) #[] #[], .nilFunc, .func (.func 40) #[] #[], .nilFunc, .func (.func 41) #[] #[], .nilFunc, .func (.func 42) #[] #[], .nilFunc, .func (.func 43) #[] #[], .nilFunc, .func (.func 44) #[] #[], .nilFunc, .func (.func 45) #[] #[], .nilFunc, .func (.func 46) #[] #[], .nilFunc, .func (.func 47) #[] #[], .nilFunc, .func (.func 48) #[] #[], .nilFunc, .func (.func 49) #[] #[], .nilFunc, .func (.func 50) #[] #[], .nilFunc, .func (.func 51) #[] #[], .nilFunc, .func (.func 52) #[] #[], .nilFunc, .func (.func 53) #[] #[], .nilFunc, .nilFunc, .func (.func 54) #[] #[], .nilFunc, .func (.func 55) #[] #[]]
theorem opsRow_info : (Tryd.prog.info? 49).map (·.size) = some opsRow.size := by kernel_rfl
theorem opsRow_one : opsRow.all (·.oneCell') = true := by kernel_rfl
theorem operators_any (w : World) :
    Calls Tryd.prog 31 #[] w fun e w' => e = .returned (.agg opsRow) ∧ w.alloc (.cells opsRow 49) = w' := by
  go_enter Tryd.func31, Tryd.ntmps31
  go_wp2_with (refine wpList_store_row rfl 49 (.tmp 0) (.tmp 19) rfl w.heap.size opsRow rfl rfl 49 _ (heap_alloc_last w _) opsRow_info rfl opsRow_one ?_; rw [World.setRow_alloc_new])
  refine bodyPost_ret (v := .agg opsRow) ?_ rfl ⟨rfl, rfl⟩
  exact results_cell_row rfl _ _ w.heap.size 49 opsRow (0, 0) (.array 19 48) rfl (heap_alloc_last w _) Tryd.underlying49 rfl opsRow_info

end Go.Proofs.YtkjjcldcfokigaaDoor.ws
