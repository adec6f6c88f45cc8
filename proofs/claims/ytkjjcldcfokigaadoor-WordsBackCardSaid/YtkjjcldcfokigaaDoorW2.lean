/- Do, One, Two, Turns of package words. -/
import Derived.Test.YtkjjcldcfokigaaDoorW1
namespace Go.Proofs.YtkjjcldcfokigaaDoor.ws
open Go Go.RowKit

def known (op : Nat) : Bool := decide (1 ≤ op ∧ op ≤ 18)
def isTwo (op : Nat) : Bool := decide (1 ≤ op ∧ op ≤ 16)

theorem known_any (op : Nat) (w : World) :
    Calls Tryd.prog 34 #[.int .u8 op] w fun e w' => e = .returned (.bool (known op)) ∧ w = w' := by
  by_cases h : 1 ≤ op ∧ op ≤ 18
  · have e : known op = true := by simp [known, h]
    have E := Lib.hid e
    clear e
    obtain ⟨h1, h2⟩ := h
    go_enter Tryd.func34, Tryd.ntmps34
    go_wp2
    go_ret
    exact ⟨ret_bool (by rw [E.out]; simp; omega), rfl⟩
  · have e : known op = false := by simp [known]; omega
    have E := Lib.hid e
    clear e
    by_cases h1 : op = 0
    · subst h1
      go_enter Tryd.func34, Tryd.ntmps34
      go_wp2
      go_ret
      exact ⟨ret_bool (by rw [E.out]), rfl⟩
    · have h2 : 19 ≤ op := by omega
      clear h h1
      go_enter Tryd.func34, Tryd.ntmps34
      go_wp2
      all_goals go_ret
      all_goals exact ⟨ret_bool (by rw [E.out]; try (simp; omega)), rfl⟩

theorem two_any (op : Nat) (w : World) :
    Calls Tryd.prog 24 #[.int .u8 op] w fun e w' => e = .returned (.bool (isTwo op)) ∧ w = w' := by
  by_cases h : 1 ≤ op ∧ op ≤ 18
  · have e : known op = true := by simp [known, h]
    have E := Lib.hid e
    clear e
    obtain ⟨h1, h2⟩ := h
    by_cases h3 : op = 17
    · subst h3
      go_enter Tryd.func24, Tryd.ntmps24
      go_wp2_with (go_at_call 34; refine (known_any 17 _).mono ?_; rw [E.out]; rintro e w' ⟨rfl, rfl⟩)
      go_ret
      exact ⟨rfl, rfl⟩
    by_cases h4 : op = 18
    · subst h4
      go_enter Tryd.func24, Tryd.ntmps24
      go_wp2_with (go_at_call 34; refine (known_any 18 _).mono ?_; rw [E.out]; rintro e w' ⟨rfl, rfl⟩)
      go_ret
      exact ⟨rfl, rfl⟩
    have h5 : op ≤ 16 := by omega
    have h6 : ((op : Int) != 17) = true := by simp; omega
    have h7 : ((op : Int) != 18) = true := by simp; omega
    clear h3 h4
    go_enter Tryd.func24, Tryd.ntmps24
    go_wp2_with (go_at_call 34; refine (known_any _ _).mono ?_; rw [E.out]; rintro e w' ⟨rfl, rfl⟩)
    go_ret
    exact ⟨ret_bool (by simp [isTwo]; omega), rfl⟩
  · have e : known op = false := by simp [known]; omega
    have E := Lib.hid e
    clear e
    have e2 : isTwo op = false := by simp [isTwo]; omega
    have E2 := Lib.hid e2
    clear e2 h
    go_enter Tryd.func24, Tryd.ntmps24
    go_wp2_with (go_at_call 34; refine (known_any _ _).mono ?_; rw [E.out]; rintro e w' ⟨rfl, rfl⟩)
    go_ret
    exact ⟨ret_bool E2.out.symm, rfl⟩

theorem field_two (f : Nat) (w : World) : (Instr.field 48 (.agg #[.func (.func f) #[] #[], .nilFunc]) 0).run Tryd.prog w = .ok (.func (.func f) #[] #[]) w := by kernel_rfl
theorem field_one (f : Nat) (w : World) : (Instr.field 48 (.agg #[.nilFunc, .func (.func f) #[] #[]]) 1).run Tryd.prog w = .ok (.func (.func f) #[] #[]) w := by kernel_rfl
theorem do_core (op f : Nat) (v a b : Int) (w : World) (h1 : isTwo op = true)
    (hidx : ∀ w, (Instr.index 49 (.agg opsRow) (.int .u8 op)).run Tryd.prog w = .ok (.agg #[.func (.func f) #[] #[], .nilFunc]) w)
    (hcall : ∀ w, (callFunc f #[.int .i64 a, .int .i64 b]).run Tryd.prog w = .ok (.enter f #[.int .i64 a, .int .i64 b]) w)
    (hf : ∀ w, Calls Tryd.prog f #[.int .i64 a, .int .i64 b] w fun e w' => e = .returned (.int .i64 v) ∧ w = w') :
    Calls Tryd.prog 10 #[.int .u8 op, .int .i64 a, .int .i64 b] w fun e w' => e = .returned (.tuple #[.int .i64 v, .int .i64 0]) ∧ w.alloc (.cells opsRow 49) = w' := by
  have H1 := Lib.hid h1
  clear h1
  have HF := Lib.hid hf
  clear hf
  have hfld := field_two f
  go_enter Tryd.func10, Tryd.ntmps10
  go_wp2_with (first | (go_at_call 24; refine (two_any _ _).mono ?_; rw [H1.out]; rintro e w' ⟨rfl, rfl⟩) | (go_at_call 31; refine (operators_any _).mono ?_; rintro e w' ⟨rfl, rfl⟩) | (refine (HF.out _).mono ?_; rintro e w' ⟨rfl, rfl⟩))
  go_ret2
  exact ⟨rfl, rfl⟩

theorem do_no (op : Nat) (a b : Int) (w : World) (h1 : isTwo op = false) :
    Calls Tryd.prog 10 #[.int .u8 op, .int .i64 a, .int .i64 b] w fun e w' => e = .returned (.tuple #[.int .i64 0, .int .i64 2]) ∧ w = w' := by
  have H1 := Lib.hid h1
  clear h1
  go_enter Tryd.func10, Tryd.ntmps10
  go_wp2_with (go_at_call 24; refine (two_any _ _).mono ?_; rw [H1.out]; rintro e w' ⟨rfl, rfl⟩)
  go_ret2
  exact ⟨rfl, rfl⟩

def doE (op : Nat) : Int := if isTwo op then 0 else 2
def doW (op : Nat) (w : World) : World := if isTwo op then w.alloc (.cells opsRow 49) else w

theorem do_any (op : Nat) (a b : Int) (w : World) :
    Calls Tryd.prog 10 #[.int .u8 op, .int .i64 a, .int .i64 b] w fun e w' => e = .returned (.tuple #[.int .i64 (doV op a b), .int .i64 (doE op)]) ∧ doW op w = w' := by
  cases h : isTwo op
  · refine (do_no op a b w h).mono ?_
    rintro e w' ⟨rfl, rfl⟩
    have : op = 0 ∨ 17 ≤ op := by simp [isTwo] at h; omega
    refine ⟨?_, by simp [doW, h]⟩
    have e2 : doV op a b = 0 := by
      rcases this with rfl | h2
      · rfl
      · match op, h2 with
        | 17, _ => rfl
        | k + 18, _ => rfl
    simp [doE, h, e2]
  · have hr : op = 1  ∨ op = 2 ∨ op = 3 ∨ op = 4 ∨ op = 5 ∨ op = 6 ∨ op = 7 ∨ op = 8 ∨ op = 9 ∨ op = 10 ∨ op = 11 ∨ op = 12 ∨ op = 13 ∨ op = 14 ∨ op = 15 ∨ op = 16 := by simp [isTwo] at h; omega
    rcases hr with rfl | rfl | rfl | rfl | rfl | rfl | rfl | rfl | rfl | rfl | rfl | rfl | rfl | rfl | rfl | rfl
    · exact do_core 1 38 (doV 1 a b) a b w rfl (fun _ => by kernel_rfl) (fun _ => by kernel_rfl) (fun w => add_any a b w)
    · exact do_core 2 39 (doV 2 a b) a b w rfl (fun _ => by kernel_rfl) (fun _ => by kernel_rfl) (fun w => sub_any a b w)
    · exact do_core 3 40 (doV 3 a b) a b w rfl (fun _ => by kernel_rfl) (fun _ => by kernel_rfl) (fun w => mul_any a b w)
    · exact do_core 4 41 (doV 4 a b) a b w rfl (fun _ => by kernel_rfl) (fun _ => by kernel_rfl) (fun w => div_any a b w)
    · exact do_core 5 42 (doV 5 a b) a b w rfl (fun _ => by kernel_rfl) (fun _ => by kernel_rfl) (fun w => rem_any a b w)
    · exact do_core 6 43 (doV 6 a b) a b w rfl (fun _ => by kernel_rfl) (fun _ => by kernel_rfl) (fun w => and_any a b w)
    · exact do_core 7 44 (doV 7 a b) a b w rfl (fun _ => by kernel_rfl) (fun _ => by kernel_rfl) (fun w => or_any a b w)
    · exact do_core 8 45 (doV 8 a b) a b w rfl (fun _ => by kernel_rfl) (fun _ => by kernel_rfl) (fun w => xor_any a b w)
    · exact do_core 9 46 (doV 9 a b) a b w rfl (fun _ => by kernel_rfl) (fun _ => by kernel_rfl) (fun w => shl_any a b w)
    · exact do_core 10 47 (doV 10 a b) a b w rfl (fun _ => by kernel_rfl) (fun _ => by kernel_rfl) (fun w => shr_any a b w)
    · exact do_core 11 48 (doV 11 a b) a b w rfl (fun _ => by kernel_rfl) (fun _ => by kernel_rfl) (fun w => is_any a b w)
    · exact do_core 12 49 (doV 12 a b) a b w rfl (fun _ => by kernel_rfl) (fun _ => by kernel_rfl) (fun w => isNot_any a b w)
    · exact do_core 13 50 (doV 13 a b) a b w rfl (fun _ => by kernel_rfl) (fun _ => by kernel_rfl) (fun w => less_any a b w)
    · exact do_core 14 51 (doV 14 a b) a b w rfl (fun _ => by kernel_rfl) (fun _ => by kernel_rfl) (fun w => most_any a b w)
    · exact do_core 15 52 (doV 15 a b) a b w rfl (fun _ => by kernel_rfl) (fun _ => by kernel_rfl) (fun w => above_any a b w)
    · exact do_core 16 53 (doV 16 a b) a b w rfl (fun _ => by kernel_rfl) (fun _ => by kernel_rfl) (fun w => least_any a b w)

theorem one_core (op f : Nat) (v a : Int) (w : World) (h1 : isTwo op = false) (hk : known op = true)
    (hidx : ∀ w, (Instr.index 49 (.agg opsRow) (.int .u8 op)).run Tryd.prog w = .ok (.agg #[.nilFunc, .func (.func f) #[] #[]]) w)
    (hcall : ∀ w, (callFunc f #[.int .i64 a]).run Tryd.prog w = .ok (.enter f #[.int .i64 a]) w)
    (hf : ∀ w, Calls Tryd.prog f #[.int .i64 a] w fun e w' => e = .returned (.int .i64 v) ∧ w = w') :
    Calls Tryd.prog 12 #[.int .u8 op, .int .i64 a] w fun e w' => e = .returned (.tuple #[.int .i64 v, .int .i64 0]) ∧ w.alloc (.cells opsRow 49) = w' := by
  have H1 := Lib.hid h1
  clear h1
  have HK := Lib.hid hk
  clear hk
  have HF := Lib.hid hf
  clear hf
  have hfld := field_one f
  go_enter Tryd.func12, Tryd.ntmps12
  go_wp2_with (first | (go_at_call 34; refine (known_any _ _).mono ?_; rw [HK.out]; rintro e w' ⟨rfl, rfl⟩) | (go_at_call 24; refine (two_any _ _).mono ?_; rw [H1.out]; rintro e w' ⟨rfl, rfl⟩) | (go_at_call 31; refine (operators_any _).mono ?_; rintro e w' ⟨rfl, rfl⟩) | (refine (HF.out _).mono ?_; rintro e w' ⟨rfl, rfl⟩))
  go_ret2
  exact ⟨rfl, rfl⟩

theorem one_no (op : Nat) (a : Int) (w : World) (h : known op = false ∨ isTwo op = true) :
    Calls Tryd.prog 12 #[.int .u8 op, .int .i64 a] w fun e w' => e = .returned (.tuple #[.int .i64 0, .int .i64 2]) ∧ w = w' := by
  cases hk : known op
  · have HK := Lib.hid hk
    clear hk h
    go_enter Tryd.func12, Tryd.ntmps12
    go_wp2_with (go_at_call 34; refine (known_any _ _).mono ?_; rw [HK.out]; rintro e w' ⟨rfl, rfl⟩)
    go_ret2
    exact ⟨rfl, rfl⟩
  · have h1 : isTwo op = true := by simpa [hk] using h
    have H1 := Lib.hid h1
    clear h1 h
    have HK := Lib.hid hk
    clear hk
    go_enter Tryd.func12, Tryd.ntmps12
    go_wp2_with (first | (go_at_call 34; refine (known_any _ _).mono ?_; rw [HK.out]; rintro e w' ⟨rfl, rfl⟩) | (go_at_call 24; refine (two_any _ _).mono ?_; rw [H1.out]; rintro e w' ⟨rfl, rfl⟩))
    go_ret2
    exact ⟨rfl, rfl⟩

def isOne (op : Nat) : Bool := decide (op = 17 ∨ op = 18)
def oneE (op : Nat) : Int := if isOne op then 0 else 2
def oneW (op : Nat) (w : World) : World := if isOne op then w.alloc (.cells opsRow 49) else w
theorem oneV_none (op : Nat) (a : Int) (h : isOne op = false) : oneV op a = 0 := by
  simp [isOne] at h
  unfold oneV
  split <;> simp_all
theorem one_any (op : Nat) (a : Int) (w : World) :
    Calls Tryd.prog 12 #[.int .u8 op, .int .i64 a] w fun e w' => e = .returned (.tuple #[.int .i64 (oneV op a), .int .i64 (oneE op)]) ∧ oneW op w = w' := by
  cases h : isOne op
  · refine (one_no op a w ?_).mono ?_
    · simp [isOne] at h; simp [known, isTwo]; omega
    rintro e w' ⟨rfl, rfl⟩
    simp [oneE, oneW, h, oneV_none op a h]
  · have hr : op = 17 ∨ op = 18 := by simpa [isOne] using h
    rcases hr with rfl | rfl
    · exact one_core 17 54 _ a w rfl rfl (fun _ => by kernel_rfl) (fun _ => by kernel_rfl) (fun w => minus_any a w)
    · exact one_core 18 55 _ a w rfl rfl (fun _ => by kernel_rfl) (fun _ => by kernel_rfl) (fun w => not_any a w)

end Go.Proofs.YtkjjcldcfokigaaDoor.ws
