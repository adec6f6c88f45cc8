/- The laws' helpers, with what each leaves of memory. -/
import Derived.Test.YtkjjcldcfokigaaDoorW9
import Derived.Test.YtkjjcldcfokigaaDoorWlw
import Derived.Deep.RegionWith
namespace Go.Proofs.YtkjjcldcfokigaaDoor.ws
open Go Go.RowKit Go.Lib

/-- what a law's own steps leave: what was there stays, the table too -/
structure Ok (w0 w : World) : Prop where
  below : Below w0.heap.size w0 w
  tab : Tab w
theorem Ok.step {w0 w w' : World} (h : Ok w0 w) (hb : Below w.heap.size w w') : Ok w0 w' := ⟨h.below.trans (hb.mono h.below.size), h.tab.below hb⟩
theorem Ok.first {w : World} (h : Tab w) : Ok w w := ⟨Below.refl _ _, h⟩
theorem doW_below (op : Nat) (w : World) : Below w.heap.size w (doW op w) := by
  unfold doW; split
  · exact (Below.refl _ _).alloc (Nat.le_refl _) _
  · exact Below.refl _ _
theorem oneW_below (op : Nat) (w : World) : Below w.heap.size w (oneW op w) := by
  unfold oneW; split
  · exact (Below.refl _ _).alloc (Nat.le_refl _) _
  · exact Below.refl _ _

theorem l_do (op : Nat) (a b : Int) {w0 w : World} (h : Ok w0 w) :
    Calls Tryd.prog 10 #[.int .u8 op, .int .i64 a, .int .i64 b] w fun e w' => e = .returned (.tuple #[.int .i64 (doV op a b), .int .i64 (doE op)]) ∧ Ok w0 w' := by
  refine (do_any op a b w).mono ?_
  rintro e w' ⟨rfl, rfl⟩
  exact ⟨rfl, h.step (doW_below op w)⟩
theorem l_one (op : Nat) (a : Int) {w0 w : World} (h : Ok w0 w) :
    Calls Tryd.prog 12 #[.int .u8 op, .int .i64 a] w fun e w' => e = .returned (.tuple #[.int .i64 (oneV op a), .int .i64 (oneE op)]) ∧ Ok w0 w' := by
  refine (one_any op a w).mono ?_
  rintro e w' ⟨rfl, rfl⟩
  exact ⟨rfl, h.step (oneW_below op w)⟩
theorem l_lives {w0 w : World} (h : Ok w0 w) :
    Calls Tryd.prog 14 #[] w fun e w' => e = .returned (.bool true) ∧ Ok w0 w' := by
  refine (lives_any w h.tab).mono ?_
  rintro e w' ⟨rfl, hb⟩
  exact ⟨rfl, h.step hb⟩
theorem l_lawdo (op : Nat) (a b : Int) {w0 w : World} (h : Ok w0 w) :
    Calls Tryd.prog 19 #[.int .u8 op, .int .i64 a, .int .i64 b] w fun e w' => e = .returned (.int .i64 (doV op a b)) ∧ Ok w0 w' := by
  have H := Lib.hid h
  clear h
  go_enter Tryd.func19, Tryd.ntmps19
  go_wp2_with (go_at_call 10; refine (l_do op _ _ H.out).mono ?_; rintro e w1 ⟨rfl, h1⟩)
  go_ret
  exact ⟨rfl, h1⟩
theorem l_lawdo1 (a b : Int) {w0 w : World} (h : Ok w0 w) :
    Calls Tryd.prog 19 #[.int .u8 1, .int .i64 a, .int .i64 b] w fun e w' => e = .returned (.int .i64 (doV 1 a b)) ∧ Ok w0 w' := l_lawdo 1 a b h
theorem l_lawdo2 (a b : Int) {w0 w : World} (h : Ok w0 w) :
    Calls Tryd.prog 19 #[.int .u8 2, .int .i64 a, .int .i64 b] w fun e w' => e = .returned (.int .i64 (doV 2 a b)) ∧ Ok w0 w' := l_lawdo 2 a b h
theorem l_lawdo3 (a b : Int) {w0 w : World} (h : Ok w0 w) :
    Calls Tryd.prog 19 #[.int .u8 3, .int .i64 a, .int .i64 b] w fun e w' => e = .returned (.int .i64 (doV 3 a b)) ∧ Ok w0 w' := l_lawdo 3 a b h
theorem l_lawdo4 (a b : Int) {w0 w : World} (h : Ok w0 w) :
    Calls Tryd.prog 19 #[.int .u8 4, .int .i64 a, .int .i64 b] w fun e w' => e = .returned (.int .i64 (doV 4 a b)) ∧ Ok w0 w' := l_lawdo 4 a b h
theorem l_lawdo5 (a b : Int) {w0 w : World} (h : Ok w0 w) :
    Calls Tryd.prog 19 #[.int .u8 5, .int .i64 a, .int .i64 b] w fun e w' => e = .returned (.int .i64 (doV 5 a b)) ∧ Ok w0 w' := l_lawdo 5 a b h
theorem l_lawdo6 (a b : Int) {w0 w : World} (h : Ok w0 w) :
    Calls Tryd.prog 19 #[.int .u8 6, .int .i64 a, .int .i64 b] w fun e w' => e = .returned (.int .i64 (doV 6 a b)) ∧ Ok w0 w' := l_lawdo 6 a b h
theorem l_lawdo7 (a b : Int) {w0 w : World} (h : Ok w0 w) :
    Calls Tryd.prog 19 #[.int .u8 7, .int .i64 a, .int .i64 b] w fun e w' => e = .returned (.int .i64 (doV 7 a b)) ∧ Ok w0 w' := l_lawdo 7 a b h
theorem l_lawdo8 (a b : Int) {w0 w : World} (h : Ok w0 w) :
    Calls Tryd.prog 19 #[.int .u8 8, .int .i64 a, .int .i64 b] w fun e w' => e = .returned (.int .i64 (doV 8 a b)) ∧ Ok w0 w' := l_lawdo 8 a b h
theorem l_lawdo9 (a b : Int) {w0 w : World} (h : Ok w0 w) :
    Calls Tryd.prog 19 #[.int .u8 9, .int .i64 a, .int .i64 b] w fun e w' => e = .returned (.int .i64 (doV 9 a b)) ∧ Ok w0 w' := l_lawdo 9 a b h
theorem l_lawdo10 (a b : Int) {w0 w : World} (h : Ok w0 w) :
    Calls Tryd.prog 19 #[.int .u8 10, .int .i64 a, .int .i64 b] w fun e w' => e = .returned (.int .i64 (doV 10 a b)) ∧ Ok w0 w' := l_lawdo 10 a b h
theorem l_lawdo11 (a b : Int) {w0 w : World} (h : Ok w0 w) :
    Calls Tryd.prog 19 #[.int .u8 11, .int .i64 a, .int .i64 b] w fun e w' => e = .returned (.int .i64 (doV 11 a b)) ∧ Ok w0 w' := l_lawdo 11 a b h
theorem l_lawdo12 (a b : Int) {w0 w : World} (h : Ok w0 w) :
    Calls Tryd.prog 19 #[.int .u8 12, .int .i64 a, .int .i64 b] w fun e w' => e = .returned (.int .i64 (doV 12 a b)) ∧ Ok w0 w' := l_lawdo 12 a b h
theorem l_lawdo13 (a b : Int) {w0 w : World} (h : Ok w0 w) :
    Calls Tryd.prog 19 #[.int .u8 13, .int .i64 a, .int .i64 b] w fun e w' => e = .returned (.int .i64 (doV 13 a b)) ∧ Ok w0 w' := l_lawdo 13 a b h
theorem l_lawdo14 (a b : Int) {w0 w : World} (h : Ok w0 w) :
    Calls Tryd.prog 19 #[.int .u8 14, .int .i64 a, .int .i64 b] w fun e w' => e = .returned (.int .i64 (doV 14 a b)) ∧ Ok w0 w' := l_lawdo 14 a b h
theorem l_lawdo15 (a b : Int) {w0 w : World} (h : Ok w0 w) :
    Calls Tryd.prog 19 #[.int .u8 15, .int .i64 a, .int .i64 b] w fun e w' => e = .returned (.int .i64 (doV 15 a b)) ∧ Ok w0 w' := l_lawdo 15 a b h
theorem l_lawdo16 (a b : Int) {w0 w : World} (h : Ok w0 w) :
    Calls Tryd.prog 19 #[.int .u8 16, .int .i64 a, .int .i64 b] w fun e w' => e = .returned (.int .i64 (doV 16 a b)) ∧ Ok w0 w' := l_lawdo 16 a b h
theorem l_minus (a : Int) {w0 w : World} (h : Ok w0 w) :
    Calls Tryd.prog 20 #[.int .i64 a] w fun e w' => e = .returned (.int .i64 (oneV 17 a)) ∧ Ok w0 w' := by
  have H := Lib.hid h
  clear h
  go_enter Tryd.func20, Tryd.ntmps20
  go_wp2_with (go_at_call 12; refine (l_one 17 _ H.out).mono ?_; rintro e w1 ⟨rfl, h1⟩)
  go_ret
  exact ⟨rfl, h1⟩
theorem l_not (a : Int) {w0 w : World} (h : Ok w0 w) :
    Calls Tryd.prog 12 #[.int .u8 18, .int .i64 a] w fun e w' => e = .returned (.tuple #[.int .i64 (oneV 18 a), .int .i64 0]) ∧ Ok w0 w' := l_one 18 a h

/-! the laws -/
theorem does_law (op : Nat) (a b : Int) (w : World) (ht : Tab w) :
    Calls Tryd.prog 3 #[.int .u8 op, .int .i64 a, .int .i64 b] w fun e w' => e = .returned (.bool true) ∧ Below w.heap.size w w' := by
  have H := Lib.hid (Ok.first ht)
  clear ht
  go_enter Tryd.func3, Tryd.ntmps3
  go_wp2_with (first
    | (go_at_call 10; refine (l_do op _ _ H.out).mono ?_; rintro e w1 ⟨rfl, h1⟩)
    | (go_at_call 11; refine (rdo_any op _ _ _).mono ?_; rintro e w2 ⟨rfl, rfl⟩)
    | (go_at_call 12; refine (l_one op _ h1).mono ?_; rintro e w3 ⟨rfl, h3⟩)
    | (go_at_call 13; refine (rone_any op _ _).mono ?_; rintro e w4 ⟨rfl, rfl⟩)
    | (go_at_call 14; refine (l_lives h3).mono ?_; rintro e w5 ⟨rfl, h5⟩))
  go_ret
  exact ⟨rfl, h5.below⟩

theorem texts_law (v : Int) (s : ByteArray) (w : World) (ht : Tab w) (h1 : -9223372036854775808 ≤ v) (h2 : v ≤ 9223372036854775807) (hs : s.size ≤ 9223372036854775807) :
    Calls Tryd.prog 4 #[.int .i64 v, .string s] w fun e w' => e = .returned (.bool true) ∧ Below w.heap.size w w' := by
  have H := Lib.hid (Ok.first ht)
  clear ht
  go_enter Tryd.func4, Tryd.ntmps4
  go_wp2_with (first
    | (go_at_call 15; refine (parse_any s _ hs).mono ?_; rintro e w1 ⟨rfl, rfl⟩)
    | (go_at_call 16; refine (rparse_any s _ hs).mono ?_; rintro e w2 ⟨rfl, rfl⟩)
    | (go_at_call 14; refine (l_lives H.out).mono ?_; rintro e w3 ⟨rfl, h3⟩)
    | (go_at_call 17; refine (print_any v _ h1 h2).mono ?_; rintro e w4 ⟨rfl, hb4⟩)
    | (go_at_call 18; refine (rprint_any v _ h1 h2).mono ?_; rintro e w5 ⟨rfl, hb5⟩))
  go_ret
  exact ⟨rfl, ((h3.step hb4).step hb5).below⟩

theorem signs_law (op : Nat) (s : ByteArray) (w : World) (ht : Tab w) :
    Calls Tryd.prog 9 #[.int .u8 op, .string s] w fun e w' => e = .returned (.bool true) ∧ Below w.heap.size w w' := by
  have H := Lib.hid (Ok.first ht)
  have HT := Lib.hid ht
  clear ht
  go_enter Tryd.func9, Tryd.ntmps9
  go_wp2_with (first
    | (go_at_call 22; refine (find_any s _ HT.out).mono ?_; rintro e w1 ⟨rfl, rfl⟩)
    | (go_at_call 25; refine (rfind_any s _).mono ?_; rintro e w2 ⟨rfl, hb2⟩)
    | (go_at_call 14; refine (l_lives (H.out.step hb2)).mono ?_; rintro e w3 ⟨rfl, h3⟩)
    | (go_at_call 24; refine (two_any op _).mono ?_; rintro e w4 ⟨rfl, rfl⟩)
    | (go_at_call 26; refine (rtwo_any op _).mono ?_; rintro e w4 ⟨rfl, rfl⟩)
    | (go_at_call 23; refine (show_any op _ h3.tab).mono ?_; rintro e w4 ⟨rfl, rfl⟩)
    | (go_at_call 27; refine (rshow_any op _).mono ?_; rintro e w5 ⟨rfl, hb5⟩)
    | (go_at_call 28; refine (level_any op _ (h3.step hb5).tab).mono ?_; rintro e w4 ⟨rfl, rfl⟩)
    | (go_at_call 29; refine (rlevel_any op _).mono ?_; rintro e w6 ⟨rfl, hb6⟩)
    | (go_at_call 21; refine (turns_any op _).mono ?_; rintro e w4 ⟨rfl, rfl⟩)
    | (go_at_call 30; refine (rturns_any op _).mono ?_; rintro e w4 ⟨rfl, rfl⟩))
  go_ret
  exact ⟨rfl, ((h3.step hb5).step hb6).below⟩

end Go.Proofs.YtkjjcldcfokigaaDoor.ws
