/- The law without the document on texts: there and back. -/
import Derived.Test.YtkjjcldcfokigaaDoorW10
import Derived.Test.YtkjjcldcfokigaaDoorWlk
namespace Go.Proofs.YtkjjcldcfokigaaDoor.ws
open Go Go.RowKit Go.Lib

theorem prn_len {v : Int} (h1 : -9223372036854775808 ≤ v) (h2 : v ≤ 9223372036854775807) : (prn v).length ≤ 21 := by
  unfold prn
  split
  · have := dig_len64 (n := (-v).toNat) (by omega)
    simp; omega
  · have := dig_len64 (n := v.toNat) (by omega)
    omega
theorem parse_prn {v : Int} (w : World) (h1 : -9223372036854775808 ≤ v) (h2 : v ≤ 9223372036854775807) :
    Calls Tryd.prog 15 #[.string ⟨(prn v).toArray⟩] w fun e w' => e = .returned (.tuple #[.int .i64 v, .int .i64 0, .int .i64 0]) ∧ w = w' := by
  have hl := prn_len h1 h2
  refine (parse_any ⟨(prn v).toArray⟩ w (by show (prn v).toArray.size ≤ _; simp; omega)).mono ?_
  rintro e w' ⟨rfl, rfl⟩
  have h : prs (ByteArray.mk (prn v).toArray).data.toList = (v, 0, 0) := prs_prn h1 h2
  rw [h]
  exact ⟨rfl, rfl⟩
theorem parse_of {s : ByteArray} {y e : Int} {p : Int} (w : World) (hs : s.size ≤ 9223372036854775807) (h : prs s.data.toList = (y, e, p)) :
    Calls Tryd.prog 15 #[.string s] w fun r w' => r = .returned (.tuple #[.int .i64 y, .int .i64 e, .int .i64 p]) ∧ w = w' := by
  refine (parse_any s w hs).mono ?_
  rintro r w' ⟨rfl, rfl⟩
  rw [h]
  exact ⟨rfl, rfl⟩
theorem print_of {s : ByteArray} {y : Int} (w : World) (h : prn y = s.data.toList) (h1 : -9223372036854775808 ≤ y) (h2 : y ≤ 9223372036854775807) :
    Calls Tryd.prog 17 #[.int .i64 y] w fun r w' => r = .returned (.string s) ∧ Below w.heap.size w w' := by
  refine (print_any y w h1 h2).mono ?_
  rintro r w' ⟨rfl, hb⟩
  exact ⟨ret_str (by rw [h]), hb⟩

theorem find_two {op : Nat} (w : World) (h : findN (sg op) = op) (h0 : op ≠ 0) (ht : Tab w) :
    Calls Tryd.prog 22 #[.string (sg op)] w fun e w' => e = .returned (.tuple #[.int .u8 op, .bool true]) ∧ w = w' := by
  refine (find_any (sg op) w ht).mono ?_
  rintro r w' ⟨rfl, rfl⟩
  rw [h]
  have : (op != 0) = true := by simpa using h0
  rw [this]
  exact ⟨rfl, rfl⟩

set_option maxHeartbeats 4000000 in
theorem back_law (v : Int) (s : ByteArray) (op : Nat) (w : World) (ht : Tab w) (h1 : -9223372036854775808 ≤ v) (h2 : v ≤ 9223372036854775807) (hs : s.size ≤ 9223372036854775807) :
    Calls Tryd.prog 8 #[.int .i64 v, .string s, .int .u8 op] w fun e w' => e = .returned (.bool true) ∧ Below w.heap.size w w' := by
  have tok : True := trivial
  have hk := Ok.first ht
  have hT : isTwo op = false ∨ (isTwo op = true ∧ findN (sg op) = op ∧ op ≠ 0) := by
    cases h : isTwo op
    · exact .inl rfl
    · exact .inr ⟨rfl, find_sg op h, fun h0 => by rw [h0] at h; cases h⟩
  rcases prs_back s.data.toList with ⟨p, hp, hl⟩ | ⟨y, hp, hb, y1, y2⟩
  · have HP := Lib.hid hp
    have hl' : p ≤ s.size := by simpa using hl
    clear hp hl
    rcases hT with t | ⟨t, t1, t2⟩
    · have T := Lib.hid t
      clear t ht
      go_enter Tryd.func8, Tryd.ntmps8
      go_wp2_with (first
        | (go_at_call_of 17 (Value.int IntKind.i64 v); have _t := tok; refine (print_any v _ h1 h2).mono ?_; rintro e w1 ⟨rfl, hb1⟩; replace hk := hk.step hb1; clear tok)
        | (go_at_call_of 15 (Value.string s); refine (parse_of _ hs HP.out).mono ?_; rintro e w1 ⟨rfl, rfl⟩)
        | (go_at_call 15; refine (parse_prn _ h1 h2).mono ?_; rintro e w1 ⟨rfl, rfl⟩)
        | (go_at_call 23; refine (show_any op _ hk.tab).mono ?_; rintro e w1 ⟨rfl, rfl⟩)
        | (go_at_call 22; refine (find_any _ _ hk.tab).mono ?_; rintro e w1 ⟨rfl, rfl⟩)
        | (go_at_call 14; refine (l_lives hk).mono ?_; rintro e w2 ⟨rfl, hk2⟩)
        | (go_at_call 24; refine (two_any op _).mono ?_; rw [T.out]; rintro e w1 ⟨rfl, rfl⟩))
      go_ret
      exact ⟨rfl, hk2.below⟩
    · have T := Lib.hid t
      have F := Lib.hid t1
      have F0 := Lib.hid t2
      clear t t1 t2 ht
      go_enter Tryd.func8, Tryd.ntmps8
      go_wp2_with (first
        | (go_at_call_of 17 (Value.int IntKind.i64 v); have _t := tok; refine (print_any v _ h1 h2).mono ?_; rintro e w1 ⟨rfl, hb1⟩; replace hk := hk.step hb1; clear tok)
        | (go_at_call_of 15 (Value.string s); refine (parse_of _ hs HP.out).mono ?_; rintro e w1 ⟨rfl, rfl⟩)
        | (go_at_call 15; refine (parse_prn _ h1 h2).mono ?_; rintro e w1 ⟨rfl, rfl⟩)
        | (go_at_call 23; refine (show_any op _ hk.tab).mono ?_; rintro e w1 ⟨rfl, rfl⟩)
        | (go_at_call 22; refine (find_two _ F.out F0.out hk.tab).mono ?_; rintro e w1 ⟨rfl, rfl⟩)
        | (go_at_call 14; refine (l_lives hk).mono ?_; rintro e w2 ⟨rfl, hk2⟩)
        | (go_at_call 24; refine (two_any op _).mono ?_; rw [T.out]; rintro e w1 ⟨rfl, rfl⟩))
      go_ret
      exact ⟨rfl, hk2.below⟩
  · have HP := Lib.hid hp
    have HB := Lib.hid hb
    clear hp hb
    rcases hT with t | ⟨t, t1, t2⟩
    · have T := Lib.hid t
      clear t ht
      go_enter Tryd.func8, Tryd.ntmps8
      go_wp2_with (first
        | (go_at_call_of 17 (Value.int IntKind.i64 v); have _t := tok; refine (print_any v _ h1 h2).mono ?_; rintro e w1 ⟨rfl, hb1⟩; replace hk := hk.step hb1; clear tok)
        | (go_at_call_of 15 (Value.string s); refine (parse_of _ hs HP.out).mono ?_; rintro e w1 ⟨rfl, rfl⟩)
        | (go_at_call 15; refine (parse_prn _ h1 h2).mono ?_; rintro e w1 ⟨rfl, rfl⟩)
        | (go_at_call 23; refine (show_any op _ hk.tab).mono ?_; rintro e w1 ⟨rfl, rfl⟩)
        | (go_at_call 22; refine (find_any _ _ hk.tab).mono ?_; rintro e w1 ⟨rfl, rfl⟩)
        | (go_at_call 14; refine (l_lives hk).mono ?_; rintro e w2 ⟨rfl, hk2⟩)
        | (go_at_call 17; refine (print_of _ HB.out y1 y2).mono ?_; rintro e w3 ⟨rfl, hb3⟩)
        | (go_at_call 24; refine (two_any op _).mono ?_; rw [T.out]; rintro e w1 ⟨rfl, rfl⟩))
      go_ret
      exact ⟨rfl, (hk2.step hb3).below⟩
    · have T := Lib.hid t
      have F := Lib.hid t1
      have F0 := Lib.hid t2
      clear t t1 t2 ht
      go_enter Tryd.func8, Tryd.ntmps8
      go_wp2_with (first
        | (go_at_call_of 17 (Value.int IntKind.i64 v); have _t := tok; refine (print_any v _ h1 h2).mono ?_; rintro e w1 ⟨rfl, hb1⟩; replace hk := hk.step hb1; clear tok)
        | (go_at_call_of 15 (Value.string s); refine (parse_of _ hs HP.out).mono ?_; rintro e w1 ⟨rfl, rfl⟩)
        | (go_at_call 15; refine (parse_prn _ h1 h2).mono ?_; rintro e w1 ⟨rfl, rfl⟩)
        | (go_at_call 23; refine (show_any op _ hk.tab).mono ?_; rintro e w1 ⟨rfl, rfl⟩)
        | (go_at_call 22; refine (find_two _ F.out F0.out hk.tab).mono ?_; rintro e w1 ⟨rfl, rfl⟩)
        | (go_at_call 14; refine (l_lives hk).mono ?_; rintro e w2 ⟨rfl, hk2⟩)
        | (go_at_call 17; refine (print_of _ HB.out y1 y2).mono ?_; rintro e w3 ⟨rfl, hb3⟩)
        | (go_at_call 24; refine (two_any op _).mono ?_; rw [T.out]; rintro e w1 ⟨rfl, rfl⟩))
      go_ret
      exact ⟨rfl, (hk2.step hb3).below⟩
end Go.Proofs.YtkjjcldcfokigaaDoor.ws
