/- Print of the reference. -/
import Derived.Test.YtkjjcldcfokigaaDoorW3
import Derived.Test.YtkjjcldcfokigaaDoorWps
import Derived.Deep.RegionWith
import Derived.ShutString
namespace Go.Proofs.YtkjjcldcfokigaaDoor.ws
open Go Go.RowKit Go.Lib

theorem bcell {W w1 : World} (hb : Below W.heap.size W w1) : ∀ b o, b < W.heap.size → w1.cell? ⟨b, o, none⟩ = W.cell? ⟨b, o, none⟩ :=
  fun b o h => hb.cell (p := ⟨b, o, none⟩) h
theorem conv_one (B : Nat) (d : Nat) (hd : d < 10) (W : World) (hc : W.cell? ⟨B, 0, none⟩ = some (.int .u8 (48 + (d : Int)))) :
    (convert 60 9 (.slice (some ⟨B, 0, none⟩) 1 1)).run Tryd.prog W = .ok (.string ⟨[dch d].toArray⟩) W := by
  refine run_convert_bytes_back W 60 9 5 ⟨B, 0, none⟩ 1 [dch d] Tryd.underlying60 Tryd.underlying5 Tryd.underlying9 fun j hj => ?_
  obtain rfl : j = 0 := by simpa using hj
  show W.cell? ⟨B, 0, none⟩ = some (.int .u8 (dch d).toNat)
  rw [hc, dch_toNat hd]
  rfl

set_option maxHeartbeats 1000000 in
theorem digits_small (n : Nat) (w : World) (hn : n < 10) :
    Calls Tryd.prog 37 #[.int .u64 n] w fun e w' => e = .returned (.string ⟨(dig n).toArray⟩) ∧ Below w.heap.size w w' := by
  have hcv := conv_one w.heap.size n hn (w.alloc (.cells #[.int .u8 (48 + (n : Int))] 5)) (by rw [World.cell?_alloc_at _ _ _ _ rfl]; rfl)
  have D := Lib.hid (dig_small hn)
  go_enter Tryd.func37, Tryd.ntmps37
  go_wp2
  go_ret
  exact ⟨ret_str (by rw [D.out]), (Below.refl _ _).alloc (Nat.le_refl _) _⟩

set_option maxHeartbeats 1000000 in
theorem digits_big (n : Nat) (w : World) (hn : 10 ≤ n) (hb : n < 18446744073709551616)
    (ih : ∀ w, Calls Tryd.prog 37 #[.int .u64 ((n : Int) / 10)] w fun e w' => e = .returned (.string ⟨(dig (n / 10)).toArray⟩) ∧ Below w.heap.size w w') :
    Calls Tryd.prog 37 #[.int .u64 n] w fun e w' => e = .returned (.string ⟨(dig n).toArray⟩) ∧ Below w.heap.size w w' := by
  have IH := Lib.hid ih
  clear ih
  have hcv : ∀ (B : Nat) (W : World), W.cell? ⟨B, 0, none⟩ = some (.int .u8 (48 + (n : Int) % 10)) → (convert 60 9 (.slice (some ⟨B, 0, none⟩) 1 1)).run Tryd.prog W = .ok (.string ⟨[dch (n % 10)].toArray⟩) W :=
    fun B W h => conv_one B (n % 10) (by omega) W h
  have D := Lib.hid (dig_big (n := n) (by omega))
  have hlen := dig_len64 (n := n / 10) (by omega)
  have q1 : IntKind.u64.wrap ((n : Int) / 10) = (n : Int) / 10 := IntWalk.u64_in _ (by omega)
  have q2 : (n : Int).tmod 10 = (n : Int) % 10 := IntWalk.rem_in _ _ (by omega)
  have q3 : IntKind.u64.wrap (48 + (n : Int) % 10) = 48 + (n : Int) % 10 := IntWalk.u64_in _ (by omega)
  have q4 : IntKind.u8.wrap (48 + (n : Int) % 10) = 48 + (n : Int) % 10 := IntWalk.u8_in _ (by omega)
  go_enter Tryd.func37, Tryd.ntmps37
  go_wp2
  go_region_with (go_at_call 37; refine (IH.out _).mono ?_; rintro e w1 ⟨rfl, hb1⟩; have hc1 := bcell hb1)
  all_goals
    go_wp2
    go_ret
    refine ⟨ret_str (by rw [D.out]; apply ByteArray.ext; simp [ByteArray.data_append]), ?_⟩
    first
      | exact ((Below.refl w.heap.size w).drew.trans (hb1.mono (Nat.le_refl _))).alloc hb1.size _
      | exact ((Below.refl w.heap.size w).alloc (Nat.le_refl _) _).drew.trans (hb1.mono (by simp))

theorem digits_any : ∀ (k n : Nat) (w : World), n < 10 ^ (k + 1) → n < 18446744073709551616 →
    Calls Tryd.prog 37 #[.int .u64 n] w fun e w' => e = .returned (.string ⟨(dig n).toArray⟩) ∧ Below w.heap.size w w'
  | 0, n, w, h, _ => digits_small n w (by simpa using h)
  | k + 1, n, w, h, hb => by
    by_cases hn : n < 10
    · exact digits_small n w hn
    · exact digits_big n w (by omega) hb fun w => digits_any k (n / 10) w (by rw [Nat.pow_succ] at h; omega) (by omega)
theorem digits64 (n : Nat) (w : World) (hb : n < 18446744073709551616) :
    Calls Tryd.prog 37 #[.int .u64 n] w fun e w' => e = .returned (.string ⟨(dig n).toArray⟩) ∧ Below w.heap.size w w' :=
  digits_any 19 n w (Nat.lt_trans hb (by decide)) hb

set_option maxHeartbeats 1000000 in
theorem rprint_pos (N : Nat) (w : World) (hN : N ≤ 9223372036854775807) :
    Calls Tryd.prog 18 #[.int .i64 N] w fun e w' => e = .returned (.string ⟨(prn N).toArray⟩) ∧ Below w.heap.size w w' := by
  have R : Hid (prn N = dig N) := by
    show prn N = dig N
    unfold prn; rw [if_neg (by omega)]; rfl
  go_enter Tryd.func18, Tryd.ntmps18
  go_wp2_with (go_at_call 37; refine (digits64 _ _ (by omega)).mono ?_; rintro e w1 ⟨rfl, hb1⟩)
  go_ret
  exact ⟨ret_str (by rw [R.out]), hb1⟩

set_option maxHeartbeats 1000000 in
theorem rprint_neg (N : Nat) (w : World) (hN : N ≤ 9223372036854775808) (h0 : 0 < N) :
    Calls Tryd.prog 18 #[.int .i64 (-(N : Int))] w fun e w' => e = .returned (.string ⟨(prn (-(N : Int))).toArray⟩) ∧ Below w.heap.size w w' := by
  have R : Hid (prn (-(N : Int)) = 45 :: dig N) := by
    show prn _ = _
    unfold prn; rw [if_pos (by omega), Int.neg_neg]; rfl
  have hlt : -(N : Int) < 0 := by omega
  have hlen := dig_len64 (n := N) (by omega)
  have hw : IntKind.u64.wrap (-(IntKind.u64.wrap (-(N : Int)))) = N := by rw [IntKind.wrap_u64, IntKind.wrap_u64]; omega
  go_enter Tryd.func18, Tryd.ntmps18
  go_wp2_with (go_at_call 37; refine (digits64 N _ (by omega)).mono ?_; rintro e w1 ⟨rfl, hb1⟩)
  go_ret
  exact ⟨ret_str (by rw [R.out]; apply ByteArray.ext; simp [ByteArray.data_append]), hb1⟩

theorem rprint_any (v : Int) (w : World) (h1 : -9223372036854775808 ≤ v) (h2 : v ≤ 9223372036854775807) :
    Calls Tryd.prog 18 #[.int .i64 v] w fun e w' => e = .returned (.string ⟨(prn v).toArray⟩) ∧ Below w.heap.size w w' := by
  by_cases h : 0 ≤ v
  · obtain ⟨N, rfl⟩ := Int.eq_ofNat_of_zero_le h
    exact rprint_pos N w (by omega)
  · obtain ⟨N, hN⟩ := Int.eq_ofNat_of_zero_le (a := -v) (by omega)
    obtain rfl : v = -(N : Int) := by omega
    exact rprint_neg N w (by omega) (by omega)
end Go.Proofs.YtkjjcldcfokigaaDoor.ws
