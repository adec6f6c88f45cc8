/- Parse of the package: a text that begins with a minus. -/
import Derived.Test.YtkjjcldcfokigaaDoorW5
namespace Go.Proofs.YtkjjcldcfokigaaDoor.ws
open Go Go.RowKit Go.Lib

set_option maxHeartbeats 4000000 in
theorem parse_neg (s : ByteArray) (w : World) (hs : s.size ≤ 9223372036854775807) (hne : 0 < s.size) (h0 : (s[0]'hne).toNat = 45) :
    Calls Tryd.prog 15 #[.string s] w fun e w' => e = .returned (.tuple #[.int .i64 (prs s.data.toList).1, .int .i64 (prs s.data.toList).2.1, .int .i64 (prs s.data.toList).2.2]) ∧ w = w' := by
  have P := Lib.hid (prs_neg hne h0)
  have hN : (((s[0]'hne).toNat : Int) == 45) = true := by simp; omega
  have hE := ne_empty hne
  clear h0
  by_cases h1 : s.size = 1
  · have hz : ((1 : Int) == s.size) = true := by simp; omega
    have R := Lib.hid (show prs s.data.toList = (0, 10, 1) from by rw [P.out, drop_end s 1 (by omega)]; rfl)
    clear h1
    go_enter Tryd.func15, Tryd.ntmps15
    go_wp2
    go_ret3
    rw [R.out]
    exact ⟨rfl, rfl⟩
  have hz : ((1 : Int) == s.size) = false := by simp; omega
  have hlt : 1 < s.size := by omega
  clear h1
  have D := Lib.hid (drop_at s 1 hlt)
  by_cases b : s[1].toNat < 48 ∨ 57 < s[1].toNat ∨ s[1].toNat = 48
  · have R := Lib.hid (show prs s.data.toList = (0, 10, 1) from by rw [P.out, D.out]; exact pgo_bad (by simp [bad]; omega))
    rcases b with b | b | b
    case inr.inr =>
      have b3 : ((s[1].toNat : Int) == 48) = true := by simp; omega
      have b1 : 48 ≤ s[1].toNat := by omega
      have b2 : s[1].toNat ≤ 57 := by omega
      clear b
      go_enter Tryd.func15, Tryd.ntmps15
      go_wp2
      go_ret3; rw [R.out]; exact ⟨rfl, rfl⟩
    all_goals
      go_enter Tryd.func15, Tryd.ntmps15
      go_wp2
      all_goals first | (exfalso; omega) | (go_ret3; rw [R.out]; exact ⟨rfl, rfl⟩)
  have b1 : 48 ≤ s[1].toNat := by omega
  have b2 : s[1].toNat ≤ 57 := by omega
  have b3 : ((s[1].toNat : Int) == 48) = false := by simp; omega
  have b4 := Lib.hid (show s[1].toNat ≠ 48 by omega)
  clear b
  go_enter Tryd.func15, Tryd.ntmps15
  go_wp2_with fail
  go_loop [8, 9] (fun n i => ∃ N k : Nat, 1 ≤ k ∧ k ≤ s.size ∧ n = .int .u64 N ∧ i = .int .i64 k ∧ N ≤ most true ∧ (k = 1 → N = 0) ∧ (1 < k → (N = 0 ↔ (s[1]'hlt).toNat = 48)) ∧ Hid (prs s.data.toList = pgo true 1 (s.data.toList.drop k) k N)) (fun _ i => s.size - (intOf i).toNat)
  case atStart => exact ⟨0, 1, by omega, by omega, rfl, rfl, by omega, fun _ => rfl, fun h => by omega, P.out⟩
  case round =>
    obtain ⟨N, k, hk1, hk, rfl, rfl, hm, hk0, hz0, H⟩ := hrel
    have hml := most_le true
    have HK := Lib.hid hk0
    have HZ := Lib.hid hz0
    clear hk0 hz0
    by_cases hlt' : k < s.size
    · have D' := Lib.hid (drop_at s k hlt')
      by_cases b : s[k].toNat < 48 ∨ 57 < s[k].toNat ∨ (1 < k ∧ N = 0)
      · have R := Lib.hid (show prs s.data.toList = (0, 10, (k : Int)) from by rw [H.out, D'.out]; exact pgo_bad (by simp only [bad, decide_eq_true_eq]; omega))
        rcases b with b | b | ⟨b, bz⟩
        case inr.inr =>
          exact absurd ((HZ.out b).1 bz) b4.out
        all_goals
          go_wp2
          all_goals first | (exfalso; omega) | (go_ret3; rw [R.out]; exact ⟨rfl, rfl⟩)
      · have c1 : 48 ≤ s[k].toNat := by omega
        have c2 : s[k].toNat ≤ 57 := by omega
        have c3 : k = 1 ∨ (1 < k ∧ (((s[1]'hlt).toNat : Int) == 48) = false) := by
          by_cases hq : k = 1
          · exact .inl hq
          · refine .inr ⟨by omega, ?_⟩
            have := HZ.out (by omega)
            simp; omega
        have NB := Lib.hid (show ¬ (1 < k ∧ N = 0) by omega)
        clear b
        obtain ⟨d, hd⟩ : ∃ d : Nat, d = s[k].toNat - 48 := ⟨_, rfl⟩
        have hd9 : d ≤ 9 := by omega
        have hD := Lib.hid hd
        have hw : IntKind.u8.wrap ((s[k].toNat : Int) - 48) = (d : Int) := by rw [IntKind.wrap_u8]; omega
        clear hd
        have BI := Lib.hid (big_iff true hm hd9)
        have ha := add64_any ((N : Int) * 10 % 18446744073709551616) d (by omega) (by omega)
        by_cases ov : 10 * N + d ≤ most true
        · have NX := Lib.hid (show prs s.data.toList = pgo true 1 (s.data.toList.drop (k + 1)) (k + 1) (10 * N + d) from by
            rw [H.out, D'.out, hD.out]
            refine pgo_go (decide_eq_false ?_)
            have q1 := hD.out
            have q2 := NB.out
            rintro (h | h | h | ⟨h, h2, h3⟩ | h)
            · omega
            · omega
            · exact q2 h
            · subst h2; exact b4.out h3
            · omega)
          have ov' : 10 * (N : Int) + d ≤ (most true : Nat) := by omega
          have SM : Hid ((10 * N + d = 0 ↔ (s[1]'hlt).toNat = 48) ∧ 1 < k + 1) := by
            refine ⟨?_, by omega⟩
            rcases c3 with c3 | ⟨c3, c4⟩
            · have := HK.out c3
              have := hD.out
              subst c3
              omega
            · have h1 := HZ.out c3
              have h2 := NB.out
              have h4 : (s[1]'hlt).toNat ≠ 48 := by simp at c4; omega
              omega
          unfold most at ov' hm
          simp only [if_true] at ov' hm
          have c5 : k = 1 ∨ (1 < k ∧ (((s[1]'hlt).toNat : Int) == 48) = false) := c3
          clear c3
          rcases c5 with c3 | ⟨c3, c4⟩
          all_goals
            try subst c3
            go_wp2_with (go_at_call 35; refine (mul64_any _ 10 (by omega) (by omega) _).mono ?_; rintro e w' ⟨rfl, rfl⟩)
            all_goals first | (exfalso; omega) | skip
            go_round
            case rel => exact ⟨10 * N + d, _, by omega, by omega, num_u64 (by omega), by go_num, by omega, by omega, fun _ => SM.out.1, NX.out⟩
            case measure => simp [intOf]; omega
        · have R := Lib.hid (show prs s.data.toList = (0, 10, (k : Int)) from by
            rw [H.out, D'.out]
            refine pgo_bad (decide_eq_true ?_)
            have q1 := hD.out
            omega)
          have ov' : ((most true : Nat) : Int) < 10 * (N : Int) + d := by omega
          unfold most at ov' hm
          simp only [if_true] at ov' hm
          rcases c3 with c3 | ⟨c3, c4⟩
          all_goals
            try subst c3
            go_wp2_with (go_at_call 35; refine (mul64_any _ 10 (by omega) (by omega) _).mono ?_; rintro e w' ⟨rfl, rfl⟩)
            all_goals first | (exfalso; omega) | (go_ret3; rw [R.out]; exact ⟨rfl, rfl⟩)
    · obtain rfl : k = s.size := by omega
      have R := Lib.hid (show prs s.data.toList = (okV true N, 0, 0) from by
        rw [H.out, drop_end s _ (Nat.le_refl _)]
        unfold pgo
        rw [if_neg (by omega)])
      unfold most at hm
      simp only [if_true] at hm
      go_wp2
      go_ret3
      rw [R.out]
      exact ⟨ret_int3 (by show _ = -(N : Int); first | rfl | (simp only [wrap64, IntKind.wrap_u64]; omega)) rfl rfl, rfl⟩

end Go.Proofs.YtkjjcldcfokigaaDoor.ws
