/- Parse of the reference: a text that begins with no minus. -/
import Derived.Test.YtkjjcldcfokigaaDoorW5
namespace Go.Proofs.YtkjjcldcfokigaaDoor.ws
open Go Go.RowKit Go.Lib

set_option maxHeartbeats 4000000 in
theorem rparse_pos (s : ByteArray) (w : World) (hs : s.size ≤ 9223372036854775807) (hne : 0 < s.size) (h0 : (s[0]'hne).toNat ≠ 45) :
    Calls Tryd.prog 16 #[.string s] w fun e w' => e = .returned (.tuple #[.int .i64 (prs s.data.toList).1, .int .i64 (prs s.data.toList).2.1, .int .i64 (prs s.data.toList).2.2]) ∧ w = w' := by
  have P := Lib.hid (prs_pos hne h0)
  have hN : (((s[0]'hne).toNat : Int) == 45) = false := by simp; omega
  clear h0
  have hlt : 0 ≤ s.size := by omega
  go_enter Tryd.func16, Tryd.ntmps16
  go_wp2_with fail
  go_loop [8, 6] (fun n i => ∃ N k : Nat, 0 ≤ k ∧ k ≤ s.size ∧ n = .int .u64 N ∧ i = .int .i64 k ∧ N ≤ most false ∧ (k = 0 → N = 0) ∧ Hid (prs s.data.toList = pgo false 0 (s.data.toList.drop k) k N)) (fun _ i => s.size - (intOf i).toNat)
  case atStart => exact ⟨0, 0, by omega, by omega, rfl, rfl, by omega, fun _ => rfl, P.out⟩
  case round =>
    obtain ⟨N, k, hk1, hk, rfl, rfl, hm, hk0, H⟩ := hrel
    have hml := most_le false
    have HK := Lib.hid hk0
    clear hk0
    by_cases hlt' : k < s.size
    · have D' := Lib.hid (drop_at s k hlt')
      by_cases b : s[k].toNat < 48 ∨ 57 < s[k].toNat ∨ (0 < k ∧ N = 0)
      · have R := Lib.hid (show prs s.data.toList = (0, 10, (k : Int)) from by rw [H.out, D'.out]; exact pgo_bad (by simp only [bad, decide_eq_true_eq]; omega))
        have b' : s[k].toNat < 48 ∨ 57 < s[k].toNat ∨ (48 ≤ s[k].toNat ∧ s[k].toNat ≤ 57 ∧ 0 < k ∧ N = 0) := by omega
        clear b
        rcases b' with b | b | ⟨c1, c2, b, rfl⟩
        all_goals
          go_wp2
          all_goals first | (exfalso; omega) | (go_ret3; rw [R.out]; exact ⟨ret_int3 rfl rfl (by first | rfl | (dsimp only; omega)), rfl⟩)
      · have c1 : 48 ≤ s[k].toNat := by omega
        have c2 : s[k].toNat ≤ 57 := by omega
        have NB := Lib.hid (show ¬ (0 < k ∧ N = 0) by omega)
        clear b
        obtain ⟨d, hd⟩ : ∃ d : Nat, d = s[k].toNat - 48 := ⟨_, rfl⟩
        have hd9 : d ≤ 9 := by omega
        have hD := Lib.hid hd
        have hw : IntKind.u8.wrap ((s[k].toNat : Int) - 48) = (d : Int) := by rw [IntKind.wrap_u8]; omega
        clear hd
        have c3 : ((k = 0) ∨ (0 < k ∧ ((N : Int) == 0) = false)) ∧ (((s[k].toNat : Int) == 48) = true ∨ ((s[k].toNat : Int) == 48) = false) := by
          refine ⟨?_, by cases ((s[k].toNat : Int) == 48) <;> simp⟩
          have := NB.out
          by_cases hq : k = 0
          · exact .inl hq
          · refine .inr ⟨by omega, ?_⟩
            simp; omega
        by_cases ov : 10 * N + d ≤ most false
        · have NX := Lib.hid (show prs s.data.toList = pgo false 0 (s.data.toList.drop (k + 1)) (k + 1) (10 * N + d) from by
            rw [H.out, D'.out, hD.out]
            refine pgo_go (decide_eq_false ?_)
            have q1 := hD.out
            have q2 := NB.out
            rintro (h | h | h | ⟨h, h2, h3⟩ | h)
            · omega
            · omega
            · exact q2 h
            · cases h
            · omega)
          have ov' : 10 * (N : Int) + d ≤ (most false : Nat) := by omega
          unfold most at ov' hm
          simp only [Bool.false_eq_true, if_false] at ov' hm
          rcases c3 with ⟨c3 | ⟨c3, c4⟩, c5 | c5⟩
          all_goals
            try subst c3
            go_wp2
            all_goals first | (exfalso; omega) | skip
            go_round
            case rel => exact ⟨10 * N + d, _, by omega, by omega, num_u64 (by omega), by go_num, by omega, by omega, NX.out⟩
            case measure => simp [intOf]; omega
        · have R := Lib.hid (show prs s.data.toList = (0, 10, (k : Int)) from by
            rw [H.out, D'.out]
            refine pgo_bad (decide_eq_true ?_)
            have q1 := hD.out
            omega)
          have ov' : ((most false : Nat) : Int) < 10 * (N : Int) + d := by omega
          unfold most at ov' hm
          simp only [Bool.false_eq_true, if_false] at ov' hm
          rcases c3 with ⟨c3 | ⟨c3, c4⟩, c5 | c5⟩
          all_goals
            try subst c3
            go_wp2
            all_goals first | (exfalso; omega) | (go_ret3; rw [R.out]; exact ⟨ret_int3 rfl rfl (by first | rfl | (dsimp only; omega)), rfl⟩)
    · obtain rfl : k = s.size := by omega
      by_cases hat : s.size = 0
      · have R := Lib.hid (show prs s.data.toList = (0, 10, (s.size : Int)) from by
          rw [H.out, drop_end s _ (Nat.le_refl _)]
          unfold pgo
          rw [if_pos hat])
        have hq : ((s.size : Int) == 0) = true := beq_iff_eq.2 (by omega)
        clear hat
        go_wp2
        all_goals first | (exfalso; omega) | (go_ret3; rw [R.out]; exact ⟨ret_int3 rfl rfl (by first | rfl | (dsimp only; omega)), rfl⟩)
      · have R := Lib.hid (show prs s.data.toList = (okV false N, 0, 0) from by
          rw [H.out, drop_end s _ (Nat.le_refl _)]
          unfold pgo
          rw [if_neg hat])
        have hq : ((s.size : Int) == 0) = false := beq_eq_false_iff_ne.2 (by omega)
        unfold most at hm
        simp only [Bool.false_eq_true, if_false] at hm
        clear hat
        go_wp2
        go_ret3
        rw [R.out]
        exact ⟨ret_int3 (by show _ = (N : Int); first | rfl | (simp only [wrap64, IntKind.wrap_u64]; omega)) rfl rfl, rfl⟩

end Go.Proofs.YtkjjcldcfokigaaDoor.ws
