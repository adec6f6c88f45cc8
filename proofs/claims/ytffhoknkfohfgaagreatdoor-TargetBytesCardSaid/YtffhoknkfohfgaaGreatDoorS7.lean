/- Parse of the package: a text that begins with a minus. Print, of the package and of the reference. Parse, at every text. Contracts of target: the reader of bytes: fail, number, small, word, name. Contracts of target: what is read, written, comes next. Print of the reference. -/
import Derived.Test.YtffhoknkfohfgaaGreatDoorS6
import Derived.Test.YtffhoknkfohfgaaGreatDoorProg
import Derived.WalkLawsBesides
import Derived.Deep.WholeRow
import Derived.Lib.Hide
import Derived.Below
import Derived.Test.YtffhoknkfohfgaaGreatDoorS4
import Derived.ShutString
import Derived.Deep.RegionWith
set_option linter.all false

namespace Go.Proofs.YtffhoknkfohfgaaGreatDoor.ws
open Go Go.RowKit Go.Lib

set_option maxHeartbeats 4000000 in
theorem parse_neg (s : ByteArray) (w : World) (hs : s.size ≤ 9223372036854775807) (hne : 0 < s.size) (h0 : (s[0]'hne).toNat = 45) :
    Calls Tryz.prog 88 #[.string s] w fun e w' => e = .returned (.tuple #[.int .i64 (prs s.data.toList).1, .int .i64 (prs s.data.toList).2.1, .int .i64 (prs s.data.toList).2.2]) ∧ w = w' := by
  have P := Lib.hid (prs_neg hne h0)
  have hN : (((s[0]'hne).toNat : Int) == 45) = true := by simp; omega
  have hE := ne_empty hne
  clear h0
  by_cases h1 : s.size = 1
  · have hz : ((1 : Int) == s.size) = true := by simp; omega
    have R := Lib.hid (show prs s.data.toList = (0, 10, 1) from by rw [P.out, drop_end s 1 (by omega)]; rfl)
    clear h1
    go_enter Tryz.func88, Tryz.ntmps88
    go_wp2
    go_ret3
    rw [R.out]
    exact ⟨rfl, rfl⟩
  have hz : ((1 : Int) == s.size) = false := by simp; omega
  have hlt : 1 < s.size := by omega
  clear h1
  have D := Lib.hid (drop_at s 1 hlt)
  by_cases b : s[1].toNat < 48 ∨ 57 < s[1].toNat ∨ s[1].toNat = 48
  · have R := Lib.hid (show prs s.data.toList = (0, 10, 1) from by rw [P.out, D.out]; exact pgo_bad (by simp [bad]; omega))
    rcases b with b | b | b
    case inr.inr =>
      have b3 : ((s[1].toNat : Int) == 48) = true := by simp; omega
      have b1 : 48 ≤ s[1].toNat := by omega
      have b2 : s[1].toNat ≤ 57 := by omega
      clear b
      go_enter Tryz.func88, Tryz.ntmps88
      go_wp2
      go_ret3; rw [R.out]; exact ⟨rfl, rfl⟩
    all_goals
      go_enter Tryz.func88, Tryz.ntmps88
      go_wp2
      all_goals first | (exfalso; omega) | (go_ret3; rw [R.out]; exact ⟨rfl, rfl⟩)
  have b1 : 48 ≤ s[1].toNat := by omega
  have b2 : s[1].toNat ≤ 57 := by omega
  have b3 : ((s[1].toNat : Int) == 48) = false := by simp; omega
  have b4 := Lib.hid (show s[1].toNat ≠ 48 by omega)
  clear b
  go_enter Tryz.func88, Tryz.ntmps88
  go_wp2_with fail
  go_loop [8, 9] (fun n i => ∃ N k : Nat, 1 ≤ k ∧ k ≤ s.size ∧ n = .int .u64 N ∧ i = .int .i64 k ∧ N ≤ most true ∧ (k = 1 → N = 0) ∧ (1 < k → (N = 0 ↔ (s[1]'hlt).toNat = 48)) ∧ Hid (prs s.data.toList = pgo true 1 (s.data.toList.drop k) k N)) (fun _ i => s.size - (intOf i).toNat)
  case atStart => exact ⟨0, 1, by omega, by omega, rfl, rfl, by omega, fun _ => rfl, fun h => by omega, P.out⟩
  case round =>
    obtain ⟨N, k, hk1, hk, rfl, rfl, hm, hk0, hz0, H⟩ := hrel
    have hml := most_le true
    have HK := Lib.hid hk0
    have HZ := Lib.hid hz0
    clear hk0 hz0
    by_cases hlt' : k < s.size
    · have D' := Lib.hid (drop_at s k hlt')
      by_cases b : s[k].toNat < 48 ∨ 57 < s[k].toNat ∨ (1 < k ∧ N = 0)
      · have R := Lib.hid (show prs s.data.toList = (0, 10, (k : Int)) from by rw [H.out, D'.out]; exact pgo_bad (by simp only [bad, decide_eq_true_eq]; omega))
        rcases b with b | b | ⟨b, bz⟩
        case inr.inr =>
          exact absurd ((HZ.out b).1 bz) b4.out
        all_goals
          go_wp2
          all_goals first | (exfalso; omega) | (go_ret3; rw [R.out]; exact ⟨rfl, rfl⟩)
      · have c1 : 48 ≤ s[k].toNat := by omega
        have c2 : s[k].toNat ≤ 57 := by omega
        have c3 : k = 1 ∨ (1 < k ∧ (((s[1]'hlt).toNat : Int) == 48) = false) := by
          by_cases hq : k = 1
          · exact .inl hq
          · refine .inr ⟨by omega, ?_⟩
            have := HZ.out (by omega)
            simp; omega
        have NB := Lib.hid (show ¬ (1 < k ∧ N = 0) by omega)
        clear b
        obtain ⟨d, hd⟩ : ∃ d : Nat, d = s[k].toNat - 48 := ⟨_, rfl⟩
        have hd9 : d ≤ 9 := by omega
        have hD := Lib.hid hd
        have hw : IntKind.u8.wrap ((s[k].toNat : Int) - 48) = (d : Int) := by rw [IntKind.wrap_u8]; omega
        clear hd
        have BI := Lib.hid (big_iff true hm hd9)
        have ha := add64_any ((N : Int) * 10 % 18446744073709551616) d (by omega) (by omega)
        by_cases ov : 10 * N + d ≤ most true
        · have NX := Lib.hid (show prs s.data.toList = pgo true 1 (s.data.toList.drop (k + 1)) (k + 1) (10 * N + d) from by
            rw [H.out, D'.out, hD.out]
            refine pgo_go (decide_eq_false ?_)
            have q1 := hD.out
            have q2 := NB.out
            rintro (h | h | h | ⟨h, h2, h3⟩ | h)
            · omega
            · omega
            · exact q2 h
            · subst h2; exact b4.out h3
            · omega)
          have ov' : 10 * (N : Int) + d ≤ (most true : Nat) := by omega
          have SM : Hid ((10 * N + d = 0 ↔ (s[1]'hlt).toNat = 48) ∧ 1 < k + 1) := by
            refine ⟨?_, by omega⟩
            rcases c3 with c3 | ⟨c3, c4⟩
            · have := HK.out c3
              have := hD.out
              subst c3
              omega
            · have h1 := HZ.out c3
              have h2 := NB.out
              have h4 : (s[1]'hlt).toNat ≠ 48 := by simp at c4; omega
              omega
          unfold most at ov' hm
          simp only [if_true] at ov' hm
          have c5 : k = 1 ∨ (1 < k ∧ (((s[1]'hlt).toNat : Int) == 48) = false) := c3
          clear c3
          rcases c5 with c3 | ⟨c3, c4⟩
          all_goals
            try subst c3
            go_wp2_with (go_at_call 107; refine (mul64_any _ 10 (by omega) (by omega) _).mono ?_; rintro e w' ⟨rfl, rfl⟩)
            all_goals first | (exfalso; omega) | skip
            go_round
            case rel => exact ⟨10 * N + d, _, by omega, by omega, num_u64 (by omega), by go_num, by omega, by omega, fun _ => SM.out.1, NX.out⟩
            case measure => simp [intOf]; omega
        · have R := Lib.hid (show prs s.data.toList = (0, 10, (k : Int)) from by
            rw [H.out, D'.out]
            refine pgo_bad (decide_eq_true ?_)
            have q1 := hD.out
            omega)
          have ov' : ((most true : Nat) : Int) < 10 * (N : Int) + d := by omega
          unfold most at ov' hm
          simp only [if_true] at ov' hm
          rcases c3 with c3 | ⟨c3, c4⟩
          all_goals
            try subst c3
            go_wp2_with (go_at_call 107; refine (mul64_any _ 10 (by omega) (by omega) _).mono ?_; rintro e w' ⟨rfl, rfl⟩)
            all_goals first | (exfalso; omega) | (go_ret3; rw [R.out]; exact ⟨rfl, rfl⟩)
    · obtain rfl : k = s.size := by omega
      have R := Lib.hid (show prs s.data.toList = (okV true N, 0, 0) from by
        rw [H.out, drop_end s _ (Nat.le_refl _)]
        unfold pgo
        rw [if_neg (by omega)])
      unfold most at hm
      simp only [if_true] at hm
      go_wp2
      go_ret3
      rw [R.out]
      exact ⟨ret_int3 (by show _ = -(N : Int); first | rfl | (simp only [wrap64, IntKind.wrap_u64]; omega)) rfl rfl, rfl⟩

end Go.Proofs.YtffhoknkfohfgaaGreatDoor.ws

namespace Go.Proofs.YtffhoknkfohfgaaGreatDoor.ws
open Go Go.RowKit Go.Lib

/-- what stands in the block after j digits -/
def prRow (l : List UInt8) : Array Value := (List.replicate (20 - l.length) (Value.int .u8 0) ++ l.map fun c => Value.int .u8 c.toNat).toArray

theorem prRow_eq (l : List UInt8) : (prRow l).toList = List.replicate (20 - l.length) (Value.int .u8 0) ++ l.map fun c => Value.int .u8 c.toNat := rfl
theorem prRow_get (l : List UInt8) (p : Nat) (hp : 1 ≤ p) (hl : p + l.length = 20) : (prRow l)[p - 1]? = some (.int .u8 0) := by
  unfold prRow
  have h : 20 - l.length = (p - 1) + 1 := by omega
  rw [List.getElem?_toArray, List.getElem?_append_left (by simp; omega), h, List.getElem?_replicate, if_pos (by omega)]
theorem prRow_set (l : List UInt8) (c : UInt8) (p : Nat) (hp : 1 ≤ p) (hl : p + l.length = 20) : (prRow l).setIfInBounds (p - 1) (.int .u8 c.toNat) = prRow (c :: l) := by
  unfold prRow
  have h : 20 - l.length = (p - 1) + 1 := by omega
  have h' : 20 - (c :: l).length = p - 1 := by simp; omega
  rw [h, h', List.setIfInBounds_toArray, List.replicate_succ', List.append_assoc]
  congr 1
  rw [List.set_append_right _ _ (by simp)]
  simp
theorem prRow_at (l : List UInt8) (p i : Nat) (hl : p + l.length = 20) (hi : i < l.length) : (prRow l)[p + i]? = some (.int .u8 (l[i]'hi).toNat) := by
  unfold prRow
  rw [List.getElem?_toArray, List.getElem?_append_right (by simp; omega)]
  simp [show p + i - (20 - l.length) = i by omega, hi]
theorem slice_end (B p : Nat) (hp : 1 ≤ p) (hp2 : p ≤ 20) (W : World) :
    (Instr.sliceAt 112 (.pointer (some ⟨B, 0, none⟩)) (some (.int .i64 ((p : Int) - 1))) none none).run Tryz.prog W = .ok (.slice (some ⟨B, p - 1, none⟩) (21 - p) (21 - p)) W := by
  have hal : Tryz.prog.arrayLen 112 = 20 := by kernel_rfl
  have hu : Tryz.prog.underlying 112 = some (.array (Tryz.prog.arrayLen 112) (Tryz.prog.elem 112)) := by kernel_rfl
  have hz : ∀ W, (sizeOf (Tryz.prog.elem 112)).run Tryz.prog W = .ok 1 W := fun W => by kernel_rfl
  rw [run_sliceAt_array_l W _ _ hu .i64 _ (by omega) (by rw [hal]; omega), hz]
  simp only [Result.andThen, slicedAt, hal]
  have e : ((p : Int) - 1).toNat = p - 1 := by omega
  rw [e, if_neg (by omega)]
  have e2 : (⟨B, 0, none⟩ : Addr).add ((p - 1) * 1) = ⟨B, p - 1, none⟩ := by
    unfold Addr.add
    by_cases h : (p - 1) * 1 = 0
    · rw [if_pos h, show p - 1 = 0 by omega]
    · rw [if_neg h]; simp
  rw [e2, show 20 - (p - 1) = 21 - p by omega]
theorem conv_end (l : List UInt8) (p n : Nat) (w : World) (hl : p + l.length = 20) (hn : l.length = n) :
    (convert 42 9 (.slice (some ⟨w.heap.size, p, none⟩) n n)).run Tryz.prog (w.alloc (.cells (prRow l) 112)) = .ok (.string ⟨l.toArray⟩) (w.alloc (.cells (prRow l) 112)) := by
  subst hn
  refine run_convert_bytes_back _ _ _ 5 _ _ l Tryz.underlying42 Tryz.underlying5 Tryz.underlying9 fun j hj => ?_
  have e : (⟨w.heap.size, p, none⟩ : Addr).add j = ⟨w.heap.size, p + j, none⟩ := by
    unfold Addr.add; split <;> simp_all
  rw [e, World.cell?_alloc_at _ _ _ _ rfl, prRow_at l p j hl hj]
theorem dig_toNat (n : Nat) : (dch (n % 10)).toNat = 48 + n % 10 := dch_toNat (by omega)

theorem pow_bound {n j : Nat} (h : n * 10 ^ j ≤ 9223372036854775808) (hn : 0 < n) : j ≤ 18 := by
  apply Decidable.byContradiction
  intro hj
  have h1 : 10 ^ 19 ≤ 10 ^ j := Nat.pow_le_pow_right (by decide) (by omega)
  have h2 : 1 * 10 ^ j ≤ n * 10 ^ j := Nat.mul_le_mul_right _ hn
  have h3 : (10 : Nat) ^ 19 = 10000000000000000000 := by decide
  omega
theorem pow_step {n j N : Nat} (h : n * 10 ^ j ≤ N) : n / 10 * 10 ^ (j + 1) ≤ N := by
  have h1 : n / 10 * 10 ≤ n := Nat.div_mul_le_self n 10
  have h2 := Nat.mul_le_mul_right (10 ^ j) h1
  have h3 : n / 10 * 10 ^ (j + 1) = n / 10 * 10 * 10 ^ j := by rw [Nat.pow_succ, Nat.mul_assoc, Nat.mul_comm 10]
  omega

def rowOf (p : Nat) (d : Int) (l : List UInt8) : Array Value := (prRow l).setIfInBounds (p - 1) (.int .u8 d)
theorem rowOf_eq (p m : Nat) (l : List UInt8) (hp : 1 ≤ p) (hl : p + l.length = 20) : (prRow l).setIfInBounds (p - 1) (.int .u8 (48 + (m : Int) % 10)) = prRow (dch (m % 10) :: l) := by
  rw [← prRow_set l _ p hp hl, dig_toNat]
  rfl
theorem minus_eq (p : Nat) (l : List UInt8) (hp : 1 ≤ p) (hl : p + l.length = 20) : (prRow l).setIfInBounds (p - 1) (.int .u8 45) = prRow (45 :: l) := prRow_set l 45 p hp hl

set_option maxRecDepth 100000 in
set_option maxHeartbeats 1000000 in
theorem print_pos (N : Nat) (w : World) (hN : N ≤ 9223372036854775807) :
    Calls Tryz.prog 40 #[.int .i64 N] w fun e w' => e = .returned (.string ⟨(prn N).toArray⟩) ∧ Below w.heap.size w w' := by
  have R : Hid (prn N = dig N) := by
    show prn N = dig N
    unfold prn; rw [if_neg (by omega)]; rfl
  go_enter Tryz.func40, Tryz.ntmps40
  go_wp2
  go_loopw [4, 5] (fun a n wr => ∃ (l : List UInt8) (p m : Nat), p + l.length = 20 ∧ 1 ≤ p ∧ a = .int .i64 p ∧ n = .int .u64 m ∧ m ≤ N ∧ Hid ((0 < l.length → 0 < m) ∧ m * 10 ^ l.length ≤ N ∧ dig N = dig m ++ l) ∧ wr = w.alloc (.cells (prRow l) 112)) (fun a _ _ => (intOf a).toNat)
  case atStart => exact ⟨[], 20, N, rfl, by omega, rfl, rfl, by omega, ⟨fun h => absurd h (by decide), by simp, by simp⟩, rfl⟩
  case round =>
    obtain ⟨l, p, m, hp, hp1, rfl, rfl, hmN, H, rfl⟩ := hrel
    have hg := prRow_get l p hp1 hp
    have hsl := slice_end w.heap.size p hp1 (by omega)
    have hrow := rowOf_eq p m l hp1 hp
    by_cases h9 : m < 10
    · have hz : (((m : Int) / 10) == 0) = true := by simp; omega
      have hcv := conv_end (dch (m % 10) :: l) (p - 1) (21 - p) w (by simp; omega) (by simp; omega)
      go_wp2
      go_ret
      refine ⟨ret_str ?_, (Below.refl _ _).alloc (Nat.le_refl _) _⟩
      rw [R.out, H.out.2.2, dig_small h9, show m % 10 = m by omega]
      rfl
    · have hz : (((m : Int) / 10) == 0) = false := by simp; omega
      go_wp2
      have hl18 : l.length + 1 ≤ 18 := pow_bound (n := m / 10) (by have := pow_step H.out.2.1; omega) (by omega)
      go_roundw
      case rel =>
        exact ⟨dch (m % 10) :: l, p - 1, m / 10, by simp; omega, by omega, by go_num, by go_num, by omega, ⟨fun _ => by omega, pow_step H.out.2.1, by rw [H.out.2.2, dig_big h9, List.append_assoc]; rfl⟩, rfl⟩
      case measure => simp [intOf]; omega

set_option maxRecDepth 100000 in
set_option maxHeartbeats 1000000 in
theorem print_neg (N : Nat) (w : World) (hN : N ≤ 9223372036854775808) (h0 : 0 < N) :
    Calls Tryz.prog 40 #[.int .i64 (-(N : Int))] w fun e w' => e = .returned (.string ⟨(prn (-(N : Int))).toArray⟩) ∧ Below w.heap.size w w' := by
  have R : Hid (prn (-(N : Int)) = 45 :: dig N) := by
    show prn _ = _
    unfold prn; rw [if_pos (by omega), Int.neg_neg]; rfl
  have hlt : -(N : Int) < 0 := by omega
  have hw : IntKind.u64.wrap (-(IntKind.u64.wrap (-(N : Int)))) = N := by rw [IntKind.wrap_u64, IntKind.wrap_u64]; omega
  go_enter Tryz.func40, Tryz.ntmps40
  go_wp2
  go_loopw [4, 5] (fun a n wr => ∃ (l : List UInt8) (p m : Nat), p + l.length = 20 ∧ 2 ≤ p ∧ a = .int .i64 p ∧ n = .int .u64 m ∧ m ≤ N ∧ Hid ((0 < l.length → 0 < m) ∧ m * 10 ^ l.length ≤ N ∧ dig N = dig m ++ l) ∧ wr = w.alloc (.cells (prRow l) 112)) (fun a _ _ => (intOf a).toNat)
  case atStart => exact ⟨[], 20, N, rfl, by omega, rfl, rfl, by omega, ⟨fun h => absurd h (by decide), by simp, by simp⟩, rfl⟩
  case round =>
    obtain ⟨l, p, m, hp, hp1, rfl, rfl, hmN, H, rfl⟩ := hrel
    have hg := prRow_get l p (by omega) hp
    have hrow := rowOf_eq p m l (by omega) hp
    by_cases h9 : m < 10
    · have hz : (((m : Int) / 10) == 0) = true := by simp; omega
      have hp' : p - 1 + (dch (m % 10) :: l).length = 20 := by simp; omega
      have hg' := prRow_get (dch (m % 10) :: l) (p - 1) (by omega) hp'
      have hmin := minus_eq (p - 1) (dch (m % 10) :: l) (by omega) hp'
      have hsl := slice_end w.heap.size (p - 1) (by omega) (by omega)
      have hcv := conv_end (45 :: dch (m % 10) :: l) (p - 1 - 1) (21 - (p - 1)) w (by simp; omega) (by simp; omega)
      have e : ((p - 1 : Nat) : Int) = (p : Int) - 1 := by omega
      rw [e] at hsl
      clear e hp'
      go_wp2
      go_ret
      refine ⟨ret_str ?_, (Below.refl _ _).alloc (Nat.le_refl _) _⟩
      rw [R.out, H.out.2.2, dig_small h9, show m % 10 = m by omega]
      rfl
    · have hz : (((m : Int) / 10) == 0) = false := by simp; omega
      go_wp2
      have hl18 : l.length + 1 ≤ 18 := pow_bound (n := m / 10) (by have := pow_step H.out.2.1; omega) (by omega)
      go_roundw
      case rel =>
        exact ⟨dch (m % 10) :: l, p - 1, m / 10, by simp; omega, by omega, by go_num, by go_num, by omega, ⟨fun _ => by omega, pow_step H.out.2.1, by rw [H.out.2.2, dig_big h9, List.append_assoc]; rfl⟩, rfl⟩
      case measure => simp [intOf]; omega

theorem print_any (v : Int) (w : World) (h1 : -9223372036854775808 ≤ v) (h2 : v ≤ 9223372036854775807) :
    Calls Tryz.prog 40 #[.int .i64 v] w fun e w' => e = .returned (.string ⟨(prn v).toArray⟩) ∧ Below w.heap.size w w' := by
  by_cases h : 0 ≤ v
  · obtain ⟨N, rfl⟩ := Int.eq_ofNat_of_zero_le h
    exact print_pos N w (by omega)
  · obtain ⟨N, hN⟩ := Int.eq_ofNat_of_zero_le (a := -v) (by omega)
    obtain rfl : v = -(N : Int) := by omega
    exact print_neg N w (by omega) (by omega)
end Go.Proofs.YtffhoknkfohfgaaGreatDoor.ws

namespace Go.Proofs.YtffhoknkfohfgaaGreatDoor.ws
open Go Go.RowKit Go.Lib

theorem parse_none (s : ByteArray) (w : World) (h : s.size = 0) :
    Calls Tryz.prog 88 #[.string s] w fun e w' => e = .returned (.tuple #[.int .i64 (prs s.data.toList).1, .int .i64 (prs s.data.toList).2.1, .int .i64 (prs s.data.toList).2.2]) ∧ w = w' := by
  have R := Lib.hid (prs_none h)
  have h1 := is_empty h
  have h2 : ((0 : Int) == s.size) = true := by rw [h]; rfl
  have h3 : s.toList.isEmpty = true := by rw [h1]; rfl
  clear h h1
  go_enter Tryz.func88, Tryz.ntmps88
  go_wp2
  go_ret3
  rw [R.out]
  exact ⟨rfl, rfl⟩
theorem parse_any (s : ByteArray) (w : World) (hs : s.size ≤ 9223372036854775807) :
    Calls Tryz.prog 88 #[.string s] w fun e w' => e = .returned (.tuple #[.int .i64 (prs s.data.toList).1, .int .i64 (prs s.data.toList).2.1, .int .i64 (prs s.data.toList).2.2]) ∧ w = w' := by
  by_cases h : s.size = 0
  · exact parse_none s w h
  · by_cases h0 : (s[0]'(by omega)).toNat = 45
    · exact parse_neg s w hs (by omega) h0
    · exact parse_pos s w hs (by omega) h0
end Go.Proofs.YtffhoknkfohfgaaGreatDoor.ws

namespace Go.Proofs.YtffhoknkfohfgaaGreatDoor.am
open Go Go.Proofs
structure Rd where
  l : List UInt8
  bad : Bool
abbrev bytT (l : List UInt8) : Tr := .lst 1 1 (brows l)
abbrev Rd.blk (r : Rd) : Blk := .cells 84 [.tr (bytT r.l), .tr (tb r.bad)]
theorem k_fail (r : Rd) : K 81 [.ptr 0 0] [r.blk] (.ret (.tr (tq 0))) [some (Rd.blk ⟨r.l, true⟩)] := by
  refine Ctr.of hT hmix Tryz.func81 rfl (fun _ _ => by kernel_rfl) rfl fun hok => ?_
  clear hok
  obtain ⟨l, bad⟩ := r
  conv => whnf
  exact aut
def orI (a b : Int) : Int := IntKind.u64.wrap (BitVec.ofInt IntKind.u64.bits a ||| BitVec.ofInt IntKind.u64.bits b).toNat
def shlD (c : UInt8) (k : Nat) : Int := IntKind.u64.wrap (IntKind.u64.wrap (band (c.toNat : Int) 127) * 2 ^ (min (IntKind.i64.wrap (7 * (k : Int))).toNat IntKind.u64.bits))
def numG (l0 : List UInt8) : Nat → Nat → Int → List UInt8 → Int × Rd
  | 0, _, _, _ => (0, ⟨l0, true⟩)
  | _ + 1, _, _, [] => (0, ⟨l0, true⟩)
  | f + 1, k, n, c :: l =>
    bif (((k : Int) == 9) && decide ((c.toNat : Int) > 1)) || (decide ((k : Int) > 0) && ((c.toNat : Int) == 0)) then (0, ⟨l0, true⟩)
    else bif decide ((c.toNat : Int) < 128) then (orI n (shlD c k), ⟨l, false⟩) else numG l0 f (k + 1) (orI n (shlD c k)) l
def numR (r : Rd) : Int × Rd := bif r.bad then (0, ⟨r.l, true⟩) else numG r.l 10 0 0 r.l
theorem numG_at {l0 l : List UInt8} {k : Nat} {n : Int} {c : UInt8} (h : l[k]? = some c) (hk : k < 10) : numG l0 (10 - k) k n (l.drop k) =
    bif (((k : Int) == 9) && decide ((c.toNat : Int) > 1)) || (decide ((k : Int) > 0) && ((c.toNat : Int) == 0)) then (0, ⟨l0, true⟩)
    else bif decide ((c.toNat : Int) < 128) then (orI n (shlD c k), ⟨l.drop (k + 1), false⟩) else numG l0 (10 - (k + 1)) (k + 1) (orI n (shlD c k)) (l.drop (k + 1)) := by
  rw [drop_cons h, show 10 - k = (10 - (k + 1)) + 1 by omega]; rfl
theorem numG_end {l0 l : List UInt8} {k : Nat} {n : Int} (h : l.length ≤ k ∨ 10 ≤ k) : numG l0 (10 - k) k n (l.drop k) = (0, ⟨l0, true⟩) := by
  rcases h with h | h
  · rw [List.drop_eq_nil_of_le h]
    cases 10 - k <;> rfl
  · rw [show 10 - k = 0 by omega]; rfl
theorem brow_get {l : List UInt8} {k : Nat} {row : List Tr} (h : (brows l)[k]? = some row) : ∃ c, l[k]? = some c ∧ row = [.v (.int .u8 (c.toNat : Int))] := by
  obtain ⟨c, h1, h2⟩ := map_get (f := fun b : UInt8 => [Tr.v (.int .u8 b.toNat)]) h
  exact ⟨c, h1, h2.symm⟩
theorem brows_drop (l : List UInt8) (k : Nat) : (brows l).drop k = brows (l.drop k) := by simp [brows, List.map_drop]
theorem brows_take (l : List UInt8) (k : Nat) : (brows l).take k = brows (l.take k) := by simp [brows, List.map_take]
set_option maxRecDepth 100000 in
theorem k_numberR (r : Rd) : K 80 [.ptr 0 0] [r.blk] (.ret (.tr (tq (numR r).1))) [some (numR r).2.blk] := by
  obtain ⟨l, bad⟩ := r
  cases bad
  · have hS : numR ⟨l, false⟩ = numG l 10 0 0 l := rfl
    generalize hR : numR ⟨l, false⟩ = R at hS ⊢
    clear hR
    refine Ctr.of hT hmix Tryz.func80 rfl (fun _ _ => by kernel_rfl) rfl fun hok => ?_
    have hll := (hok.cells 0 rfl _ (.head _)).tr.lst.2.1
    rw [brows_len] at hll
    replace hll : l.length ≤ 9223372036854775807 := hll
    clear hok
    conv => whnf
    refine LoopL.by (fun x : Nat × Int => ⟨[(0, .ptr 0 0), (3, .tr (tq x.2)), (4, .tr (ti x.1))], [(0, Rd.blk ⟨l, false⟩)], 10⟩) (fun x => R = numG l (10 - x.1) x.1 x.2 (l.drop x.1) ∧ x.1 ≤ 10) (fun x => 10 - x.1) (0, 0) [0] []
      (Sub.au) ⟨hS, by decide⟩ ?_
    clear hS
    rintro ⟨k, n⟩ ⟨hf, hk10⟩ -
    simp only at hf hk10
    conv => whnf
    refine csplit (fun h1 => ?_) (fun h1 => ?_)
    · have hlt : k < l.length := by have := of_decide_eq_true h1; rw [brows_len] at this; replace this : (k : Int) < l.length := this; omega
      clear h1
      conv => whnf
      refine csplit (fun h2 => ?_) (fun h2 => ?_)
      · have hk : k < 10 := by have := of_decide_eq_true h2; omega
        have hk1 : IntKind.i64.wrap ((k : Int) + 1) = ((k + 1 : Nat) : Int) := by rw [w64 (by omega) (by omega)]; omega
        clear h2
        conv => whnf
        refine ⟨rfl, by omega, by rw [brows_len]; show (k : Int) < l.length; omega, fun row hrow => ?_⟩
        obtain ⟨c, hc, rfl⟩ := brow_get hrow
        replace hc : l[k]? = some c := hc
        rw [numG_at hc hk] at hf
        generalize hO : orI n (shlD c k) = O at hf
        conv => whnf
        have bad : ((((k : Int) == 9) && decide ((c.toNat : Int) > 1)) || (decide ((k : Int) > 0) && ((c.toNat : Int) == 0))) = true → R = (0, ⟨l, true⟩) := fun h => by rw [hf, h]; rfl
        have good : ((((k : Int) == 9) && decide ((c.toNat : Int) > 1)) || (decide ((k : Int) > 0) && ((c.toNat : Int) == 0))) = false → R = bif decide ((c.toNat : Int) < 128) then (O, ⟨l.drop (k + 1), false⟩) else numG l (10 - (k + 1)) (k + 1) O (l.drop (k + 1)) := fun h => by rw [hf, h]; rfl
        clear hf
        have hdrop : List.drop (IntKind.i64.wrap ((k : Int) + 1)).toNat (List.take ((brows l).length : Int).toNat (brows l)) = brows (l.drop (k + 1)) := by
          rw [hk1, Int.toNat_natCast, Int.toNat_natCast, List.take_of_length_le (Nat.le_refl _), brows_drop]
        refine csplit (fun a1 => ?_) (fun a1 => ?_)
        · conv => whnf
          refine csplit (fun a2 => ?_) (fun a2 => ?_)
          · conv => whnf
            rw [bad (by simp only [a1, a2, Bool.true_and, Bool.and_true, Bool.or_true, Bool.true_or, Bool.and_self])]
            conv => whnf
            refine acall.au [0] [] (k_fail ⟨l, false⟩) ?_
            intro _
            conv => whnf
            exact aut
          · conv => whnf
            refine csplit (fun a3 => ?_) (fun a3 => ?_)
            · conv => whnf
              refine csplit (fun a4 => ?_) (fun a4 => ?_)
              · conv => whnf
                rw [bad (by simp only [a1, a2, a3, a4, Bool.true_and, Bool.and_true, Bool.or_true, Bool.true_or, Bool.and_self])]
                conv => whnf
                refine acall.au [0] [] (k_fail ⟨l, false⟩) ?_
                intro _
                conv => whnf
                exact aut
              · conv => whnf
                replace good := good (by simp only [a1, a2, a3, a4, Bool.false_and, Bool.and_false, Bool.or_false, Bool.false_or])
                refine ⟨(show (0 : Int) ≤ IntKind.i64.wrap (7 * (k : Int)) by rw [w64 (by omega) (by omega)]; omega), ?_⟩
                conv => whnf
                refine csplit (fun h3 => ?_) (fun h3 => ?_)
                · rw [h3] at good
                  replace good : R = (O, ⟨l.drop (k + 1), false⟩) := good
                  conv => whnf
                  refine ⟨rfl, (show (0 : Int) ≤ IntKind.i64.wrap ((k : Int) + 1) by rw [hk1]; omega), (show IntKind.i64.wrap ((k : Int) + 1) ≤ ((brows l).length : Int) by rw [hk1, brows_len]; omega), Int.le_refl _, ?_⟩
                  conv => whnf
                  rw [good]
                  exact ⟨.inl (congrArg tq hO), ⟨rfl, .inl (congrArg (Tr.lst 1 1) hdrop), .inl rfl, trivial⟩, trivial⟩
                · rw [h3] at good
                  conv => whnf
                  exact ⟨(k + 1, O), [0], [], Sub.mk' rfl ⟨⟨rfl, rfl⟩, .inl (congrArg tq hO), .inl (congrArg ti hk1), trivial⟩ aut rfl rfl, ⟨good, by omega⟩, by simp only; omega⟩
            · conv => whnf
              replace good := good (by simp only [a1, a2, a3, Bool.false_and, Bool.and_false, Bool.or_false, Bool.false_or])
              refine ⟨(show (0 : Int) ≤ IntKind.i64.wrap (7 * (k : Int)) by rw [w64 (by omega) (by omega)]; omega), ?_⟩
              conv => whnf
              refine csplit (fun h3 => ?_) (fun h3 => ?_)
              · rw [h3] at good
                replace good : R = (O, ⟨l.drop (k + 1), false⟩) := good
                conv => whnf
                refine ⟨rfl, (show (0 : Int) ≤ IntKind.i64.wrap ((k : Int) + 1) by rw [hk1]; omega), (show IntKind.i64.wrap ((k : Int) + 1) ≤ ((brows l).length : Int) by rw [hk1, brows_len]; omega), Int.le_refl _, ?_⟩
                conv => whnf
                rw [good]
                exact ⟨.inl (congrArg tq hO), ⟨rfl, .inl (congrArg (Tr.lst 1 1) hdrop), .inl rfl, trivial⟩, trivial⟩
              · rw [h3] at good
                conv => whnf
                exact ⟨(k + 1, O), [0], [], Sub.mk' rfl ⟨⟨rfl, rfl⟩, .inl (congrArg tq hO), .inl (congrArg ti hk1), trivial⟩ aut rfl rfl, ⟨good, by omega⟩, by simp only; omega⟩
        · conv => whnf
          refine csplit (fun a3 => ?_) (fun a3 => ?_)
          · conv => whnf
            refine csplit (fun a4 => ?_) (fun a4 => ?_)
            · conv => whnf
              rw [bad (by simp only [a1, a3, a4, Bool.true_and, Bool.and_true, Bool.or_true, Bool.true_or, Bool.and_self])]
              conv => whnf
              refine acall.au [0] [] (k_fail ⟨l, false⟩) ?_
              intro _
              conv => whnf
              exact aut
            · conv => whnf
              replace good := good (by simp only [a1, a3, a4, Bool.false_and, Bool.and_false, Bool.or_false, Bool.false_or])
              refine ⟨(show (0 : Int) ≤ IntKind.i64.wrap (7 * (k : Int)) by rw [w64 (by omega) (by omega)]; omega), ?_⟩
              conv => whnf
              refine csplit (fun h3 => ?_) (fun h3 => ?_)
              · rw [h3] at good
                replace good : R = (O, ⟨l.drop (k + 1), false⟩) := good
                conv => whnf
                refine ⟨rfl, (show (0 : Int) ≤ IntKind.i64.wrap ((k : Int) + 1) by rw [hk1]; omega), (show IntKind.i64.wrap ((k : Int) + 1) ≤ ((brows l).length : Int) by rw [hk1, brows_len]; omega), Int.le_refl _, ?_⟩
                conv => whnf
                rw [good]
                exact ⟨.inl (congrArg tq hO), ⟨rfl, .inl (congrArg (Tr.lst 1 1) hdrop), .inl rfl, trivial⟩, trivial⟩
              · rw [h3] at good
                conv => whnf
                exact ⟨(k + 1, O), [0], [], Sub.mk' rfl ⟨⟨rfl, rfl⟩, .inl (congrArg tq hO), .inl (congrArg ti hk1), trivial⟩ aut rfl rfl, ⟨good, by omega⟩, by simp only; omega⟩
          · conv => whnf
            replace good := good (by simp only [a1, a3, Bool.false_and, Bool.and_false, Bool.or_false, Bool.false_or])
            refine ⟨(show (0 : Int) ≤ IntKind.i64.wrap (7 * (k : Int)) by rw [w64 (by omega) (by omega)]; omega), ?_⟩
            conv => whnf
            refine csplit (fun h3 => ?_) (fun h3 => ?_)
            · rw [h3] at good
              replace good : R = (O, ⟨l.drop (k + 1), false⟩) := good
              conv => whnf
              refine ⟨rfl, (show (0 : Int) ≤ IntKind.i64.wrap ((k : Int) + 1) by rw [hk1]; omega), (show IntKind.i64.wrap ((k : Int) + 1) ≤ ((brows l).length : Int) by rw [hk1, brows_len]; omega), Int.le_refl _, ?_⟩
              conv => whnf
              rw [good]
              exact ⟨.inl (congrArg tq hO), ⟨rfl, .inl (congrArg (Tr.lst 1 1) hdrop), .inl rfl, trivial⟩, trivial⟩
            · rw [h3] at good
              conv => whnf
              exact ⟨(k + 1, O), [0], [], Sub.mk' rfl ⟨⟨rfl, rfl⟩, .inl (congrArg tq hO), .inl (congrArg ti hk1), trivial⟩ aut rfl rfl, ⟨good, by omega⟩, by simp only; omega⟩
      · have hk : 10 ≤ k := by have := of_decide_eq_false h2; omega
        rw [numG_end (.inr hk)] at hf
        rw [hf]
        conv => whnf
        refine ⟨fun _ => ?_, fun h => absurd rfl h⟩
        conv => whnf
        refine acall.au [0] [] (k_fail ⟨l, false⟩) ?_
        intro _
        conv => whnf
        exact aut
    · have hge : l.length ≤ k := by have := of_decide_eq_false h1; rw [brows_len] at this; replace this : ¬ (k : Int) < l.length := this; omega
      rw [numG_end (.inl hge)] at hf
      rw [hf]
      conv => whnf
      refine ⟨fun _ => ?_, fun h => absurd rfl h⟩
      conv => whnf
      refine acall.au [0] [] (k_fail ⟨l, false⟩) ?_
      intro _
      conv => whnf
      exact aut
  · have hS : numR ⟨l, true⟩ = (0, ⟨l, true⟩) := rfl
    rw [hS]
    refine Ctr.of hT hmix Tryz.func80 rfl (fun _ _ => by kernel_rfl) rfl fun hok => ?_
    clear hok
    conv => whnf
    refine LoopL.by (fun _ : Unit => ⟨[(0, .ptr 0 0), (3, .tr (tq 0)), (4, .tr (ti 0))], [(0, Rd.blk ⟨l, true⟩)], 10⟩) (fun _ => True) (fun _ => 0) () [0] [] (Sub.au) trivial ?_
    rintro - - -
    conv => whnf
    refine csplit (fun h1 => ?_) (fun h1 => ?_)
    · conv => whnf
      refine ⟨fun _ => ?_, fun h => absurd rfl h⟩
      conv => whnf
      refine acall.au [0] [] (k_fail ⟨l, true⟩) ?_
      intro _
      conv => whnf
      exact aut
    · conv => whnf
      refine ⟨fun _ => ?_, fun h => absurd rfl h⟩
      conv => whnf
      refine acall.au [0] [] (k_fail ⟨l, true⟩) ?_
      intro _
      conv => whnf
      exact aut
theorem u64_zero : (0 : Int) ≤ 0 ∧ (0 : Int) < 18446744073709551616 := ⟨by decide, by decide⟩
theorem numG_rng (l0 : List UInt8) : ∀ (f k : Nat) (n : Int) (l : List UInt8), 0 ≤ n → n < 18446744073709551616 → 0 ≤ (numG l0 f k n l).1 ∧ (numG l0 f k n l).1 < 18446744073709551616
  | 0, _, _, _, _, _ => u64_zero
  | _ + 1, _, _, [], _, _ => u64_zero
  | f + 1, k, n, c :: l, h0, h1 => by
    unfold numG
    cases ((((k : Int) == 9) && decide ((c.toNat : Int) > 1)) || (decide ((k : Int) > 0) && ((c.toNat : Int) == 0)))
    · cases decide ((c.toNat : Int) < 128)
      · exact numG_rng l0 f (k + 1) _ l (u64_wrap _).1 (u64_wrap _).2
      · exact u64_wrap _
    · exact u64_zero
theorem numR_rng (r : Rd) : 0 ≤ (numR r).1 ∧ (numR r).1 < 18446744073709551616 := by
  unfold numR
  cases r.bad
  · exact numG_rng _ _ _ _ _ (by decide) (by decide)
  · exact u64_zero
def smallR (most : Int) (r : Rd) : Int × Rd := bif decide ((numR r).1 > most) then (0, ⟨(numR r).2.l, true⟩) else ((numR r).1, (numR r).2)
theorem smallR_rng {most : Int} (h : 0 ≤ most) (r : Rd) : 0 ≤ (smallR most r).1 ∧ (smallR most r).1 ≤ most := by
  unfold smallR
  have := numR_rng r
  cases hb : decide ((numR r).1 > most)
  · have := of_decide_eq_false hb; exact ⟨by simp only [cond_false]; omega, by simp only [cond_false]; omega⟩
  · exact ⟨Int.le_refl _, h⟩
theorem u64_id {z : Int} (h0 : 0 ≤ z) (h1 : z < 18446744073709551616) : IntKind.u64.wrap z = z := by
  simp only [IntKind.wrap, IntKind.signed, IntKind.bits, Bool.false_and, Bool.false_eq_true, if_false, Int.reducePow]
  omega
theorem k_smallR (r : Rd) (most : Int) (hm : 0 ≤ most ∧ most ≤ 9223372036854775807) : K 52 [.ptr 0 0, .tr (ti most)] [r.blk] (.ret (.tr (ti (smallR most r).1))) [some (smallR most r).2.blk] := by
  refine Ctr.of hT hmix Tryz.func52 rfl (fun _ _ => by kernel_rfl) rfl fun hok => ?_
  clear hok
  have hn := k_numberR r
  have hg := numR_rng r
  have hS : smallR most r = bif decide ((numR r).1 > most) then (0, ⟨(numR r).2.l, true⟩) else ((numR r).1, (numR r).2) := rfl
  generalize smallR most r = S at hS ⊢
  generalize numR r = N at hn hg hS
  obtain ⟨n, l1, b1⟩ := N
  simp only at hn hg hS
  obtain ⟨l, bad⟩ := r
  have hmw : IntKind.u64.wrap most = most := u64_id hm.1 (by omega)
  conv => whnf
  refine acall.au [0] [] (hn) ?_
  intro _
  conv => whnf
  refine csplit (fun h => ?_) (fun h => ?_)
  · replace h : decide (n > IntKind.u64.wrap most) = true := h
    rw [hmw] at h
    rw [h] at hS
    rw [hS]
    conv => whnf
    refine acall.au [0] [] (k_fail ⟨l1, b1⟩) ?_
    intro _
    conv => whnf
    exact aut
  · replace h : decide (n > IntKind.u64.wrap most) = false := h
    rw [hmw] at h
    rw [h] at hS
    rw [hS]
    have hw : IntKind.i64.wrap n = n := w64 (by omega) (by have := of_decide_eq_false h; omega)
    conv => whnf
    exact ⟨.inl (congrArg ti hw), aut⟩
def unzM (n : Int) : Int := IntKind.i64.wrap (BitVec.ofInt IntKind.i64.bits (IntKind.i64.wrap (n.fdiv (2 ^ (min (1 : Int).toNat IntKind.u64.bits)))) ^^^ BitVec.ofInt IntKind.i64.bits (IntKind.i64.wrap (0 - IntKind.i64.wrap (IntKind.u64.wrap (BitVec.ofInt IntKind.u64.bits n &&& BitVec.ofInt IntKind.u64.bits 1).toNat)))).toNat
def wordR (r : Rd) : Int × Rd := (unzM (numR r).1, (numR r).2)
theorem k_wordR (r : Rd) : K 53 [.ptr 0 0] [r.blk] (.ret (.tr (ti (wordR r).1))) [some (wordR r).2.blk] := by
  refine Ctr.of hT hmix Tryz.func53 rfl (fun _ _ => by kernel_rfl) rfl fun hok => ?_
  clear hok
  have hn := k_numberR r
  unfold wordR
  generalize numR r = N at hn ⊢
  obtain ⟨n, l1, b1⟩ := N
  obtain ⟨l, bad⟩ := r
  conv => whnf
  refine acall.au [0] [] (hn) ?_
  intro _
  conv => whnf
  refine ⟨by decide, ?_⟩
  conv => whnf
  exact aut
def nameR (r : Rd) : ByteArray × Rd := bif decide ((smallR 32 r).1 > ((smallR 32 r).2.l.length : Int)) then (⟨#[]⟩, ⟨(smallR 32 r).2.l, true⟩) else
  (⟨((smallR 32 r).2.l.take (smallR 32 r).1.toNat).toArray⟩, ⟨(smallR 32 r).2.l.drop (smallR 32 r).1.toNat, (smallR 32 r).2.bad⟩)
theorem k_nameR (r : Rd) : K 54 [.ptr 0 0] [r.blk] (.ret (.tr (ts (nameR r).1))) [some (nameR r).2.blk] := by
  refine Ctr.of hT hmix Tryz.func54 rfl (fun _ _ => by kernel_rfl) rfl fun hok => ?_
  clear hok
  have hn := k_smallR r 32 (by decide)
  have hg := smallR_rng (most := 32) (by decide) r
  have hS : nameR r = bif decide ((smallR 32 r).1 > ((smallR 32 r).2.l.length : Int)) then (⟨#[]⟩, ⟨(smallR 32 r).2.l, true⟩) else
    (⟨((smallR 32 r).2.l.take (smallR 32 r).1.toNat).toArray⟩, ⟨(smallR 32 r).2.l.drop (smallR 32 r).1.toNat, (smallR 32 r).2.bad⟩) := rfl
  generalize nameR r = S at hS ⊢
  generalize smallR 32 r = N at hn hg hS
  obtain ⟨n, l1, b1⟩ := N
  simp only at hn hg hS
  obtain ⟨l, bad⟩ := r
  have hlen := brows_len l1
  conv => whnf
  refine acall.au [0] [] (hn) ?_
  intro _
  conv => whnf
  refine csplit (fun h => ?_) (fun h => ?_)
  · replace h : decide (n > ((brows l1).length : Int)) = true := h
    rw [hlen] at h
    rw [h] at hS
    rw [hS]
    conv => whnf
    exact aut
  · replace h : decide (n > ((brows l1).length : Int)) = false := h
    rw [hlen] at h
    rw [h] at hS
    rw [hS]
    have hle : n ≤ l1.length := by have := of_decide_eq_false h; omega
    conv => whnf
    refine ⟨rfl, by decide, hg.1, (show n ≤ ((brows l1).length : Int) by rw [hlen]; exact hle), ?_⟩
    conv => whnf
    refine ⟨l1.take n.toNat, by rw [brows_take]; rfl, by rw [List.length_take]; omega, ?_⟩
    conv => whnf
    refine ⟨rfl, hg.1, (show n ≤ ((brows l1).length : Int) by rw [hlen]; exact hle), Int.le_refl _, ?_⟩
    conv => whnf
    refine ⟨.inl rfl, ⟨rfl, .inl (congrArg (Tr.lst 1 1) ?_), .inl rfl, trivial⟩, trivial⟩
    show List.drop n.toNat (List.take ((brows l1).length : Int).toNat (brows l1)) = _
    rw [Int.toNat_natCast, List.take_of_length_le (Nat.le_refl _), brows_drop]
    rfl
end Go.Proofs.YtffhoknkfohfgaaGreatDoor.am

namespace Go.Proofs.YtffhoknkfohfgaaGreatDoor.am
open Go Go.Proofs

def drainsS (k : Int) : Bool := k == 5 || k == 6 || k == 7
theorem k_drains (k : Int) : K 33 [.tr (tu k)] [] (.ret (.tr (tb (drainsS k)))) [] := by
  refine Ctr.of hT hmix Tryz.func33 rfl (fun _ _ => by kernel_rfl) rfl fun hok => ?_
  conv => whnf
  (repeat' (refine csplit (fun h => ?_) (fun h => ?_) <;> (try dsimp only at h) <;> conv => whnf)) <;> (repeat' (first | exact trivial | exact Or.inl rfl | exact rfl | (refine Or.inl (congrArg _ ?_); simp only [drainsS, *] <;> rfl) | apply And.intro))
end Go.Proofs.YtffhoknkfohfgaaGreatDoor.am

namespace Go.Proofs.YtffhoknkfohfgaaGreatDoor.ws
open Go Go.RowKit Go.Lib
set_option maxRecDepth 100000

theorem bcell {W w1 : World} (hb : Below W.heap.size W w1) : ∀ b o, b < W.heap.size → w1.cell? ⟨b, o, none⟩ = W.cell? ⟨b, o, none⟩ :=
  fun b o h => hb.cell (p := ⟨b, o, none⟩) h
theorem conv_one (B : Nat) (d : Nat) (hd : d < 10) (W : World) (hc : W.cell? ⟨B, 0, none⟩ = some (.int .u8 (48 + (d : Int)))) :
    (convert 42 9 (.slice (some ⟨B, 0, none⟩) 1 1)).run Tryz.prog W = .ok (.string ⟨[dch d].toArray⟩) W := by
  refine run_convert_bytes_back W 42 9 5 ⟨B, 0, none⟩ 1 [dch d] Tryz.underlying42 Tryz.underlying5 Tryz.underlying9 fun j hj => ?_
  obtain rfl : j = 0 := by simpa using hj
  show W.cell? ⟨B, 0, none⟩ = some (.int .u8 (dch d).toNat)
  rw [hc, dch_toNat hd]
  rfl

set_option maxHeartbeats 1000000 in
theorem digits_small (n : Nat) (w : World) (hn : n < 10) :
    Calls Tryz.prog 78 #[.int .u64 n] w fun e w' => e = .returned (.string ⟨(dig n).toArray⟩) ∧ Below w.heap.size w w' := by
  have hcv := conv_one w.heap.size n hn (w.alloc (.cells #[.int .u8 (48 + (n : Int))] 5)) (by rw [World.cell?_alloc_at _ _ _ _ rfl]; rfl)
  have D := Lib.hid (dig_small hn)
  go_enter Tryz.func78, Tryz.ntmps78
  go_wp2
  go_ret
  exact ⟨ret_str (by rw [D.out]), (Below.refl _ _).alloc (Nat.le_refl _) _⟩

set_option maxHeartbeats 1000000 in
theorem digits_big (n : Nat) (w : World) (hn : 10 ≤ n) (hb : n < 18446744073709551616)
    (ih : ∀ w, Calls Tryz.prog 78 #[.int .u64 ((n : Int) / 10)] w fun e w' => e = .returned (.string ⟨(dig (n / 10)).toArray⟩) ∧ Below w.heap.size w w') :
    Calls Tryz.prog 78 #[.int .u64 n] w fun e w' => e = .returned (.string ⟨(dig n).toArray⟩) ∧ Below w.heap.size w w' := by
  have IH := Lib.hid ih
  clear ih
  have hcv : ∀ (B : Nat) (W : World), W.cell? ⟨B, 0, none⟩ = some (.int .u8 (48 + (n : Int) % 10)) → (convert 42 9 (.slice (some ⟨B, 0, none⟩) 1 1)).run Tryz.prog W = .ok (.string ⟨[dch (n % 10)].toArray⟩) W :=
    fun B W h => conv_one B (n % 10) (by omega) W h
  have D := Lib.hid (dig_big (n := n) (by omega))
  have hlen := dig_len64 (n := n / 10) (by omega)
  have q1 : IntKind.u64.wrap ((n : Int) / 10) = (n : Int) / 10 := IntWalk.u64_in _ (by omega)
  have q2 : (n : Int).tmod 10 = (n : Int) % 10 := IntWalk.rem_in _ _ (by omega)
  have q3 : IntKind.u64.wrap (48 + (n : Int) % 10) = 48 + (n : Int) % 10 := IntWalk.u64_in _ (by omega)
  have q4 : IntKind.u8.wrap (48 + (n : Int) % 10) = 48 + (n : Int) % 10 := IntWalk.u8_in _ (by omega)
  go_enter Tryz.func78, Tryz.ntmps78
  go_wp2
  go_region_with (go_at_call 78; refine (IH.out _).mono ?_; rintro e w1 ⟨rfl, hb1⟩; have hc1 := bcell hb1)
  all_goals
    go_wp2
    go_ret
    refine ⟨ret_str (by rw [D.out]; apply ByteArray.ext; simp [ByteArray.data_append]), ?_⟩
    first
      | exact ((Below.refl w.heap.size w).drew.trans (hb1.mono (Nat.le_refl _))).alloc hb1.size _
      | exact ((Below.refl w.heap.size w).alloc (Nat.le_refl _) _).drew.trans (hb1.mono (by simp))

theorem digits_any : ∀ (k n : Nat) (w : World), n < 10 ^ (k + 1) → n < 18446744073709551616 →
    Calls Tryz.prog 78 #[.int .u64 n] w fun e w' => e = .returned (.string ⟨(dig n).toArray⟩) ∧ Below w.heap.size w w'
  | 0, n, w, h, _ => digits_small n w (by simpa using h)
  | k + 1, n, w, h, hb => by
    by_cases hn : n < 10
    · exact digits_small n w hn
    · exact digits_big n w (by omega) hb fun w => digits_any k (n / 10) w (by rw [Nat.pow_succ] at h; omega) (by omega)
theorem digits64 (n : Nat) (w : World) (hb : n < 18446744073709551616) :
    Calls Tryz.prog 78 #[.int .u64 n] w fun e w' => e = .returned (.string ⟨(dig n).toArray⟩) ∧ Below w.heap.size w w' :=
  digits_any 19 n w (Nat.lt_trans hb (by decide)) hb

set_option maxHeartbeats 1000000 in
theorem rprint_pos (N : Nat) (w : World) (hN : N ≤ 9223372036854775807) :
    Calls Tryz.prog 38 #[.int .i64 N] w fun e w' => e = .returned (.string ⟨(prn N).toArray⟩) ∧ Below w.heap.size w w' := by
  have R : Hid (prn N = dig N) := by
    show prn N = dig N
    unfold prn; rw [if_neg (by omega)]; rfl
  go_enter Tryz.func38, Tryz.ntmps38
  go_wp2_with (go_at_call 78; refine (digits64 _ _ (by omega)).mono ?_; rintro e w1 ⟨rfl, hb1⟩)
  go_ret
  exact ⟨ret_str (by rw [R.out]), hb1⟩

set_option maxHeartbeats 1000000 in
theorem rprint_neg (N : Nat) (w : World) (hN : N ≤ 9223372036854775808) (h0 : 0 < N) :
    Calls Tryz.prog 38 #[.int .i64 (-(N : Int))] w fun e w' => e = .returned (.string ⟨(prn (-(N : Int))).toArray⟩) ∧ Below w.heap.size w w' := by
  have R : Hid (prn (-(N : Int)) = 45 :: dig N) := by
    show prn _ = _
    unfold prn; rw [if_pos (by omega), Int.neg_neg]; rfl
  have hlt : -(N : Int) < 0 := by omega
  have hlen := dig_len64 (n := N) (by omega)
  have hw : IntKind.u64.wrap (-(IntKind.u64.wrap (-(N : Int)))) = N := by rw [IntKind.wrap_u64, IntKind.wrap_u64]; omega
  go_enter Tryz.func38, Tryz.ntmps38
  go_wp2_with (go_at_call 78; refine (digits64 N _ (by omega)).mono ?_; rintro e w1 ⟨rfl, hb1⟩)
  go_ret
  exact ⟨ret_str (by rw [R.out]; apply ByteArray.ext; simp [ByteArray.data_append]), hb1⟩

theorem rprint_any (v : Int) (w : World) (h1 : -9223372036854775808 ≤ v) (h2 : v ≤ 9223372036854775807) :
    Calls Tryz.prog 38 #[.int .i64 v] w fun e w' => e = .returned (.string ⟨(prn v).toArray⟩) ∧ Below w.heap.size w w' := by
  by_cases h : 0 ≤ v
  · obtain ⟨N, rfl⟩ := Int.eq_ofNat_of_zero_le h
    exact rprint_pos N w (by omega)
  · obtain ⟨N, hN⟩ := Int.eq_ofNat_of_zero_le (a := -v) (by omega)
    obtain rfl : v = -(N : Int) := by omega
    exact rprint_neg N w (by omega) (by omega)
end Go.Proofs.YtffhoknkfohfgaaGreatDoor.ws
