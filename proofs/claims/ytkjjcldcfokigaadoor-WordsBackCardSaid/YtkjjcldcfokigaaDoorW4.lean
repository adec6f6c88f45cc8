/- The table of signs: Show, Level, Find, of the package and of the reference. -/
import Derived.Test.YtkjjcldcfokigaaDoorW3
namespace Go.Proofs.YtkjjcldcfokigaaDoor.ws
open Go Go.RowKit

def sgL : List (List UInt8) := [[], [43], [45], [42], [47], [37], [38], [124], [94], [60, 60], [62, 62], [61, 61], [33, 61], [60], [60, 61], [62], [62, 61], [45], [33]]
def lvL : List Int := [0, 7, 7, 8, 8, 8, 3, 1, 2, 6, 6, 4, 4, 5, 5, 5, 5, 9, 9]
def sg (k : Nat) : ByteArray := ⟨(sgL.getD k []).toArray⟩
def lv (k : Nat) : Int := lvL.getD k 0

structure Tab (w : World) : Prop where
  sign : ∀ k, k < 19 → w.cell? ⟨0, k * 2, none⟩ = some (.string (sg k))
  level : ∀ k, k < 19 → w.cell? ⟨0, k * 2 + 1, none⟩ = some (.int .i64 (lv k))
theorem Tab.lt {w : World} (h : Tab w) : 0 < w.heap.size := block_lt_of_cell (h.sign 0 (by decide))
theorem Tab.below {w w' : World} (h : Tab w) (hb : Below w.heap.size w w') : Tab w' :=
  ⟨fun k hk => by rw [hb.cell (p := ⟨_, _, none⟩) h.lt]; exact h.sign k hk, fun k hk => by rw [hb.cell (p := ⟨_, _, none⟩) h.lt]; exact h.level k hk⟩

theorem known_lt {op : Nat} (h : known op = true) : op < 19 := by simp [known] at h; omega
theorem show_any (op : Nat) (w : World) (ht : Tab w) :
    Calls Tryd.prog 23 #[.int .u8 op] w fun e w' => e = .returned (.string (sg op)) ∧ w = w' := by
  cases h : known op
  · have H := Lib.hid h
    have e : sg op = ⟨#[]⟩ := by
      have : op = 0 ∨ 19 ≤ op := by simp [known] at h; omega
      rcases this with rfl | h2
      · rfl
      · unfold sg; rw [List.getD_eq_getElem?_getD, List.getElem?_eq_none (by exact h2)]; rfl
    have E := Lib.hid e
    clear e h ht
    go_enter Tryd.func23, Tryd.ntmps23
    go_wp2_with (go_at_call 34; refine (known_any _ _).mono ?_; rw [H.out]; rintro e w' ⟨rfl, rfl⟩)
    go_ret
    exact ⟨ret_str E.out.symm, rfl⟩
  · have H := Lib.hid h
    have hlt := known_lt h
    have hc := ht.sign op hlt
    clear h ht
    go_enter Tryd.func23, Tryd.ntmps23
    go_wp2_with (go_at_call 34; refine (known_any _ _).mono ?_; rw [H.out]; rintro e w' ⟨rfl, rfl⟩)
    go_ret
    exact ⟨rfl, rfl⟩
theorem level_any (op : Nat) (w : World) (ht : Tab w) :
    Calls Tryd.prog 28 #[.int .u8 op] w fun e w' => e = .returned (.int .i64 (lv op)) ∧ w = w' := by
  cases h : known op
  · have H := Lib.hid h
    have e : lv op = 0 := by
      have : op = 0 ∨ 19 ≤ op := by simp [known] at h; omega
      rcases this with rfl | h2
      · rfl
      · unfold lv; rw [List.getD_eq_getElem?_getD, List.getElem?_eq_none (by exact h2)]; rfl
    have E := Lib.hid e
    clear e h ht
    go_enter Tryd.func28, Tryd.ntmps28
    go_wp2_with (go_at_call 34; refine (known_any _ _).mono ?_; rw [H.out]; rintro e w' ⟨rfl, rfl⟩)
    go_ret
    exact ⟨ret_int E.out.symm, rfl⟩
  · have H := Lib.hid h
    have hlt := known_lt h
    have hc := ht.level op hlt
    clear h ht
    go_enter Tryd.func28, Tryd.ntmps28
    go_wp2_with (go_at_call 34; refine (known_any _ _).mono ?_; rw [H.out]; rintro e w' ⟨rfl, rfl⟩)
    go_ret
    exact ⟨rfl, rfl⟩

theorem sg_row (k : Nat) (h : k < (sgL.map fun s => Value.string ⟨s.toArray⟩).length) : (sgL.map fun s => Value.string ⟨s.toArray⟩)[k] = .string (sg k) := by
  rw [List.getElem_map]
  unfold sg
  rw [List.getD_eq_getElem?_getD, List.getElem?_eq_getElem (by simpa using h)]
  rfl
theorem lv_row (k : Nat) (h : k < (lvL.map fun z => Value.int .i64 z).length) : (lvL.map fun z => Value.int .i64 z)[k] = .int .i64 (lv k) := by
  rw [List.getElem_map]
  unfold lv
  rw [List.getD_eq_getElem?_getD, List.getElem?_eq_getElem (by simpa using h)]
  rfl
theorem sg_none {k : Nat} (h : 19 ≤ k) : sg k = ⟨#[]⟩ := by
  unfold sg; rw [List.getD_eq_getElem?_getD, List.getElem?_eq_none (by exact h)]; rfl
theorem lv_none {k : Nat} (h : 19 ≤ k) : lv k = 0 := by
  unfold lv; rw [List.getD_eq_getElem?_getD, List.getElem?_eq_none (by exact h)]; rfl
theorem rshow_any (op : Nat) (w : World) :
    Calls Tryd.prog 27 #[.int .u8 op] w fun e w' => e = .returned (.string (sg op)) ∧ Below w.heap.size w w' := by
  by_cases h : op < 19
  · have E := Lib.hid (sg_row op h)
    go_enter Tryd.func27, Tryd.ntmps27
    go_wp2
    go_ret
    exact ⟨congrArg Ending.returned E.out, (Below.refl _ _).alloc (Nat.le_refl _) _⟩
  · have h' : 19 ≤ op := by omega
    have E := Lib.hid (sg_none h')
    clear h
    go_enter Tryd.func27, Tryd.ntmps27
    go_wp2
    go_ret
    exact ⟨ret_str E.out.symm, Below.refl _ _⟩
theorem rlevel_any (op : Nat) (w : World) :
    Calls Tryd.prog 29 #[.int .u8 op] w fun e w' => e = .returned (.int .i64 (lv op)) ∧ Below w.heap.size w w' := by
  by_cases h : op < 19
  · have E := Lib.hid (lv_row op h)
    go_enter Tryd.func29, Tryd.ntmps29
    go_wp2
    go_ret
    exact ⟨congrArg Ending.returned E.out, (Below.refl _ _).alloc (Nat.le_refl _) _⟩
  · have h' : 19 ≤ op := by omega
    have E := Lib.hid (lv_none h')
    clear h
    go_enter Tryd.func29, Tryd.ntmps29
    go_wp2
    go_ret
    exact ⟨ret_int E.out.symm, Below.refl _ _⟩

/-- the first operator of two from k on, of n, with the sign s; 0 if there is none -/
def findFrom (s : ByteArray) : Nat → Nat → Nat
  | 0, _ => 0
  | n + 1, k => if isTwo k && (sg k).toList == s.toList then k else findFrom s n (k + 1)
def findN (s : ByteArray) : Nat := findFrom s 19 0
theorem findFrom_no {s : ByteArray} {n k : Nat} (h : (isTwo k && (sg k).toList == s.toList) = false) : findFrom s (n + 1) k = findFrom s n (k + 1) := by simp [findFrom, h]
theorem findFrom_yes {s : ByteArray} {n k : Nat} (h : (isTwo k && (sg k).toList == s.toList) = true) : findFrom s (n + 1) k = k := by simp [findFrom, h]

set_option maxHeartbeats 400000 in
theorem find_any (s : ByteArray) (w : World) (ht : Tab w) :
    Calls Tryd.prog 22 #[.string s] w fun e w' => e = .returned (.tuple #[.int .u8 (findN s), .bool (findN s != 0)]) ∧ w = w' := by
  have HT := Lib.hid ht
  clear ht
  go_enter Tryd.func22, Tryd.ntmps22
  go_wp2
  go_loop [5] (fun i => ∃ k : Nat, k ≤ 19 ∧ i = .int .u8 k ∧ Hid (findN s = findFrom s (19 - k) k)) (fun i => (19 - intOf i).toNat)
  case atStart => exact ⟨0, by omega, rfl, rfl⟩
  case round =>
    obtain ⟨k, hk, rfl, H⟩ := hrel
    by_cases hlt : k < 19
    · have hs := HT.out.sign k hlt
      cases h2 : isTwo k
      · have H2 := Lib.hid h2
        clear h2
        go_wp2_with (go_at_call 24; refine (two_any _ _).mono ?_; rw [H2.out]; rintro e w' ⟨rfl, rfl⟩)
        have hn : findFrom s (19 - k) k = findFrom s (19 - (k + 1)) (k + 1) := by
          rw [show 19 - k = (19 - (k + 1)) + 1 from by omega]
          exact findFrom_no (by simp [H2.out])
        go_round
        case rel => exact ⟨k + 1, by omega, by go_num, H.out.trans hn⟩
        case measure => simp [intOf]; omega
      · have H2 := Lib.hid h2
        clear h2
        go_wp2_with (go_at_call 24; refine (two_any _ _).mono ?_; rw [H2.out]; rintro e w' ⟨rfl, rfl⟩)
        · have hq : ((sg k).toList == s.toList) = true := by assumption
          have e : findN s = k := by
            rw [H.out, show 19 - k = (19 - (k + 1)) + 1 from by omega]
            exact findFrom_yes (by rw [H2.out, hq]; rfl)
          have hk0 : k ≠ 0 := fun h0 => by have := H2.out; rw [h0] at this; cases this
          go_ret2
          rw [e]
          refine ⟨?_, rfl⟩
          simp [hk0]
        · have hq : ((sg k).toList == s.toList) = false := by assumption
          have hn : findFrom s (19 - k) k = findFrom s (19 - (k + 1)) (k + 1) := by
            rw [show 19 - k = (19 - (k + 1)) + 1 from by omega]
            exact findFrom_no (by rw [H2.out, hq]; rfl)
          go_round
          case rel => exact ⟨k + 1, by omega, by go_num, H.out.trans hn⟩
          case measure => simp [intOf]; omega
    · obtain rfl : k = 19 := by omega
      go_wp2
      go_ret2
      have e : findN s = 0 := H.out
      rw [e]
      exact ⟨rfl, rfl⟩

set_option maxHeartbeats 400000 in
theorem rfind_any (s : ByteArray) (w : World) :
    Calls Tryd.prog 25 #[.string s] w fun e w' => e = .returned (.tuple #[.int .u8 (findN s), .bool (findN s != 0)]) ∧ Below w.heap.size w w' := by
  go_enter Tryd.func25, Tryd.ntmps25
  go_wp2
  go_loopw [4] (fun i wr => ∃ k : Nat, 1 ≤ k ∧ k ≤ 17 ∧ i = .int .u8 k ∧ Hid (findN s = findFrom s (19 - k) k) ∧ Below w.heap.size w wr) (fun i _ => (19 - intOf i).toNat)
  case atStart => exact ⟨1, by omega, by omega, rfl, rfl, Below.refl _ _⟩
  case round =>
    obtain ⟨k, hk1, hk, rfl, H, hb⟩ := hrel
    by_cases hlt : k < 17
    · have H2 : Hid (isTwo k = true) := by show isTwo k = true; simp [isTwo]; omega
      have hz := hb.size
      go_wp2_with (go_at_call 27; refine (rshow_any _ _).mono ?_; rintro e w1 ⟨rfl, hb1⟩)
      · have hq : ((sg k).toList == s.toList) = true := by assumption
        have e : findN s = k := by
          rw [H.out, show 19 - k = (19 - (k + 1)) + 1 from by omega]
          exact findFrom_yes (by rw [H2.out, hq]; rfl)
        have hk0 : k ≠ 0 := by omega
        go_ret2
        rw [e]
        refine ⟨?_, hb.trans (hb1.mono hz)⟩
        simp [hk0]
      · have hq : ((sg k).toList == s.toList) = false := by assumption
        have hn : findFrom s (19 - k) k = findFrom s (19 - (k + 1)) (k + 1) := by
          rw [show 19 - k = (19 - (k + 1)) + 1 from by omega]
          exact findFrom_no (by rw [H2.out, hq]; rfl)
        go_roundw
        case rel => exact ⟨k + 1, by omega, by omega, by go_num, H.out.trans hn, hb.trans (hb1.mono hz)⟩
        case measure => simp [intOf]; omega
    · obtain rfl : k = 17 := by omega
      go_wp2
      go_ret2
      have e : findN s = 0 := H.out.trans (by rfl)
      rw [e]
      exact ⟨rfl, hb⟩

end Go.Proofs.YtkjjcldcfokigaaDoor.ws
