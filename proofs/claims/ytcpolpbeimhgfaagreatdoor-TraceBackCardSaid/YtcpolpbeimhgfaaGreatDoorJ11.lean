/- Contract of the reference's Parse of words. Plain: texts by their words and lines. Plain: a line is read as the Did whose text it is, and as no other. Plain: a line's Did, there and back. Plain: what the reference reads of a line is what the program reads. Contract of the reference of trace: read. Plain: runs as texts, there and back. Contract of the reference of trace: Parse. Contracts: Print of trace and of its reference. The fixed run that each law begins with. The laws Texts and Back. -/
import Derived.Test.YtcpolpbeimhgfaaGreatDoorJ10
import Derived.Test.YtcpolpbeimhgfaaGreatDoorJ8
import Derived.Test.YtcpolpbeimhgfaaGreatDoorJ5
set_option linter.all false

namespace Go.Proofs.YtcpolpbeimhgfaaGreatDoor.ws
open Go Go.RowKit Go.Lib

theorem rparse_none (s : ByteArray) (w : World) (h : s.size = 0) :
    Calls Tryz.prog 39 #[.string s] w fun e w' => e = .returned (.tuple #[.int .i64 (prs s.data.toList).1, .int .i64 (prs s.data.toList).2.1, .int .i64 (prs s.data.toList).2.2]) ∧ w = w' := by
  have R := Lib.hid (prs_none h)
  have h1 : ¬ (0 : Int) < s.size := by omega
  have h2 : ¬ (0 : Int) < 0 := by omega
  have hs : (s.size : Int) ≤ 0 := by omega
  clear h
  go_enter Tryz.func39, Tryz.ntmps39
  go_wp2_with fail
  go_loop [8, 6] (fun n i => n = .int .u64 0 ∧ i = .int .i64 0) (fun _ _ => 0)
  case atStart => exact ⟨rfl, rfl⟩
  case round =>
    obtain ⟨rfl, rfl⟩ := hrel
    go_wp2
    go_ret3
    rw [R.out]
    exact ⟨rfl, rfl⟩
theorem rparse_any (s : ByteArray) (w : World) (hs : s.size ≤ 9223372036854775807) :
    Calls Tryz.prog 39 #[.string s] w fun e w' => e = .returned (.tuple #[.int .i64 (prs s.data.toList).1, .int .i64 (prs s.data.toList).2.1, .int .i64 (prs s.data.toList).2.2]) ∧ w = w' := by
  by_cases h : s.size = 0
  · exact rparse_none s w h
  · by_cases h0 : (s[0]'(by omega)).toNat = 45
    · exact rparse_neg s w hs (by omega) h0
    · exact rparse_pos s w hs (by omega) h0

end Go.Proofs.YtcpolpbeimhgfaaGreatDoor.ws
namespace Go.Proofs.YtcpolpbeimhgfaaGreatDoor.am
open Go Go.Proofs Go.RowKit

theorem d_rparse (s : ByteArray) : K 39 [.tr (ts s)] [] (.ret (.tup [.tr (ti (prsB s).1), .tr (ti (prsB s).2.1), .tr (ti (prsB s).2.2)])) [] := by
  refine Ctr.ofCalls (fun _ _ => by kernel_rfl) fun g w vs hm hsz hv => ?_
  obtain ⟨v, rfl⟩ := one_arg hsz
  obtain ⟨rfl, h1⟩ := val_inv (hv 0 v (.tr (ts s)) rfl rfl)
  have h1 : s.size ≤ 9223372036854775807 := h1
  refine (ws.rparse_any s w h1).mono ?_
  rintro e w' ⟨rfl, rfl⟩
  obtain ⟨⟨p1, p2⟩, p3, p4, p5⟩ := prs_in s h1
  refine ⟨_, rfl, Below.refl _ _, fun _ _ => .tup rfl fun i c a e1 e2 => ?_⟩
  match i with
  | 0 => cases e1; cases e2; exact .tr (.v ⟨p1, p2⟩)
  | 1 => cases e1; cases e2; exact .tr (.v ⟨by rcases p3 with h | h <;> (unfold prsB at h; rw [h]; decide), by rcases p3 with h | h <;> (unfold prsB at h; rw [h]; decide)⟩)
  | 2 => cases e1; cases e2; exact .tr (.v ⟨Int.le_trans (by decide) p4, p5⟩)
  | i + 3 => simp at e1
end Go.Proofs.YtcpolpbeimhgfaaGreatDoor.am

namespace Go.Proofs.YtcpolpbeimhgfaaGreatDoor.am
open Go Go.Proofs
theorem dat_len (s : ByteArray) : s.data.toList.length = s.size := by simp
abbrev in64 (w : Int) : Prop := -9223372036854775808 ≤ w ∧ w ≤ 9223372036854775807
def mkB (l : List UInt8) : ByteArray := ⟨l.toArray⟩
theorem mkB_data (l : List UInt8) : (mkB l).data.toList = l := by simp [mkB]
theorem ba_ext {a b : ByteArray} (h : a.data.toList = b.data.toList) : a = b := by
  obtain ⟨⟨a⟩⟩ := a
  obtain ⟨⟨b⟩⟩ := b
  have : a = b := h
  rw [this]
theorem mkB_of (a : ByteArray) : mkB a.data.toList = a := ba_ext (mkB_data _)
theorem mkB_size (l : List UInt8) : (mkB l).size = l.length := by show l.toArray.size = _; simp
theorem ib_at {c : UInt8} : ∀ (w r : List UInt8), c ∉ w → Lib.indexByte (w ++ c :: r) c = w.length
  | [], r, _ => by
    show (if (c == c) then (0 : Int) else _) = 0
    rw [if_pos (by simp)]
  | b :: w, r, h => by
    have hb : ¬ (b == c) = true := fun e => h (by rw [beq_iff_eq.1 e]; exact .head _)
    have ih := ib_at w r fun e => h (.tail _ e)
    show (if (b == c) then (0 : Int) else if Lib.indexByte (w ++ c :: r) c == -1 then -1 else Lib.indexByte (w ++ c :: r) c + 1) = _
    rw [if_neg hb, ih, if_neg (by rw [beq_iff_eq]; omega), List.length_cons]; omega
theorem ib_none {c : UInt8} : ∀ (w : List UInt8), c ∉ w → Lib.indexByte w c = -1
  | [], _ => rfl
  | b :: w, h => by
    have hb : ¬ (b == c) = true := fun e => h (by rw [beq_iff_eq.1 e]; exact .head _)
    have ih := ib_none w fun e => h (.tail _ e)
    show (if (b == c) then (0 : Int) else if Lib.indexByte w c == -1 then -1 else Lib.indexByte w c + 1) = _
    rw [if_neg hb, ih]; rfl
def jn : List (List UInt8) → List UInt8
  | [] => []
  | [w] => w
  | w :: v :: r => w ++ 32 :: jn (v :: r)
theorem jn_join : ∀ ws : List (List UInt8), Lib.join ws [32] = jn ws
  | [] => rfl
  | [w] => Lib.join_one w [32]
  | w :: v :: r => by
    have ih := jn_join (v :: r)
    rw [Lib.join_cons] at ih
    rw [Lib.join_cons]
    show w ++ ((v :: r).map ([32] ++ ·)).flatten = w ++ 32 :: jn (v :: r)
    rw [← ih]
    simp [Lib.joinTail]
theorem sp_one {w : List UInt8} (h : 32 ∉ w) : Lib.split w [32] = [w] := by
  unfold Lib.split
  rw [Lib.count_one]
  have : w.count 32 = 0 := List.count_eq_zero.2 h
  rw [this]; rfl
theorem sp_cons {w r : List UInt8} (h : 32 ∉ w) : Lib.split (w ++ 32 :: r) [32] = w :: Lib.split r [32] := by
  unfold Lib.split
  rw [Lib.count_one, Lib.count_one]
  have : (w ++ 32 :: r).count 32 = r.count 32 + 1 := by
    rw [List.count_append, List.count_eq_zero.2 h, List.count_cons_self, Nat.zero_add]
  rw [this]
  show (if Lib.index (w ++ 32 :: r) [32] == -1 then _ else _) = _
  rw [Lib.index_one, ib_at w r h, if_neg (by rw [beq_iff_eq]; omega), Int.toNat_natCast, Nat.add_zero, List.take_append_of_le_length (Nat.le_refl _), List.take_of_length_le (Nat.le_refl _)]
  congr 1
  congr 1
  show (w ++ 32 :: r).drop (w.length + 1) = r
  rw [List.drop_append]
  simp
theorem sp_jn : ∀ ws : List (List UInt8), ws ≠ [] → (∀ w ∈ ws, 32 ∉ w) → Lib.split (jn ws) [32] = ws
  | [], h, _ => absurd rfl h
  | [w], _, h => sp_one (h w (.head _))
  | w :: v :: r, _, h => by
    show Lib.split (w ++ 32 :: jn (v :: r)) [32] = _
    rw [sp_cons (h w (.head _)), sp_jn (v :: r) (by simp) fun x hx => h x (.tail _ hx)]
theorem map_data_inj : ∀ {a b : List ByteArray}, a.map (·.data.toList) = b.map (·.data.toList) → a = b
  | [], [], _ => rfl
  | [], _ :: _, h => by simp at h
  | _ :: _, [], h => by simp at h
  | x :: a, y :: b, h => by
    simp only [List.map_cons, List.cons.injEq] at h
    rw [ba_ext h.1, map_data_inj h.2]
theorem split_jn {ws : List (List UInt8)} (h0 : ws ≠ []) (h : ∀ w ∈ ws, 32 ∉ w) : splitBl (mkB (jn ws)) = ws.map mkB := by
  apply map_data_inj
  rw [splitBl_lists, mkB_data, sp_jn ws h0 h, List.map_map]
  simp [Function.comp_def, mkB_data]
theorem cutAt (c : UInt8) : ∀ l : List UInt8, c ∉ l ∨ ∃ w r, c ∉ w ∧ l = w ++ c :: r
  | [] => .inl (by simp)
  | b :: l => by
    by_cases hb : b = c
    · exact .inr ⟨[], l, by simp, by rw [hb]; rfl⟩
    · rcases cutAt c l with h | ⟨w, r, h1, h2⟩
      · exact .inl (by simp only [List.mem_cons, not_or]; exact ⟨fun e => hb e.symm, h⟩)
      · exact .inr ⟨b :: w, r, by simp only [List.mem_cons, not_or]; exact ⟨fun e => hb e.symm, h1⟩, by rw [h2]; rfl⟩
theorem words_ex : ∀ (n : Nat) (l : List UInt8), l.length ≤ n → ∃ ws, ws ≠ [] ∧ (∀ w ∈ ws, 32 ∉ w) ∧ l = jn ws
  | n, l, hn => by
    rcases cutAt 32 l with h | ⟨w, r, h1, h2⟩
    · exact ⟨[l], by simp, fun w hw => by simp at hw; rw [hw]; exact h, rfl⟩
    · cases n with
      | zero => rw [h2] at hn; simp at hn
      | succ n =>
        obtain ⟨ws, e1, e2, e3⟩ := words_ex n r (by rw [h2] at hn; simp at hn; omega)
        cases ws with
        | nil => exact absurd rfl e1
        | cons v ws =>
          refine ⟨w :: v :: ws, by simp, fun x hx => ?_, ?_⟩
          · rcases List.mem_cons.1 hx with rfl | hx
            · exact h1
            · exact e2 x hx
          · rw [h2, e3]; rfl
def unl (ls : List (List UInt8)) : List UInt8 := ls.flatMap (· ++ [10])
theorem ext_data (s : ByteArray) (a b : Nat) : (s.extract a b).data.toList = (s.data.toList.take b).drop a := by
  rw [ByteArray.data_extract, Array.toList_extract]
  simp [List.extract, List.drop_take]
theorem ext_end (s : ByteArray) (a : Nat) : (s.extract a s.size).data.toList = s.data.toList.drop a := by
  rw [ext_data, List.take_of_length_le (by have := dat_len s; omega)]
theorem prn_data (n : Int) : (prnB n).data.toList = ws.prn n := by simp [prnB]
theorem prs_back' (s : ByteArray) (h : (prsB s).2.1 = 0) : s = prnB (prsB s).1 ∧ in64 (prsB s).1 := by
  unfold prsB at h ⊢
  rcases ws.prs_back s.data.toList with ⟨p, hp, _⟩ | ⟨v, hv, e, h1, h2⟩
  · rw [hp] at h; cases h
  · rw [hv]
    exact ⟨ba_ext (by rw [prn_data]; exact e.symm), h1, h2⟩
theorem prs_prnB {w : Int} (h : in64 w) : prsB (prnB w) = (w, 0, 0) := by
  unfold prsB
  rw [prn_data]
  exact ws.prs_prn h.1 h.2
theorem dig_chars : ∀ (f n : Nat), n ≤ f → ∀ c ∈ ws.dig n, 48 ≤ c.toNat ∧ c.toNat ≤ 57
  | f, n, hf, c, hc => by
    by_cases hn : n < 10
    · rw [ws.dig_small hn] at hc
      simp only [List.mem_cons, List.not_mem_nil, or_false] at hc
      rw [hc, ws.dch_toNat hn]; omega
    · rw [ws.dig_big hn, List.mem_append] at hc
      rcases hc with hc | hc
      · cases f with
        | zero => omega
        | succ f => exact dig_chars f (n / 10) (by omega) c hc
      · simp only [List.mem_cons, List.not_mem_nil, or_false] at hc
        rw [hc, ws.dch_toNat (by omega)]; omega
theorem prn_chars (n : Int) : ∀ c ∈ ws.prn n, c.toNat = 45 ∨ (48 ≤ c.toNat ∧ c.toNat ≤ 57) := by
  intro c hc
  unfold ws.prn at hc
  split at hc
  · rcases List.mem_cons.1 hc with rfl | hc
    · exact .inl rfl
    · exact .inr (dig_chars _ _ (Nat.le_refl _) c hc)
  · exact .inr (dig_chars _ _ (Nat.le_refl _) c hc)
def okc (c : UInt8) : Prop := c ≠ 32 ∧ c ≠ 10 ∧ c ≠ 64
theorem okc_of {c : UInt8} (h : c.toNat = 45 ∨ (48 ≤ c.toNat ∧ c.toNat ≤ 57)) : okc c := by
  refine ⟨?_, ?_, ?_⟩ <;> (rintro rfl; revert h; decide)
def okw (s : ByteArray) : Prop := ∀ c ∈ s.data.toList, okc c
theorem okw_prn (n : Int) : okw (prnB n) := fun c hc => okc_of (prn_chars n c (by rwa [prn_data] at hc))
instance (c : UInt8) : Decidable (okc c) := by unfold okc; infer_instance
theorem joinB_mk (ws : List (List UInt8)) : joinB (ws.map mkB) = mkB (jn ws) := by
  unfold joinB joinL
  rw [List.map_map, show ((fun x : ByteArray => x.data.toList) ∘ mkB) = id from funext mkB_data, List.map_id, jn_join]; rfl
theorem jn_cons : ∀ (w : List UInt8) (ws : List (List UInt8)), jn (w :: ws) = w ++ ws.flatMap (32 :: ·)
  | w, [] => by simp [jn]
  | w, v :: r => by
    show w ++ 32 :: jn (v :: r) = _
    rw [jn_cons v r]; simp
theorem jn_free {c : UInt8} (hc : c ≠ 32) : ∀ ws : List (List UInt8), (∀ w ∈ ws, c ∉ w) → c ∉ jn ws
  | [], _ => by simp [jn]
  | w :: ws, h => by
    rw [jn_cons, List.mem_append, not_or]
    refine ⟨h w (.head _), ?_⟩
    rw [List.mem_flatMap]
    rintro ⟨v, hv, hm⟩
    rcases List.mem_cons.1 hm with e | hm
    · exact hc e
    · exact h v (.tail _ hv) hm
theorem as_mk (ws : List ByteArray) : ws = (ws.map (·.data.toList)).map mkB := by
  apply map_data_inj
  simp [Function.comp_def, mkB_data]
def free (s : ByteArray) : Prop := 32 ∉ s.data.toList ∧ 10 ∉ s.data.toList
theorem okw.free {s : ByteArray} (h : okw s) : free s := ⟨fun hc => (h _ hc).1 rfl, fun hc => (h _ hc).2.1 rfl⟩
theorem split_join {ws : List ByteArray} (h0 : ws ≠ []) (h : ∀ w ∈ ws, free w) : splitBl (joinB ws) = ws ∧ 10 ∉ (joinB ws).data.toList := by
  obtain ⟨l, rfl⟩ : ∃ l : List (List UInt8), ws = l.map mkB := ⟨_, as_mk ws⟩
  have hl : ∀ x ∈ l, free (mkB x) := fun x hx => h _ (List.mem_map.2 ⟨x, hx, rfl⟩)
  rw [joinB_mk, mkB_data]
  refine ⟨split_jn (fun e => h0 (by rw [e]; rfl)) fun x hx => ?_, jn_free (by decide) _ fun x hx => ?_⟩
  · have := (hl x hx).1; rwa [mkB_data] at this
  · have := (hl x hx).2; rwa [mkB_data] at this
end Go.Proofs.YtcpolpbeimhgfaaGreatDoor.am

namespace Go.Proofs.YtcpolpbeimhgfaaGreatDoor.am
open Go Go.Proofs
set_option linter.all false

/-! the reference's fields -/
theorem ext_mk {s : ByteArray} {i : Nat} {w r : List UInt8} (h : s.data.toList.drop i = w ++ r) : s.extract i (i + w.length) = mkB w := by
  apply ba_ext
  rw [ext_data, mkB_data, ← List.take_drop, h, List.take_append_of_le_length (Nat.le_refl _), List.take_of_length_le (Nat.le_refl _)]
theorem isBl_at {s : ByteArray} {i : Nat} {c : UInt8} {r : List UInt8} (h : s.data.toList.drop i = c :: r) : isBl s i = ((c.toNat : Int) == 32) := by
  unfold isBl
  have e : s.data.toList[i]? = some c := by
    have := congrArg (·[0]?) h
    simpa using this
  rw [List.getD_eq_getElem?_getD, e]
  rfl
theorem drop_lt {s : ByteArray} {i : Nat} {b : UInt8} {r : List UInt8} (h : s.data.toList.drop i = b :: r) : i < s.size := by
  have h1 := congrArg List.length h
  have := dat_len s
  rw [List.length_drop, List.length_cons] at h1; omega
theorem drop_next {s : ByteArray} {i : Nat} {b : UInt8} {r : List UInt8} (h : s.data.toList.drop i = b :: r) : s.data.toList.drop (i + 1) = r := by
  rw [← List.drop_drop, h]; rfl
theorem fldG_run {s : ByteArray} : ∀ (w r : List UInt8) (f i a : Nat), 32 ∉ w → s.data.toList.drop i = w ++ r → i ≤ s.size → (r = [] ∨ ∃ r', r = 32 :: r') →
    fldG s (w.length + 1 + f) i a = s.extract a (i + w.length) :: fldG s f (i + w.length + 1) (i + w.length + 1)
  | [], r, f, i, a, _, h, hi, hr => by
    have hc : ((i : Int) == (s.size : Int) || isBl s i) = true := by
      rcases hr with rfl | ⟨r', rfl⟩
      · have := congrArg List.length h
        have hd := dat_len s
        rw [List.length_drop] at this
        have e : i = s.size := by simp at this; omega
        rw [e]; simp
      · rw [isBl_at h]; exact Bool.or_true _
    rw [show ([] : List UInt8).length + 1 + f = f + 1 by simp; omega]
    show (bif (i : Int) == (s.size : Int) || isBl s i then s.extract a i :: fldG s f (i + 1) (i + 1) else fldG s f (i + 1) a) = _
    rw [hc]; rfl
  | c :: w, r, f, i, a, hw, h, hi, hr => by
    have hlt := drop_lt h
    have hc : ((i : Int) == (s.size : Int) || isBl s i) = false := by
      rw [isBl_at h]
      have h1 : ((i : Int) == (s.size : Int)) = false := by simp; omega
      have h2 : ((c.toNat : Int) == 32) = false := by
        have : c ≠ 32 := fun e => hw (by rw [e]; exact .head _)
        have h3 : c.toNat ≠ 32 := fun e => this (UInt8.toNat_inj.1 e)
        simp; omega
      rw [h1, h2]; rfl
    rw [show (c :: w).length + 1 + f = (w.length + 1 + f) + 1 by simp; omega]
    show (bif (i : Int) == (s.size : Int) || isBl s i then s.extract a i :: fldG s (w.length + 1 + f) (i + 1) (i + 1) else fldG s (w.length + 1 + f) (i + 1) a) = _
    rw [hc]
    show fldG s (w.length + 1 + f) (i + 1) a = _
    rw [fldG_run w r f (i + 1) a (fun e => hw (.tail _ e)) (drop_next h) hlt hr, List.length_cons, show i + 1 + w.length = i + (w.length + 1) by omega]
theorem fldG_jn {s : ByteArray} : ∀ (ws : List (List UInt8)) (i : Nat), ws ≠ [] → (∀ w ∈ ws, 32 ∉ w) → s.data.toList.drop i = jn ws → i ≤ s.size → fldG s ((jn ws).length + 1) i i = ws.map mkB
  | [], _, h, _, _, _ => absurd rfl h
  | [w], i, _, hw, h, hi => by
    have h' : s.data.toList.drop i = w ++ [] := by rw [List.append_nil]; exact h
    have := fldG_run w [] 0 i i (hw w (.head _)) h' hi (.inl rfl)
    show fldG s (w.length + 1) i i = [mkB w]
    rw [Nat.add_zero] at this
    rw [this, ext_mk h']
    rfl
  | w :: v :: r, i, _, hw, h, hi => by
    have h' : s.data.toList.drop i = w ++ (32 :: jn (v :: r)) := h
    have hd : s.data.toList.drop (i + w.length + 1) = jn (v :: r) := by
      rw [Nat.add_assoc, ← List.drop_drop, h', List.drop_append]; simp
    have hlt : i + w.length < s.size := by
      have h1 := congrArg List.length h'
      have := dat_len s
      rw [List.length_drop, List.length_append, List.length_cons] at h1; omega
    show fldG s ((w ++ (32 :: jn (v :: r))).length + 1) i i = _
    rw [List.length_append, List.length_cons, show w.length + ((jn (v :: r)).length + 1) + 1 = w.length + 1 + ((jn (v :: r)).length + 1) by omega]
    rw [fldG_run w _ _ i i (hw w (.head _)) h' hi (.inr ⟨_, rfl⟩), ext_mk h', fldG_jn (v :: r) _ (by simp) (fun x hx => hw x (.tail _ hx)) hd hlt]
    rfl
theorem fldS_split (s : ByteArray) : fldS s = splitBl s := by
  obtain ⟨ws, h0, h1, h2⟩ := words_ex _ s.data.toList (Nat.le_refl _)
  obtain rfl : s = mkB (jn ws) := ba_ext (by rw [mkB_data]; exact h2)
  rw [split_jn h0 h1]
  unfold fldS
  rw [mkB_size]
  exact fldG_jn ws 0 h0 h1 (by rw [mkB_data]; rfl) (Nat.zero_le _)
theorem join_split (s : ByteArray) : joinB (splitBl s) = s := by
  obtain ⟨ws, h0, h1, h2⟩ := words_ex _ s.data.toList (Nat.le_refl _)
  obtain rfl : s = mkB (jn ws) := ba_ext (by rw [mkB_data]; exact h2)
  rw [split_jn h0 h1, joinB_mk]
/-! numbers and words -/
theorem prsB_rng (s : ByteArray) : in64 (prsB s).1 := by
  unfold prsB
  rcases ws.prs_back s.data.toList with ⟨p, hp, _⟩ | ⟨v, hv, _, h1, h2⟩
  · rw [hp]; exact ⟨(show (-9223372036854775808 : Int) ≤ 0 by decide), (show (0 : Int) ≤ 9223372036854775807 by decide)⟩
  · rw [hv]; exact ⟨h1, h2⟩
theorem next_back {r : Rd} (h : (nextS r).2.ok = true) : r.ok = true ∧ r.l = (nextS r).1 :: (nextS r).2.l := by
  obtain ⟨l, ok⟩ := r
  cases l with
  | nil => cases h
  | cons x l => exact ⟨h, rfl⟩
theorem word_back {r : Rd} (h : (wordS r).2.ok = true) : r.ok = true ∧ r.l = prnB (wordS r).1 :: (wordS r).2.l := by
  unfold wordS at h ⊢
  simp only [Bool.and_eq_true, beq_iff_eq] at h
  obtain ⟨h1, h2⟩ := next_back h.1
  refine ⟨h1, ?_⟩
  rw [h2]
  show _ = prnB (prsB (nextS r).1).1 :: _
  rw [← (prs_back' _ h.2).1]
theorem num_back {r : Rd} (h : (numS r).2.ok = true) : r.ok = true ∧ r.l = prnB (numS r).1 :: (numS r).2.l := by
  unfold numS at h ⊢
  simp only [Bool.and_eq_true] at h
  exact word_back h.1
theorem word_rng (r : Rd) : in64 (wordS r).1 := prsB_rng _
theorem num_rng (r : Rd) : in64 (numS r).1 := prsB_rng _
theorem word_fwd {w : Int} (l : List ByteArray) (h : in64 w) : wordS ⟨prnB w :: l, true⟩ = (w, ⟨l, true⟩) := by
  unfold wordS
  show ((prsB (prnB w)).1, (⟨l, true && ((prsB (prnB w)).2.1 == 0)⟩ : Rd)) = _
  rw [prs_prnB h]; rfl
theorem num_fwd {w : Int} (l : List ByteArray) (h : in64 w) (h0 : 0 ≤ w) : numS ⟨prnB w :: l, true⟩ = (w, ⟨l, true⟩) := by
  unfold numS
  rw [word_fwd l h]
  show (w, (⟨l, true && decide (w ≥ 0)⟩ : Rd)) = _
  rw [decide_eq_true h0]; rfl
/-! the forms -/
theorem seq_ba {a b : ByteArray} : (a.toList == b.toList) = true ↔ a = b := by
  rw [ByteArray.toList_eq, ByteArray.toList_eq, beq_iff_eq]
  exact ⟨fun h => ba_ext h, fun h => by rw [h]⟩
def frmOf (k : Nat) : Frm := frmL.getD k ⟨⟨#[]⟩, false, false, false, false⟩
def kfrm (k : Nat) (x : LnS) : LnS := frmS (frmOf k) ({ x.1 with kind := k }, x.2)
theorem frm_at1 (x : LnS) : frmG (dword 1) frmL 0 x = kfrm 1 x := by kernel_rfl
theorem frm_at2 (x : LnS) : frmG (dword 2) frmL 0 x = kfrm 2 x := by kernel_rfl
theorem frm_at3 (x : LnS) : frmG (dword 3) frmL 0 x = kfrm 3 x := by kernel_rfl
theorem frm_at4 (x : LnS) : frmG (dword 4) frmL 0 x = kfrm 4 x := by kernel_rfl
theorem frm_at5 (x : LnS) : frmG (dword 5) frmL 0 x = kfrm 5 x := by kernel_rfl
theorem frm_at6 (x : LnS) : frmG (dword 6) frmL 0 x = kfrm 6 x := by kernel_rfl
theorem frm_at7 (x : LnS) : frmG (dword 7) frmL 0 x = kfrm 7 x := by kernel_rfl
theorem frm_at8 (x : LnS) : frmG (dword 8) frmL 0 x = kfrm 8 x := by kernel_rfl
theorem frmK_no {w : ByteArray} {k : Nat} {f : Frm} {x : LnS} (h : w ≠ f.word) : frmK w k f x = x := by
  unfold frmK
  have : (f.word.toList != w.toList) = true := by
    rw [bne_iff_ne]
    intro e
    exact h (seq_ba.1 (beq_iff_eq.2 e)).symm
  rw [this, Bool.or_true]; rfl
theorem frm_none {w : ByteArray} (x : LnS) (h : w ≠ dword 1 ∧ w ≠ dword 2 ∧ w ≠ dword 3 ∧ w ≠ dword 4 ∧ w ≠ dword 5 ∧ w ≠ dword 6 ∧ w ≠ dword 7 ∧ w ≠ dword 8) : frmG w frmL 0 x = x := by
  obtain ⟨h1, h2, h3, h4, h5, h6, h7, h8⟩ := h
  have h0 : frmK w 0 ⟨⟨#[]⟩, false, false, false, false⟩ x = x := by
    unfold frmK
    have : ((⟨#[]⟩ : ByteArray).toList == emB.toList) = true := seq_ba.2 rfl
    show (bif (⟨#[]⟩ : ByteArray).toList == emB.toList || _ then x else _) = x
    rw [this]; rfl
  unfold frmL
  simp only [frmG]
  rw [h0, frmK_no (w := w) (x := x) (k := 1) h1, frmK_no (w := w) (x := x) (k := 2) h2, frmK_no (w := w) (x := x) (k := 3) h3, frmK_no (w := w) (x := x) (k := 4) h4, frmK_no (w := w) (x := x) (k := 5) h5, frmK_no (w := w) (x := x) (k := 6) h6, frmK_no (w := w) (x := x) (k := 7) h7, frmK_no (w := w) (x := x) (k := 8) h8]
theorem word_cases (w : ByteArray) : (w = dword 1 ∨ w = dword 2 ∨ w = dword 3 ∨ w = dword 4 ∨ w = dword 5 ∨ w = dword 6 ∨ w = dword 7 ∨ w = dword 8) ∨ (w ≠ dword 1 ∧ w ≠ dword 2 ∧ w ≠ dword 3 ∧ w ≠ dword 4 ∧ w ≠ dword 5 ∧ w ≠ dword 6 ∧ w ≠ dword 7 ∧ w ≠ dword 8) := by
  by_cases h1 : w = dword 1 <;> by_cases h2 : w = dword 2 <;> by_cases h3 : w = dword 3 <;> by_cases h4 : w = dword 4 <;> by_cases h5 : w = dword 5 <;> by_cases h6 : w = dword 6 <;> by_cases h7 : w = dword 7 <;> by_cases h8 : w = dword 8 <;> simp_all
end Go.Proofs.YtcpolpbeimhgfaaGreatDoor.am

namespace Go.Proofs.YtcpolpbeimhgfaaGreatDoor.am
open Go Go.Proofs
set_option linter.all false

theorem line_words {d : Did} {s : ByteArray} (h : lineB d = s ++ nlB) : s = joinB (lineW d) := by
  apply ba_ext
  have := congrArg (fun x : ByteArray => x.data.toList) h
  simp only [lineB, ByteArray.data_append, Array.toList_append] at this
  exact (List.append_cancel_right this).symm
theorem okw_dword {k : Int} (h : k = 1 ∨ k = 2 ∨ k = 3 ∨ k = 4 ∨ k = 5 ∨ k = 6 ∨ k = 7 ∨ k = 8) : okw (dword k) := by
  rcases h with rfl | rfl | rfl | rfl | rfl | rfl | rfl | rfl <;> (unfold okw; decide)
theorem right_cases {d : Did} (hr : rightD d = true) (h0 : 0 ≤ d.kind) : d.kind = 1 ∨ d.kind = 2 ∨ d.kind = 3 ∨ d.kind = 4 ∨ d.kind = 5 ∨ d.kind = 6 ∨ d.kind = 7 ∨ d.kind = 8 := by
  have hk := right_kind' hr
  omega
theorem line_free {d : Did} (hr : rightD d = true) (h0 : 0 ≤ d.kind) : ∀ w ∈ lineW d, free w := by
  intro w hw
  have hk := okw_dword (right_cases hr h0)
  unfold lineW at hw
  simp only [List.mem_append, List.mem_cons, List.not_mem_nil, or_false] at hw
  rcases hw with (((hx | hx) | hx) | hx) | hx
  · rcases hx with rfl | rfl | rfl
    · exact (okw_prn _).free
    · exact (okw_prn _).free
    · exact hk.free
  · rw [mem_cond hx]; exact (okw_prn _).free
  · rw [mem_cond hx]; exact (okw_prn _).free
  · rw [mem_cond hx]; exact (okw_prn _).free
  · rw [mem_cond hx]; exact (show okw ownB by unfold okw; decide).free
theorem line_split {d : Did} (hr : rightD d = true) (h0 : 0 ≤ d.kind) : splitBl (joinB (lineW d)) = lineW d ∧ 10 ∉ (joinB (lineW d)).data.toList := split_join (by unfold lineW; simp) (line_free hr h0)
theorem did_fwd1 (dc da dd dw dp : Int) (dn : Bool) (hr : rightD ⟨1, dc, da, dd, dw, dp, dn⟩ = true) (hg : RngD ⟨1, dc, da, dd, dw, dp, dn⟩) : didL (joinB (lineW ⟨1, dc, da, dd, dw, dp, dn⟩)) = (⟨1, dc, da, dd, dw, dp, dn⟩, ⟨[], true⟩) := by
  have hs := (line_split hr hg.kind).1
  rw [right_1] at hr
  simp only [frm, okD, Bool.and_eq_true, Bool.or_eq_true, Bool.true_or, Bool.false_or, beq_iff_eq, decide_eq_true_eq, Bool.not_eq_true', ge_iff_le, true_and, and_true] at hr
  have hc0 : 0 ≤ dc := hr.1.1
  have ha0 : 0 ≤ da := hr.1.2.2.1
  have hd0 : 0 ≤ dd := hr.1.2.2.2.2.1
  obtain ⟨rfl, rfl, rfl, rfl⟩ := hr.2
  have hw : lineW ⟨1, dc, da, 0, 0, 0, false⟩ = [prnB dc, prnB da, dword 1] := rfl
  rw [hw] at hs ⊢
  unfold didL did0
  rw [hs, num_fwd _ hg.core hc0, num_fwd _ hg.at_ ha0]
  show frmG (dword 1) frmL 0 (⟨0, dc, da, 0, 0, 0, false⟩, ⟨[], true⟩) = _
  rw [frm_at1]
  show frmS ⟨_, false, false, false, false⟩ (⟨1, dc, da, 0, 0, 0, false⟩, ⟨[], true⟩) = _
  simp only [frmS, addrS, wrdS, putS, ownS, cond_true, cond_false, Bool.true_and, Bool.false_and]
  try rfl
theorem did_fwd2 (dc da dd dw dp : Int) (dn : Bool) (hr : rightD ⟨2, dc, da, dd, dw, dp, dn⟩ = true) (hg : RngD ⟨2, dc, da, dd, dw, dp, dn⟩) : didL (joinB (lineW ⟨2, dc, da, dd, dw, dp, dn⟩)) = (⟨2, dc, da, dd, dw, dp, dn⟩, ⟨[], true⟩) := by
  have hs := (line_split hr hg.kind).1
  rw [right_2] at hr
  simp only [frm, okD, Bool.and_eq_true, Bool.or_eq_true, Bool.true_or, Bool.false_or, beq_iff_eq, decide_eq_true_eq, Bool.not_eq_true', ge_iff_le, true_and, and_true] at hr
  have hc0 : 0 ≤ dc := hr.1.1
  have ha0 : 0 ≤ da := hr.1.2.2.1
  have hd0 : 0 ≤ dd := hr.1.2.2.2.2.1
  obtain rfl := hr.2
  cases dn
  · have hw : lineW ⟨2, dc, da, dd, dw, 0, false⟩ = [prnB dc, prnB da, dword 2, prnB dd, prnB dw] := rfl
    rw [hw] at hs ⊢
    unfold didL did0
    rw [hs, num_fwd _ hg.core hc0, num_fwd _ hg.at_ ha0]
    show frmG (dword 2) frmL 0 (⟨0, dc, da, 0, 0, 0, false⟩, ⟨[prnB dd, prnB dw], true⟩) = _
    rw [frm_at2]
    show frmS ⟨_, true, true, false, true⟩ (⟨2, dc, da, 0, 0, 0, false⟩, ⟨[prnB dd, prnB dw], true⟩) = _
    simp only [frmS, addrS, wrdS, putS, ownS, cond_true, cond_false, Bool.true_and, Bool.false_and, num_fwd _ hg.addr hd0, word_fwd _ hg.word]
    rfl
  · have hw : lineW ⟨2, dc, da, dd, dw, 0, true⟩ = [prnB dc, prnB da, dword 2, prnB dd, prnB dw, ownB] := rfl
    rw [hw] at hs ⊢
    unfold didL did0
    rw [hs, num_fwd _ hg.core hc0, num_fwd _ hg.at_ ha0]
    show frmG (dword 2) frmL 0 (⟨0, dc, da, 0, 0, 0, false⟩, ⟨[prnB dd, prnB dw, ownB], true⟩) = _
    rw [frm_at2]
    show frmS ⟨_, true, true, false, true⟩ (⟨2, dc, da, 0, 0, 0, false⟩, ⟨[prnB dd, prnB dw, ownB], true⟩) = _
    simp only [frmS, addrS, wrdS, putS, ownS, cond_true, cond_false, Bool.true_and, Bool.false_and, num_fwd _ hg.addr hd0, word_fwd _ hg.word]
    rw [show hasOwn [ownB] = true from seq_ba.2 rfl]
    rfl
theorem did_fwd3 (dc da dd dw dp : Int) (dn : Bool) (hr : rightD ⟨3, dc, da, dd, dw, dp, dn⟩ = true) (hg : RngD ⟨3, dc, da, dd, dw, dp, dn⟩) : didL (joinB (lineW ⟨3, dc, da, dd, dw, dp, dn⟩)) = (⟨3, dc, da, dd, dw, dp, dn⟩, ⟨[], true⟩) := by
  have hs := (line_split hr hg.kind).1
  rw [right_3] at hr
  simp only [frm, okD, Bool.and_eq_true, Bool.or_eq_true, Bool.true_or, Bool.false_or, beq_iff_eq, decide_eq_true_eq, Bool.not_eq_true', ge_iff_le, true_and, and_true] at hr
  have hc0 : 0 ≤ dc := hr.1.1
  have ha0 : 0 ≤ da := hr.1.2.2.1
  have hd0 : 0 ≤ dd := hr.1.2.2.2.2.1
  obtain ⟨rfl, rfl⟩ := hr.2
  have hw : lineW ⟨3, dc, da, dd, dw, 0, false⟩ = [prnB dc, prnB da, dword 3, prnB dd, prnB dw] := rfl
  rw [hw] at hs ⊢
  unfold didL did0
  rw [hs, num_fwd _ hg.core hc0, num_fwd _ hg.at_ ha0]
  show frmG (dword 3) frmL 0 (⟨0, dc, da, 0, 0, 0, false⟩, ⟨[prnB dd, prnB dw], true⟩) = _
  rw [frm_at3]
  show frmS ⟨_, true, true, false, false⟩ (⟨3, dc, da, 0, 0, 0, false⟩, ⟨[prnB dd, prnB dw], true⟩) = _
  simp only [frmS, addrS, wrdS, putS, ownS, cond_true, cond_false, Bool.true_and, Bool.false_and, num_fwd _ hg.addr hd0, word_fwd _ hg.word]
  try rfl
theorem did_fwd4 (dc da dd dw dp : Int) (dn : Bool) (hr : rightD ⟨4, dc, da, dd, dw, dp, dn⟩ = true) (hg : RngD ⟨4, dc, da, dd, dw, dp, dn⟩) : didL (joinB (lineW ⟨4, dc, da, dd, dw, dp, dn⟩)) = (⟨4, dc, da, dd, dw, dp, dn⟩, ⟨[], true⟩) := by
  have hs := (line_split hr hg.kind).1
  rw [right_4] at hr
  simp only [frm, okD, Bool.and_eq_true, Bool.or_eq_true, Bool.true_or, Bool.false_or, beq_iff_eq, decide_eq_true_eq, Bool.not_eq_true', ge_iff_le, true_and, and_true] at hr
  have hc0 : 0 ≤ dc := hr.1.1
  have ha0 : 0 ≤ da := hr.1.2.2.1
  have hd0 : 0 ≤ dd := hr.1.2.2.2.2.1
  obtain rfl := hr.2
  have hw : lineW ⟨4, dc, da, dd, dw, dp, false⟩ = [prnB dc, prnB da, dword 4, prnB dd, prnB dw, prnB dp] := rfl
  rw [hw] at hs ⊢
  unfold didL did0
  rw [hs, num_fwd _ hg.core hc0, num_fwd _ hg.at_ ha0]
  show frmG (dword 4) frmL 0 (⟨0, dc, da, 0, 0, 0, false⟩, ⟨[prnB dd, prnB dw, prnB dp], true⟩) = _
  rw [frm_at4]
  show frmS ⟨_, true, true, true, false⟩ (⟨4, dc, da, 0, 0, 0, false⟩, ⟨[prnB dd, prnB dw, prnB dp], true⟩) = _
  simp only [frmS, addrS, wrdS, putS, ownS, cond_true, cond_false, Bool.true_and, Bool.false_and, num_fwd _ hg.addr hd0, word_fwd _ hg.word, word_fwd _ hg.put]
  try rfl
theorem did_fwd5 (dc da dd dw dp : Int) (dn : Bool) (hr : rightD ⟨5, dc, da, dd, dw, dp, dn⟩ = true) (hg : RngD ⟨5, dc, da, dd, dw, dp, dn⟩) : didL (joinB (lineW ⟨5, dc, da, dd, dw, dp, dn⟩)) = (⟨5, dc, da, dd, dw, dp, dn⟩, ⟨[], true⟩) := by
  have hs := (line_split hr hg.kind).1
  rw [right_5] at hr
  simp only [frm, okD, Bool.and_eq_true, Bool.or_eq_true, Bool.true_or, Bool.false_or, beq_iff_eq, decide_eq_true_eq, Bool.not_eq_true', ge_iff_le, true_and, and_true] at hr
  have hc0 : 0 ≤ dc := hr.1.1
  have ha0 : 0 ≤ da := hr.1.2.2.1
  have hd0 : 0 ≤ dd := hr.1.2.2.2.2.1
  obtain ⟨rfl, rfl, rfl, rfl⟩ := hr.2
  have hw : lineW ⟨5, dc, da, 0, 0, 0, false⟩ = [prnB dc, prnB da, dword 5] := rfl
  rw [hw] at hs ⊢
  unfold didL did0
  rw [hs, num_fwd _ hg.core hc0, num_fwd _ hg.at_ ha0]
  show frmG (dword 5) frmL 0 (⟨0, dc, da, 0, 0, 0, false⟩, ⟨[], true⟩) = _
  rw [frm_at5]
  show frmS ⟨_, false, false, false, false⟩ (⟨5, dc, da, 0, 0, 0, false⟩, ⟨[], true⟩) = _
  simp only [frmS, addrS, wrdS, putS, ownS, cond_true, cond_false, Bool.true_and, Bool.false_and]
  try rfl
theorem did_fwd6 (dc da dd dw dp : Int) (dn : Bool) (hr : rightD ⟨6, dc, da, dd, dw, dp, dn⟩ = true) (hg : RngD ⟨6, dc, da, dd, dw, dp, dn⟩) : didL (joinB (lineW ⟨6, dc, da, dd, dw, dp, dn⟩)) = (⟨6, dc, da, dd, dw, dp, dn⟩, ⟨[], true⟩) := by
  have hs := (line_split hr hg.kind).1
  rw [right_6] at hr
  simp only [frm, okD, Bool.and_eq_true, Bool.or_eq_true, Bool.true_or, Bool.false_or, beq_iff_eq, decide_eq_true_eq, Bool.not_eq_true', ge_iff_le, true_and, and_true] at hr
  have hc0 : 0 ≤ dc := hr.1.1
  have ha0 : 0 ≤ da := hr.1.2.2.1
  have hd0 : 0 ≤ dd := hr.1.2.2.2.2.1
  obtain ⟨rfl, rfl, rfl⟩ := hr.2
  have hw : lineW ⟨6, dc, da, 0, dw, 0, false⟩ = [prnB dc, prnB da, dword 6, prnB dw] := rfl
  rw [hw] at hs ⊢
  unfold didL did0
  rw [hs, num_fwd _ hg.core hc0, num_fwd _ hg.at_ ha0]
  show frmG (dword 6) frmL 0 (⟨0, dc, da, 0, 0, 0, false⟩, ⟨[prnB dw], true⟩) = _
  rw [frm_at6]
  show frmS ⟨_, false, true, false, false⟩ (⟨6, dc, da, 0, 0, 0, false⟩, ⟨[prnB dw], true⟩) = _
  simp only [frmS, addrS, wrdS, putS, ownS, cond_true, cond_false, Bool.true_and, Bool.false_and, word_fwd _ hg.word]
  try rfl
theorem did_fwd7 (dc da dd dw dp : Int) (dn : Bool) (hr : rightD ⟨7, dc, da, dd, dw, dp, dn⟩ = true) (hg : RngD ⟨7, dc, da, dd, dw, dp, dn⟩) : didL (joinB (lineW ⟨7, dc, da, dd, dw, dp, dn⟩)) = (⟨7, dc, da, dd, dw, dp, dn⟩, ⟨[], true⟩) := by
  have hs := (line_split hr hg.kind).1
  rw [right_7] at hr
  simp only [frm, okD, Bool.and_eq_true, Bool.or_eq_true, Bool.true_or, Bool.false_or, beq_iff_eq, decide_eq_true_eq, Bool.not_eq_true', ge_iff_le, true_and, and_true] at hr
  have hc0 : 0 ≤ dc := hr.1.1
  have ha0 : 0 ≤ da := hr.1.2.2.1
  have hd0 : 0 ≤ dd := hr.1.2.2.2.2.1
  obtain ⟨rfl, rfl, rfl, rfl⟩ := hr.2
  have hw : lineW ⟨7, dc, da, 0, 0, 0, false⟩ = [prnB dc, prnB da, dword 7] := rfl
  rw [hw] at hs ⊢
  unfold didL did0
  rw [hs, num_fwd _ hg.core hc0, num_fwd _ hg.at_ ha0]
  show frmG (dword 7) frmL 0 (⟨0, dc, da, 0, 0, 0, false⟩, ⟨[], true⟩) = _
  rw [frm_at7]
  show frmS ⟨_, false, false, false, false⟩ (⟨7, dc, da, 0, 0, 0, false⟩, ⟨[], true⟩) = _
  simp only [frmS, addrS, wrdS, putS, ownS, cond_true, cond_false, Bool.true_and, Bool.false_and]
  try rfl
theorem did_fwd8 (dc da dd dw dp : Int) (dn : Bool) (hr : rightD ⟨8, dc, da, dd, dw, dp, dn⟩ = true) (hg : RngD ⟨8, dc, da, dd, dw, dp, dn⟩) : didL (joinB (lineW ⟨8, dc, da, dd, dw, dp, dn⟩)) = (⟨8, dc, da, dd, dw, dp, dn⟩, ⟨[], true⟩) := by
  have hs := (line_split hr hg.kind).1
  rw [right_8] at hr
  simp only [frm, okD, Bool.and_eq_true, Bool.or_eq_true, Bool.true_or, Bool.false_or, beq_iff_eq, decide_eq_true_eq, Bool.not_eq_true', ge_iff_le, true_and, and_true] at hr
  have hc0 : 0 ≤ dc := hr.1.1
  have ha0 : 0 ≤ da := hr.1.2.2.1
  have hd0 : 0 ≤ dd := hr.1.2.2.2.2.1
  obtain ⟨rfl, rfl⟩ := hr.2
  have hw : lineW ⟨8, dc, da, dd, dw, 0, false⟩ = [prnB dc, prnB da, dword 8, prnB dd, prnB dw] := rfl
  rw [hw] at hs ⊢
  unfold didL did0
  rw [hs, num_fwd _ hg.core hc0, num_fwd _ hg.at_ ha0]
  show frmG (dword 8) frmL 0 (⟨0, dc, da, 0, 0, 0, false⟩, ⟨[prnB dd, prnB dw], true⟩) = _
  rw [frm_at8]
  show frmS ⟨_, true, true, false, false⟩ (⟨8, dc, da, 0, 0, 0, false⟩, ⟨[prnB dd, prnB dw], true⟩) = _
  simp only [frmS, addrS, wrdS, putS, ownS, cond_true, cond_false, Bool.true_and, Bool.false_and, num_fwd _ hg.addr hd0, word_fwd _ hg.word]
  try rfl
theorem did_fwd {d : Did} (hr : rightD d = true) (hg : RngD d) {s : ByteArray} (hs : lineB d = s ++ nlB) : didL s = (d, ⟨[], true⟩) := by
  rw [line_words hs]
  have hk := right_cases hr hg.kind
  obtain ⟨dk, dc, da, dd, dw, dp, dn⟩ := d
  simp only at hk
  rcases hk with rfl | rfl | rfl | rfl | rfl | rfl | rfl | rfl
  · exact did_fwd1 dc da dd dw dp dn hr hg
  · exact did_fwd2 dc da dd dw dp dn hr hg
  · exact did_fwd3 dc da dd dw dp dn hr hg
  · exact did_fwd4 dc da dd dw dp dn hr hg
  · exact did_fwd5 dc da dd dw dp dn hr hg
  · exact did_fwd6 dc da dd dw dp dn hr hg
  · exact did_fwd7 dc da dd dw dp dn hr hg
  · exact did_fwd8 dc da dd dw dp dn hr hg
theorem did_back1 (dc da : Int) (r : Rd) (h : (kfrm 1 (⟨0, dc, da, 0, 0, 0, false⟩, r)).2.ok = true) (hl : (kfrm 1 (⟨0, dc, da, 0, 0, 0, false⟩, r)).2.l = []) (hc : in64 dc) (ha : in64 da) :
    r.ok = true ∧ lineW (kfrm 1 (⟨0, dc, da, 0, 0, 0, false⟩, r)).1 = prnB dc :: prnB da :: dword 1 :: r.l ∧ RngD (kfrm 1 (⟨0, dc, da, 0, 0, 0, false⟩, r)).1 := by
  have z : in64 0 := ⟨by decide, by decide⟩
  have z0 : (0 : Int) ≤ 1 := by decide
  revert h hl
  show (frmS ⟨_, false, false, false, false⟩ (⟨1, dc, da, 0, 0, 0, false⟩, r)).2.ok = true → (frmS ⟨_, false, false, false, false⟩ (⟨1, dc, da, 0, 0, 0, false⟩, r)).2.l = [] → r.ok = true ∧ lineW (frmS ⟨_, false, false, false, false⟩ (⟨1, dc, da, 0, 0, 0, false⟩, r)).1 = _ ∧ RngD (frmS ⟨_, false, false, false, false⟩ (⟨1, dc, da, 0, 0, 0, false⟩, r)).1
  simp only [frmS, addrS, wrdS, putS, ownS, cond_true, cond_false, Bool.true_and, Bool.false_and]
  intro h hl
  refine ⟨h, ?_, ⟨z0, hc, ha, z, z, z⟩⟩
  rw [hl]
  rfl
theorem did_back2 (dc da : Int) (r : Rd) (h : (kfrm 2 (⟨0, dc, da, 0, 0, 0, false⟩, r)).2.ok = true) (hl : (kfrm 2 (⟨0, dc, da, 0, 0, 0, false⟩, r)).2.l = []) (hc : in64 dc) (ha : in64 da) :
    r.ok = true ∧ lineW (kfrm 2 (⟨0, dc, da, 0, 0, 0, false⟩, r)).1 = prnB dc :: prnB da :: dword 2 :: r.l ∧ RngD (kfrm 2 (⟨0, dc, da, 0, 0, 0, false⟩, r)).1 := by
  have z : in64 0 := ⟨by decide, by decide⟩
  have z0 : (0 : Int) ≤ 2 := by decide
  revert h hl
  show (frmS ⟨_, true, true, false, true⟩ (⟨2, dc, da, 0, 0, 0, false⟩, r)).2.ok = true → (frmS ⟨_, true, true, false, true⟩ (⟨2, dc, da, 0, 0, 0, false⟩, r)).2.l = [] → r.ok = true ∧ lineW (frmS ⟨_, true, true, false, true⟩ (⟨2, dc, da, 0, 0, 0, false⟩, r)).1 = _ ∧ RngD (frmS ⟨_, true, true, false, true⟩ (⟨2, dc, da, 0, 0, 0, false⟩, r)).1
  simp only [frmS, addrS, wrdS, putS, ownS, cond_true, cond_false, Bool.true_and, Bool.false_and]
  have ra := num_rng r
  have ba := num_back (r := r)
  generalize numS r = Na at ra ba ⊢
  obtain ⟨xa, Ra⟩ := Na
  simp only at ra ba ⊢
  have rw_ := word_rng Ra
  have bw := word_back (r := Ra)
  generalize wordS Ra = Nw at rw_ bw ⊢
  obtain ⟨xw, Rw⟩ := Nw
  simp only at rw_ bw ⊢
  obtain ⟨lw, ow⟩ := Rw
  rcases lw with _ | ⟨s1, _ | ⟨s2, t⟩⟩
  · simp only [hasOwn, cond_false]
    intro h hl
    obtain ⟨kbw, ebw⟩ := bw h
    obtain ⟨kba, eba⟩ := ba kbw
    refine ⟨kba, ?_, ⟨z0, hc, ha, ra, rw_, z⟩⟩
    rw [eba, ebw]
    rfl
  · simp only [hasOwn]
    cases ho : (s1.toList == ownW.toList) with
    | true =>
      obtain rfl := seq_ba.1 ho
      simp only [cond_true, nextS]
      intro h hl
      obtain ⟨kbw, ebw⟩ := bw h
      obtain ⟨kba, eba⟩ := ba kbw
      refine ⟨kba, ?_, ⟨z0, hc, ha, ra, rw_, z⟩⟩
      rw [eba, ebw]
      rfl
    | false =>
      simp only [cond_false]
      intro h hl
      cases hl
  · simp only [hasOwn, cond_false]
    intro h hl
    cases hl
theorem did_back3 (dc da : Int) (r : Rd) (h : (kfrm 3 (⟨0, dc, da, 0, 0, 0, false⟩, r)).2.ok = true) (hl : (kfrm 3 (⟨0, dc, da, 0, 0, 0, false⟩, r)).2.l = []) (hc : in64 dc) (ha : in64 da) :
    r.ok = true ∧ lineW (kfrm 3 (⟨0, dc, da, 0, 0, 0, false⟩, r)).1 = prnB dc :: prnB da :: dword 3 :: r.l ∧ RngD (kfrm 3 (⟨0, dc, da, 0, 0, 0, false⟩, r)).1 := by
  have z : in64 0 := ⟨by decide, by decide⟩
  have z0 : (0 : Int) ≤ 3 := by decide
  revert h hl
  show (frmS ⟨_, true, true, false, false⟩ (⟨3, dc, da, 0, 0, 0, false⟩, r)).2.ok = true → (frmS ⟨_, true, true, false, false⟩ (⟨3, dc, da, 0, 0, 0, false⟩, r)).2.l = [] → r.ok = true ∧ lineW (frmS ⟨_, true, true, false, false⟩ (⟨3, dc, da, 0, 0, 0, false⟩, r)).1 = _ ∧ RngD (frmS ⟨_, true, true, false, false⟩ (⟨3, dc, da, 0, 0, 0, false⟩, r)).1
  simp only [frmS, addrS, wrdS, putS, ownS, cond_true, cond_false, Bool.true_and, Bool.false_and]
  have ra := num_rng r
  have ba := num_back (r := r)
  generalize numS r = Na at ra ba ⊢
  obtain ⟨xa, Ra⟩ := Na
  simp only at ra ba ⊢
  have rw_ := word_rng Ra
  have bw := word_back (r := Ra)
  generalize wordS Ra = Nw at rw_ bw ⊢
  obtain ⟨xw, Rw⟩ := Nw
  simp only at rw_ bw ⊢
  intro h hl
  obtain ⟨kbw, ebw⟩ := bw h
  obtain ⟨kba, eba⟩ := ba kbw
  refine ⟨kba, ?_, ⟨z0, hc, ha, ra, rw_, z⟩⟩
  rw [eba, ebw, hl]
  rfl
theorem did_back4 (dc da : Int) (r : Rd) (h : (kfrm 4 (⟨0, dc, da, 0, 0, 0, false⟩, r)).2.ok = true) (hl : (kfrm 4 (⟨0, dc, da, 0, 0, 0, false⟩, r)).2.l = []) (hc : in64 dc) (ha : in64 da) :
    r.ok = true ∧ lineW (kfrm 4 (⟨0, dc, da, 0, 0, 0, false⟩, r)).1 = prnB dc :: prnB da :: dword 4 :: r.l ∧ RngD (kfrm 4 (⟨0, dc, da, 0, 0, 0, false⟩, r)).1 := by
  have z : in64 0 := ⟨by decide, by decide⟩
  have z0 : (0 : Int) ≤ 4 := by decide
  revert h hl
  show (frmS ⟨_, true, true, true, false⟩ (⟨4, dc, da, 0, 0, 0, false⟩, r)).2.ok = true → (frmS ⟨_, true, true, true, false⟩ (⟨4, dc, da, 0, 0, 0, false⟩, r)).2.l = [] → r.ok = true ∧ lineW (frmS ⟨_, true, true, true, false⟩ (⟨4, dc, da, 0, 0, 0, false⟩, r)).1 = _ ∧ RngD (frmS ⟨_, true, true, true, false⟩ (⟨4, dc, da, 0, 0, 0, false⟩, r)).1
  simp only [frmS, addrS, wrdS, putS, ownS, cond_true, cond_false, Bool.true_and, Bool.false_and]
  have ra := num_rng r
  have ba := num_back (r := r)
  generalize numS r = Na at ra ba ⊢
  obtain ⟨xa, Ra⟩ := Na
  simp only at ra ba ⊢
  have rw_ := word_rng Ra
  have bw := word_back (r := Ra)
  generalize wordS Ra = Nw at rw_ bw ⊢
  obtain ⟨xw, Rw⟩ := Nw
  simp only at rw_ bw ⊢
  have rp := word_rng Rw
  have bp := word_back (r := Rw)
  generalize wordS Rw = Np at rp bp ⊢
  obtain ⟨xp, Rp⟩ := Np
  simp only at rp bp ⊢
  intro h hl
  obtain ⟨kbp, ebp⟩ := bp h
  obtain ⟨kbw, ebw⟩ := bw kbp
  obtain ⟨kba, eba⟩ := ba kbw
  refine ⟨kba, ?_, ⟨z0, hc, ha, ra, rw_, rp⟩⟩
  rw [eba, ebw, ebp, hl]
  rfl
theorem did_back5 (dc da : Int) (r : Rd) (h : (kfrm 5 (⟨0, dc, da, 0, 0, 0, false⟩, r)).2.ok = true) (hl : (kfrm 5 (⟨0, dc, da, 0, 0, 0, false⟩, r)).2.l = []) (hc : in64 dc) (ha : in64 da) :
    r.ok = true ∧ lineW (kfrm 5 (⟨0, dc, da, 0, 0, 0, false⟩, r)).1 = prnB dc :: prnB da :: dword 5 :: r.l ∧ RngD (kfrm 5 (⟨0, dc, da, 0, 0, 0, false⟩, r)).1 := by
  have z : in64 0 := ⟨by decide, by decide⟩
  have z0 : (0 : Int) ≤ 5 := by decide
  revert h hl
  show (frmS ⟨_, false, false, false, false⟩ (⟨5, dc, da, 0, 0, 0, false⟩, r)).2.ok = true → (frmS ⟨_, false, false, false, false⟩ (⟨5, dc, da, 0, 0, 0, false⟩, r)).2.l = [] → r.ok = true ∧ lineW (frmS ⟨_, false, false, false, false⟩ (⟨5, dc, da, 0, 0, 0, false⟩, r)).1 = _ ∧ RngD (frmS ⟨_, false, false, false, false⟩ (⟨5, dc, da, 0, 0, 0, false⟩, r)).1
  simp only [frmS, addrS, wrdS, putS, ownS, cond_true, cond_false, Bool.true_and, Bool.false_and]
  intro h hl
  refine ⟨h, ?_, ⟨z0, hc, ha, z, z, z⟩⟩
  rw [hl]
  rfl
theorem did_back6 (dc da : Int) (r : Rd) (h : (kfrm 6 (⟨0, dc, da, 0, 0, 0, false⟩, r)).2.ok = true) (hl : (kfrm 6 (⟨0, dc, da, 0, 0, 0, false⟩, r)).2.l = []) (hc : in64 dc) (ha : in64 da) :
    r.ok = true ∧ lineW (kfrm 6 (⟨0, dc, da, 0, 0, 0, false⟩, r)).1 = prnB dc :: prnB da :: dword 6 :: r.l ∧ RngD (kfrm 6 (⟨0, dc, da, 0, 0, 0, false⟩, r)).1 := by
  have z : in64 0 := ⟨by decide, by decide⟩
  have z0 : (0 : Int) ≤ 6 := by decide
  revert h hl
  show (frmS ⟨_, false, true, false, false⟩ (⟨6, dc, da, 0, 0, 0, false⟩, r)).2.ok = true → (frmS ⟨_, false, true, false, false⟩ (⟨6, dc, da, 0, 0, 0, false⟩, r)).2.l = [] → r.ok = true ∧ lineW (frmS ⟨_, false, true, false, false⟩ (⟨6, dc, da, 0, 0, 0, false⟩, r)).1 = _ ∧ RngD (frmS ⟨_, false, true, false, false⟩ (⟨6, dc, da, 0, 0, 0, false⟩, r)).1
  simp only [frmS, addrS, wrdS, putS, ownS, cond_true, cond_false, Bool.true_and, Bool.false_and]
  have rw_ := word_rng r
  have bw := word_back (r := r)
  generalize wordS r = Nw at rw_ bw ⊢
  obtain ⟨xw, Rw⟩ := Nw
  simp only at rw_ bw ⊢
  intro h hl
  obtain ⟨kbw, ebw⟩ := bw h
  refine ⟨kbw, ?_, ⟨z0, hc, ha, z, rw_, z⟩⟩
  rw [ebw, hl]
  rfl
theorem did_back7 (dc da : Int) (r : Rd) (h : (kfrm 7 (⟨0, dc, da, 0, 0, 0, false⟩, r)).2.ok = true) (hl : (kfrm 7 (⟨0, dc, da, 0, 0, 0, false⟩, r)).2.l = []) (hc : in64 dc) (ha : in64 da) :
    r.ok = true ∧ lineW (kfrm 7 (⟨0, dc, da, 0, 0, 0, false⟩, r)).1 = prnB dc :: prnB da :: dword 7 :: r.l ∧ RngD (kfrm 7 (⟨0, dc, da, 0, 0, 0, false⟩, r)).1 := by
  have z : in64 0 := ⟨by decide, by decide⟩
  have z0 : (0 : Int) ≤ 7 := by decide
  revert h hl
  show (frmS ⟨_, false, false, false, false⟩ (⟨7, dc, da, 0, 0, 0, false⟩, r)).2.ok = true → (frmS ⟨_, false, false, false, false⟩ (⟨7, dc, da, 0, 0, 0, false⟩, r)).2.l = [] → r.ok = true ∧ lineW (frmS ⟨_, false, false, false, false⟩ (⟨7, dc, da, 0, 0, 0, false⟩, r)).1 = _ ∧ RngD (frmS ⟨_, false, false, false, false⟩ (⟨7, dc, da, 0, 0, 0, false⟩, r)).1
  simp only [frmS, addrS, wrdS, putS, ownS, cond_true, cond_false, Bool.true_and, Bool.false_and]
  intro h hl
  refine ⟨h, ?_, ⟨z0, hc, ha, z, z, z⟩⟩
  rw [hl]
  rfl
theorem did_back8 (dc da : Int) (r : Rd) (h : (kfrm 8 (⟨0, dc, da, 0, 0, 0, false⟩, r)).2.ok = true) (hl : (kfrm 8 (⟨0, dc, da, 0, 0, 0, false⟩, r)).2.l = []) (hc : in64 dc) (ha : in64 da) :
    r.ok = true ∧ lineW (kfrm 8 (⟨0, dc, da, 0, 0, 0, false⟩, r)).1 = prnB dc :: prnB da :: dword 8 :: r.l ∧ RngD (kfrm 8 (⟨0, dc, da, 0, 0, 0, false⟩, r)).1 := by
  have z : in64 0 := ⟨by decide, by decide⟩
  have z0 : (0 : Int) ≤ 8 := by decide
  revert h hl
  show (frmS ⟨_, true, true, false, false⟩ (⟨8, dc, da, 0, 0, 0, false⟩, r)).2.ok = true → (frmS ⟨_, true, true, false, false⟩ (⟨8, dc, da, 0, 0, 0, false⟩, r)).2.l = [] → r.ok = true ∧ lineW (frmS ⟨_, true, true, false, false⟩ (⟨8, dc, da, 0, 0, 0, false⟩, r)).1 = _ ∧ RngD (frmS ⟨_, true, true, false, false⟩ (⟨8, dc, da, 0, 0, 0, false⟩, r)).1
  simp only [frmS, addrS, wrdS, putS, ownS, cond_true, cond_false, Bool.true_and, Bool.false_and]
  have ra := num_rng r
  have ba := num_back (r := r)
  generalize numS r = Na at ra ba ⊢
  obtain ⟨xa, Ra⟩ := Na
  simp only at ra ba ⊢
  have rw_ := word_rng Ra
  have bw := word_back (r := Ra)
  generalize wordS Ra = Nw at rw_ bw ⊢
  obtain ⟨xw, Rw⟩ := Nw
  simp only at rw_ bw ⊢
  intro h hl
  obtain ⟨kbw, ebw⟩ := bw h
  obtain ⟨kba, eba⟩ := ba kbw
  refine ⟨kba, ?_, ⟨z0, hc, ha, ra, rw_, z⟩⟩
  rw [eba, ebw, hl]
  rfl
theorem did_back {s : ByteArray} (h : didOk (didL s) = true) : lineB (didL s).1 = s ++ nlB ∧ rightD (didL s).1 = true ∧ RngD (didL s).1 := by
  unfold didOk at h
  simp only [Bool.and_eq_true, beq_iff_eq] at h
  obtain ⟨h1, h2, h3⟩ := h
  have h3 := List.eq_nil_of_length_eq_zero h3
  have hj := join_split s
  suffices hh : lineW (didL s).1 = splitBl s ∧ RngD (didL s).1 by
    refine ⟨?_, h2, hh.2⟩
    unfold lineB
    rw [hh.1, hj]
  clear hj
  unfold didL did0 at h1 h2 h3 ⊢
  have b1 := num_back (r := ⟨splitBl s, true⟩)
  have r1 := num_rng ⟨splitBl s, true⟩
  generalize numS ⟨splitBl s, true⟩ = N1 at h1 h2 h3 b1 r1 ⊢
  obtain ⟨n1, R1⟩ := N1
  simp only at h1 h2 h3 b1 r1 ⊢
  have b2 := num_back (r := R1)
  have r2 := num_rng R1
  generalize numS R1 = N2 at h1 h2 h3 b2 r2 ⊢
  obtain ⟨n2, R2⟩ := N2
  simp only at h1 h2 h3 b2 r2 ⊢
  have b3 := next_back (r := R2)
  generalize nextS R2 = N3 at h1 h2 h3 b3 ⊢
  obtain ⟨w, R3⟩ := N3
  simp only at h1 h2 h3 b3 ⊢
  rcases word_cases w with hw | hw
  · rcases hw with rfl | rfl | rfl | rfl | rfl | rfl | rfl | rfl
    · rw [frm_at1] at h1 h3 ⊢
      obtain ⟨o3, e3, g3⟩ := did_back1 n1 n2 R3 h1 h3 r1 r2
      obtain ⟨o2, e2⟩ := b3 o3
      obtain ⟨o1, e1⟩ := b2 o2
      obtain ⟨_, e0⟩ := b1 o1
      exact ⟨by rw [e3, e0, e1, e2], g3⟩
    · rw [frm_at2] at h1 h3 ⊢
      obtain ⟨o3, e3, g3⟩ := did_back2 n1 n2 R3 h1 h3 r1 r2
      obtain ⟨o2, e2⟩ := b3 o3
      obtain ⟨o1, e1⟩ := b2 o2
      obtain ⟨_, e0⟩ := b1 o1
      exact ⟨by rw [e3, e0, e1, e2], g3⟩
    · rw [frm_at3] at h1 h3 ⊢
      obtain ⟨o3, e3, g3⟩ := did_back3 n1 n2 R3 h1 h3 r1 r2
      obtain ⟨o2, e2⟩ := b3 o3
      obtain ⟨o1, e1⟩ := b2 o2
      obtain ⟨_, e0⟩ := b1 o1
      exact ⟨by rw [e3, e0, e1, e2], g3⟩
    · rw [frm_at4] at h1 h3 ⊢
      obtain ⟨o3, e3, g3⟩ := did_back4 n1 n2 R3 h1 h3 r1 r2
      obtain ⟨o2, e2⟩ := b3 o3
      obtain ⟨o1, e1⟩ := b2 o2
      obtain ⟨_, e0⟩ := b1 o1
      exact ⟨by rw [e3, e0, e1, e2], g3⟩
    · rw [frm_at5] at h1 h3 ⊢
      obtain ⟨o3, e3, g3⟩ := did_back5 n1 n2 R3 h1 h3 r1 r2
      obtain ⟨o2, e2⟩ := b3 o3
      obtain ⟨o1, e1⟩ := b2 o2
      obtain ⟨_, e0⟩ := b1 o1
      exact ⟨by rw [e3, e0, e1, e2], g3⟩
    · rw [frm_at6] at h1 h3 ⊢
      obtain ⟨o3, e3, g3⟩ := did_back6 n1 n2 R3 h1 h3 r1 r2
      obtain ⟨o2, e2⟩ := b3 o3
      obtain ⟨o1, e1⟩ := b2 o2
      obtain ⟨_, e0⟩ := b1 o1
      exact ⟨by rw [e3, e0, e1, e2], g3⟩
    · rw [frm_at7] at h1 h3 ⊢
      obtain ⟨o3, e3, g3⟩ := did_back7 n1 n2 R3 h1 h3 r1 r2
      obtain ⟨o2, e2⟩ := b3 o3
      obtain ⟨o1, e1⟩ := b2 o2
      obtain ⟨_, e0⟩ := b1 o1
      exact ⟨by rw [e3, e0, e1, e2], g3⟩
    · rw [frm_at8] at h1 h3 ⊢
      obtain ⟨o3, e3, g3⟩ := did_back8 n1 n2 R3 h1 h3 r1 r2
      obtain ⟨o2, e2⟩ := b3 o3
      obtain ⟨o1, e1⟩ := b2 o2
      obtain ⟨_, e0⟩ := b1 o1
      exact ⟨by rw [e3, e0, e1, e2], g3⟩
  · rw [frm_none _ hw] at h2
    cases h2
/-- a line is read as a right Did just if it is that Did's text -/
theorem did_iff (s : ByteArray) (d : Did) (hg : RngD d) (hr : rightD d = true) : lineB d = s ++ nlB ↔ didOk (didL s) = true ∧ (didL s).1 = d := by
  constructor
  · intro h
    rw [did_fwd hr hg h]
    refine ⟨?_, rfl⟩
    unfold didOk
    rw [hr]; rfl
  · rintro ⟨h, rfl⟩
    exact (did_back h).1
end Go.Proofs.YtcpolpbeimhgfaaGreatDoor.am

namespace Go.Proofs.YtcpolpbeimhgfaaGreatDoor.am
open Go Go.Proofs
set_option linter.all false

def numsG : List ByteArray → List Int → Option (List Int)
  | [], acc => some acc
  | w :: l, acc => bif ((prsB w).2.1 != 0) && (w.toList != ownW.toList) then none else numsG l (acc ++ [(prsB w).1])
def padG (l : List Int) : List Int := l ++ List.replicate (5 - l.length) 0
def didN (k : Int) (o : Bool) (n : List Int) : Did := ⟨k, n.getD 0 0, n.getD 1 0, bif addrK k then n.getD 2 0 else 0, bif addrK k then n.getD 3 0 else (bif k == 6 then n.getD 2 0 else 0), bif k == 4 then n.getD 4 0 else 0, (k == 2) && o⟩
def zDid : Did := ⟨0, 0, 0, 0, 0, 0, false⟩
def readF (s : ByteArray) (f : List ByteArray) (n : List Int) : Did × Bool :=
  (didN (kindS (f.getD 2 emB)) ((f.length : Int) == 6) (padG n), rightD (didN (kindS (f.getD 2 emB)) ((f.length : Int) == 6) (padG n)) && ((lineB (didN (kindS (f.getD 2 emB)) ((f.length : Int) == 6) (padG n))).toList == (s ++ nlB).toList))
def readG (s : ByteArray) (f : List ByteArray) : Did × Bool := bif decide ((f.length : Int) < 3) then (zDid, false) else match numsG (f.take 2 ++ f.drop 3) [] with
  | none => (zDid, false)
  | some n => readF s f n
def readS (s : ByteArray) : Did × Bool := readG s (fldS s)
theorem kindG_nn (s : ByteArray) : ∀ (l : List ByteArray) (k : Nat), 0 ≤ kindG s l k
  | [], _ => Int.le_refl 0
  | w :: l, k => by
    unfold kindG
    cases (w.toList == s.toList && decide ((k : Int) > 0))
    · exact kindG_nn s l (k + 1)
    · exact Int.natCast_nonneg k
theorem numsG_rng : ∀ {l : List ByteArray} {acc n : List Int}, (∀ x ∈ acc, in64 x) → numsG l acc = some n → ∀ x ∈ n, in64 x
  | [], acc, n, h, e => by cases e; exact h
  | w :: l, acc, n, h, e => by
    unfold numsG at e
    cases hb : (((prsB w).2.1 != 0) && (w.toList != ownW.toList)) with
    | true => rw [hb] at e; cases e
    | false =>
      rw [hb] at e
      refine numsG_rng (fun x hx => ?_) e
      rcases List.mem_append.1 hx with hx | hx
      · exact h x hx
      · simp only [List.mem_cons, List.not_mem_nil, or_false] at hx
        rw [hx]; exact prsB_rng w
theorem getD_rng {l : List Int} (h : ∀ x ∈ l, in64 x) (i : Nat) : in64 (l.getD i 0) := by
  rw [List.getD_eq_getElem?_getD]
  cases e : l[i]? with
  | none => exact ⟨by decide, by decide⟩
  | some x => exact h x (List.mem_of_getElem? e)
theorem cond_rng {b : Bool} {x y : Int} (hx : in64 x) (hy : in64 y) : in64 (bif b then x else y) := by cases b <;> assumption
theorem padG_rng {n : List Int} (h : ∀ x ∈ n, in64 x) : ∀ x ∈ padG n, in64 x := fun x hx => by
  unfold padG at hx
  rcases List.mem_append.1 hx with hx | hx
  · exact h x hx
  · rw [(List.mem_replicate.1 hx).2]; exact ⟨by decide, by decide⟩
theorem didN_rng {k : Int} {o : Bool} {n : List Int} (hk : 0 ≤ k) (h : ∀ x ∈ n, in64 x) : RngD (didN k o n) := by
  have z : in64 0 := ⟨by decide, by decide⟩
  exact ⟨hk, getD_rng h 0, getD_rng h 1, cond_rng (getD_rng h 2) z, cond_rng (getD_rng h 3) (cond_rng (getD_rng h 2) z), cond_rng (getD_rng h 4) z⟩
theorem zero_rng : RngD zDid := ⟨by decide, ⟨by decide, by decide⟩, ⟨by decide, by decide⟩, ⟨by decide, by decide⟩, ⟨by decide, by decide⟩, ⟨by decide, by decide⟩⟩
theorem readF_rng {s : ByteArray} {f : List ByteArray} {n : List Int} (h : ∀ x ∈ n, in64 x) : RngD (readF s f n).1 := didN_rng (kindG_nn _ _ _) (padG_rng h)
theorem readS_rng (s : ByteArray) : RngD (readS s).1 := by
  unfold readS readG
  cases hb : decide (((fldS s).length : Int) < 3) with
  | true => exact zero_rng
  | false =>
    show RngD (match numsG ((fldS s).take 2 ++ (fldS s).drop 3) [] with | none => (zDid, false) | some n => readF s (fldS s) n).1
    cases hn : numsG ((fldS s).take 2 ++ (fldS s).drop 3) [] with
    | none => exact zero_rng
    | some n => exact readF_rng (numsG_rng (fun x hx => by cases hx) hn)
theorem nums_cons {w : Int} {l : List ByteArray} {acc : List Int} (h : in64 w) : numsG (prnB w :: l) acc = numsG l (acc ++ [w]) := by
  rw [numsG, prs_prnB h]; rfl
theorem own_prs : (prsB ownW).1 = 0 := by kernel_rfl
theorem nums_own {acc : List Int} : numsG [ownW] acc = some (acc ++ [0]) := by
  rw [numsG, show (ownW.toList != ownW.toList) = false by simp, Bool.and_false, own_prs]; rfl
theorem kind_w1 : kindS (dword 1) = 1 := by kernel_rfl
theorem kind_w2 : kindS (dword 2) = 2 := by kernel_rfl
theorem kind_w3 : kindS (dword 3) = 3 := by kernel_rfl
theorem kind_w4 : kindS (dword 4) = 4 := by kernel_rfl
theorem kind_w5 : kindS (dword 5) = 5 := by kernel_rfl
theorem kind_w6 : kindS (dword 6) = 6 := by kernel_rfl
theorem kind_w7 : kindS (dword 7) = 7 := by kernel_rfl
theorem kind_w8 : kindS (dword 8) = 8 := by kernel_rfl
theorem read_fwd1 (s : ByteArray) (dc da dd dw dp : Int) (dn : Bool) (hr : rightD ⟨1, dc, da, dd, dw, dp, dn⟩ = true) (hg : RngD ⟨1, dc, da, dd, dw, dp, dn⟩) (hs : (lineB ⟨1, dc, da, dd, dw, dp, dn⟩).toList == (s ++ nlB).toList) : readG s (lineW ⟨1, dc, da, dd, dw, dp, dn⟩) = (⟨1, dc, da, dd, dw, dp, dn⟩, true) := by
  have hr' := hr
  rw [right_1] at hr
  simp only [frm, okD, Bool.and_eq_true, Bool.or_eq_true, Bool.true_or, Bool.false_or, beq_iff_eq, decide_eq_true_eq, Bool.not_eq_true', ge_iff_le, true_and, and_true] at hr
  obtain ⟨rfl, rfl, rfl, rfl⟩ := hr.2
  change readG s [prnB dc, prnB da, dword 1] = _
  have h1 : numsG (([prnB dc, prnB da, dword 1] : List ByteArray).take 2 ++ ([prnB dc, prnB da, dword 1] : List ByteArray).drop 3) [] = some [dc, da] := by
    show numsG [prnB dc, prnB da] [] = _
    rw [nums_cons hg.core, nums_cons hg.at_]
    rfl
  unfold readG
  rw [h1]
  show readF s _ [dc, da] = _
  unfold readF
  have h2 : didN (kindS (([prnB dc, prnB da, dword 1] : List ByteArray).getD 2 emB)) ((([prnB dc, prnB da, dword 1] : List ByteArray).length : Int) == 6) (padG [dc, da]) = ⟨1, dc, da, 0, 0, 0, false⟩ := by
    show didN (kindS (dword 1)) _ [dc, da, 0, 0, 0] = _
    rw [kind_w1]
    rfl
  rw [h2, hr', hs]
  rfl
theorem read_fwd2 (s : ByteArray) (dc da dd dw dp : Int) (dn : Bool) (hr : rightD ⟨2, dc, da, dd, dw, dp, dn⟩ = true) (hg : RngD ⟨2, dc, da, dd, dw, dp, dn⟩) (hs : (lineB ⟨2, dc, da, dd, dw, dp, dn⟩).toList == (s ++ nlB).toList) : readG s (lineW ⟨2, dc, da, dd, dw, dp, dn⟩) = (⟨2, dc, da, dd, dw, dp, dn⟩, true) := by
  have hr' := hr
  rw [right_2] at hr
  simp only [frm, okD, Bool.and_eq_true, Bool.or_eq_true, Bool.true_or, Bool.false_or, beq_iff_eq, decide_eq_true_eq, Bool.not_eq_true', ge_iff_le, true_and, and_true] at hr
  obtain rfl := hr.2
  cases dn
  · change readG s [prnB dc, prnB da, dword 2, prnB dd, prnB dw] = _
    have h1 : numsG (([prnB dc, prnB da, dword 2, prnB dd, prnB dw] : List ByteArray).take 2 ++ ([prnB dc, prnB da, dword 2, prnB dd, prnB dw] : List ByteArray).drop 3) [] = some [dc, da, dd, dw] := by
      show numsG [prnB dc, prnB da, prnB dd, prnB dw] [] = _
      rw [nums_cons hg.core, nums_cons hg.at_, nums_cons hg.addr, nums_cons hg.word]
      rfl
    unfold readG
    rw [h1]
    show readF s _ [dc, da, dd, dw] = _
    unfold readF
    have h2 : didN (kindS (([prnB dc, prnB da, dword 2, prnB dd, prnB dw] : List ByteArray).getD 2 emB)) ((([prnB dc, prnB da, dword 2, prnB dd, prnB dw] : List ByteArray).length : Int) == 6) (padG [dc, da, dd, dw]) = ⟨2, dc, da, dd, dw, 0, false⟩ := by
      show didN (kindS (dword 2)) _ [dc, da, dd, dw, 0] = _
      rw [kind_w2]
      rfl
    rw [h2, hr', hs]
    rfl
  · change readG s [prnB dc, prnB da, dword 2, prnB dd, prnB dw, ownB] = _
    have h1 : numsG (([prnB dc, prnB da, dword 2, prnB dd, prnB dw, ownB] : List ByteArray).take 2 ++ ([prnB dc, prnB da, dword 2, prnB dd, prnB dw, ownB] : List ByteArray).drop 3) [] = some [dc, da, dd, dw, 0] := by
      show numsG [prnB dc, prnB da, prnB dd, prnB dw, ownB] [] = _
      rw [nums_cons hg.core, nums_cons hg.at_, nums_cons hg.addr, nums_cons hg.word, show numsG [ownB] _ = _ from nums_own]
      rfl
    unfold readG
    rw [h1]
    show readF s _ [dc, da, dd, dw, 0] = _
    unfold readF
    have h2 : didN (kindS (([prnB dc, prnB da, dword 2, prnB dd, prnB dw, ownB] : List ByteArray).getD 2 emB)) ((([prnB dc, prnB da, dword 2, prnB dd, prnB dw, ownB] : List ByteArray).length : Int) == 6) (padG [dc, da, dd, dw, 0]) = ⟨2, dc, da, dd, dw, 0, true⟩ := by
      show didN (kindS (dword 2)) _ [dc, da, dd, dw, 0] = _
      rw [kind_w2]
      rfl
    rw [h2, hr', hs]
    rfl
theorem read_fwd3 (s : ByteArray) (dc da dd dw dp : Int) (dn : Bool) (hr : rightD ⟨3, dc, da, dd, dw, dp, dn⟩ = true) (hg : RngD ⟨3, dc, da, dd, dw, dp, dn⟩) (hs : (lineB ⟨3, dc, da, dd, dw, dp, dn⟩).toList == (s ++ nlB).toList) : readG s (lineW ⟨3, dc, da, dd, dw, dp, dn⟩) = (⟨3, dc, da, dd, dw, dp, dn⟩, true) := by
  have hr' := hr
  rw [right_3] at hr
  simp only [frm, okD, Bool.and_eq_true, Bool.or_eq_true, Bool.true_or, Bool.false_or, beq_iff_eq, decide_eq_true_eq, Bool.not_eq_true', ge_iff_le, true_and, and_true] at hr
  obtain ⟨rfl, rfl⟩ := hr.2
  change readG s [prnB dc, prnB da, dword 3, prnB dd, prnB dw] = _
  have h1 : numsG (([prnB dc, prnB da, dword 3, prnB dd, prnB dw] : List ByteArray).take 2 ++ ([prnB dc, prnB da, dword 3, prnB dd, prnB dw] : List ByteArray).drop 3) [] = some [dc, da, dd, dw] := by
    show numsG [prnB dc, prnB da, prnB dd, prnB dw] [] = _
    rw [nums_cons hg.core, nums_cons hg.at_, nums_cons hg.addr, nums_cons hg.word]
    rfl
  unfold readG
  rw [h1]
  show readF s _ [dc, da, dd, dw] = _
  unfold readF
  have h2 : didN (kindS (([prnB dc, prnB da, dword 3, prnB dd, prnB dw] : List ByteArray).getD 2 emB)) ((([prnB dc, prnB da, dword 3, prnB dd, prnB dw] : List ByteArray).length : Int) == 6) (padG [dc, da, dd, dw]) = ⟨3, dc, da, dd, dw, 0, false⟩ := by
    show didN (kindS (dword 3)) _ [dc, da, dd, dw, 0] = _
    rw [kind_w3]
    rfl
  rw [h2, hr', hs]
  rfl
theorem read_fwd4 (s : ByteArray) (dc da dd dw dp : Int) (dn : Bool) (hr : rightD ⟨4, dc, da, dd, dw, dp, dn⟩ = true) (hg : RngD ⟨4, dc, da, dd, dw, dp, dn⟩) (hs : (lineB ⟨4, dc, da, dd, dw, dp, dn⟩).toList == (s ++ nlB).toList) : readG s (lineW ⟨4, dc, da, dd, dw, dp, dn⟩) = (⟨4, dc, da, dd, dw, dp, dn⟩, true) := by
  have hr' := hr
  rw [right_4] at hr
  simp only [frm, okD, Bool.and_eq_true, Bool.or_eq_true, Bool.true_or, Bool.false_or, beq_iff_eq, decide_eq_true_eq, Bool.not_eq_true', ge_iff_le, true_and, and_true] at hr
  obtain rfl := hr.2
  change readG s [prnB dc, prnB da, dword 4, prnB dd, prnB dw, prnB dp] = _
  have h1 : numsG (([prnB dc, prnB da, dword 4, prnB dd, prnB dw, prnB dp] : List ByteArray).take 2 ++ ([prnB dc, prnB da, dword 4, prnB dd, prnB dw, prnB dp] : List ByteArray).drop 3) [] = some [dc, da, dd, dw, dp] := by
    show numsG [prnB dc, prnB da, prnB dd, prnB dw, prnB dp] [] = _
    rw [nums_cons hg.core, nums_cons hg.at_, nums_cons hg.addr, nums_cons hg.word, nums_cons hg.put]
    rfl
  unfold readG
  rw [h1]
  show readF s _ [dc, da, dd, dw, dp] = _
  unfold readF
  have h2 : didN (kindS (([prnB dc, prnB da, dword 4, prnB dd, prnB dw, prnB dp] : List ByteArray).getD 2 emB)) ((([prnB dc, prnB da, dword 4, prnB dd, prnB dw, prnB dp] : List ByteArray).length : Int) == 6) (padG [dc, da, dd, dw, dp]) = ⟨4, dc, da, dd, dw, dp, false⟩ := by
    show didN (kindS (dword 4)) _ [dc, da, dd, dw, dp] = _
    rw [kind_w4]
    rfl
  rw [h2, hr', hs]
  rfl
theorem read_fwd5 (s : ByteArray) (dc da dd dw dp : Int) (dn : Bool) (hr : rightD ⟨5, dc, da, dd, dw, dp, dn⟩ = true) (hg : RngD ⟨5, dc, da, dd, dw, dp, dn⟩) (hs : (lineB ⟨5, dc, da, dd, dw, dp, dn⟩).toList == (s ++ nlB).toList) : readG s (lineW ⟨5, dc, da, dd, dw, dp, dn⟩) = (⟨5, dc, da, dd, dw, dp, dn⟩, true) := by
  have hr' := hr
  rw [right_5] at hr
  simp only [frm, okD, Bool.and_eq_true, Bool.or_eq_true, Bool.true_or, Bool.false_or, beq_iff_eq, decide_eq_true_eq, Bool.not_eq_true', ge_iff_le, true_and, and_true] at hr
  obtain ⟨rfl, rfl, rfl, rfl⟩ := hr.2
  change readG s [prnB dc, prnB da, dword 5] = _
  have h1 : numsG (([prnB dc, prnB da, dword 5] : List ByteArray).take 2 ++ ([prnB dc, prnB da, dword 5] : List ByteArray).drop 3) [] = some [dc, da] := by
    show numsG [prnB dc, prnB da] [] = _
    rw [nums_cons hg.core, nums_cons hg.at_]
    rfl
  unfold readG
  rw [h1]
  show readF s _ [dc, da] = _
  unfold readF
  have h2 : didN (kindS (([prnB dc, prnB da, dword 5] : List ByteArray).getD 2 emB)) ((([prnB dc, prnB da, dword 5] : List ByteArray).length : Int) == 6) (padG [dc, da]) = ⟨5, dc, da, 0, 0, 0, false⟩ := by
    show didN (kindS (dword 5)) _ [dc, da, 0, 0, 0] = _
    rw [kind_w5]
    rfl
  rw [h2, hr', hs]
  rfl
theorem read_fwd6 (s : ByteArray) (dc da dd dw dp : Int) (dn : Bool) (hr : rightD ⟨6, dc, da, dd, dw, dp, dn⟩ = true) (hg : RngD ⟨6, dc, da, dd, dw, dp, dn⟩) (hs : (lineB ⟨6, dc, da, dd, dw, dp, dn⟩).toList == (s ++ nlB).toList) : readG s (lineW ⟨6, dc, da, dd, dw, dp, dn⟩) = (⟨6, dc, da, dd, dw, dp, dn⟩, true) := by
  have hr' := hr
  rw [right_6] at hr
  simp only [frm, okD, Bool.and_eq_true, Bool.or_eq_true, Bool.true_or, Bool.false_or, beq_iff_eq, decide_eq_true_eq, Bool.not_eq_true', ge_iff_le, true_and, and_true] at hr
  obtain ⟨rfl, rfl, rfl⟩ := hr.2
  change readG s [prnB dc, prnB da, dword 6, prnB dw] = _
  have h1 : numsG (([prnB dc, prnB da, dword 6, prnB dw] : List ByteArray).take 2 ++ ([prnB dc, prnB da, dword 6, prnB dw] : List ByteArray).drop 3) [] = some [dc, da, dw] := by
    show numsG [prnB dc, prnB da, prnB dw] [] = _
    rw [nums_cons hg.core, nums_cons hg.at_, nums_cons hg.word]
    rfl
  unfold readG
  rw [h1]
  show readF s _ [dc, da, dw] = _
  unfold readF
  have h2 : didN (kindS (([prnB dc, prnB da, dword 6, prnB dw] : List ByteArray).getD 2 emB)) ((([prnB dc, prnB da, dword 6, prnB dw] : List ByteArray).length : Int) == 6) (padG [dc, da, dw]) = ⟨6, dc, da, 0, dw, 0, false⟩ := by
    show didN (kindS (dword 6)) _ [dc, da, dw, 0, 0] = _
    rw [kind_w6]
    rfl
  rw [h2, hr', hs]
  rfl
theorem read_fwd7 (s : ByteArray) (dc da dd dw dp : Int) (dn : Bool) (hr : rightD ⟨7, dc, da, dd, dw, dp, dn⟩ = true) (hg : RngD ⟨7, dc, da, dd, dw, dp, dn⟩) (hs : (lineB ⟨7, dc, da, dd, dw, dp, dn⟩).toList == (s ++ nlB).toList) : readG s (lineW ⟨7, dc, da, dd, dw, dp, dn⟩) = (⟨7, dc, da, dd, dw, dp, dn⟩, true) := by
  have hr' := hr
  rw [right_7] at hr
  simp only [frm, okD, Bool.and_eq_true, Bool.or_eq_true, Bool.true_or, Bool.false_or, beq_iff_eq, decide_eq_true_eq, Bool.not_eq_true', ge_iff_le, true_and, and_true] at hr
  obtain ⟨rfl, rfl, rfl, rfl⟩ := hr.2
  change readG s [prnB dc, prnB da, dword 7] = _
  have h1 : numsG (([prnB dc, prnB da, dword 7] : List ByteArray).take 2 ++ ([prnB dc, prnB da, dword 7] : List ByteArray).drop 3) [] = some [dc, da] := by
    show numsG [prnB dc, prnB da] [] = _
    rw [nums_cons hg.core, nums_cons hg.at_]
    rfl
  unfold readG
  rw [h1]
  show readF s _ [dc, da] = _
  unfold readF
  have h2 : didN (kindS (([prnB dc, prnB da, dword 7] : List ByteArray).getD 2 emB)) ((([prnB dc, prnB da, dword 7] : List ByteArray).length : Int) == 6) (padG [dc, da]) = ⟨7, dc, da, 0, 0, 0, false⟩ := by
    show didN (kindS (dword 7)) _ [dc, da, 0, 0, 0] = _
    rw [kind_w7]
    rfl
  rw [h2, hr', hs]
  rfl
theorem read_fwd8 (s : ByteArray) (dc da dd dw dp : Int) (dn : Bool) (hr : rightD ⟨8, dc, da, dd, dw, dp, dn⟩ = true) (hg : RngD ⟨8, dc, da, dd, dw, dp, dn⟩) (hs : (lineB ⟨8, dc, da, dd, dw, dp, dn⟩).toList == (s ++ nlB).toList) : readG s (lineW ⟨8, dc, da, dd, dw, dp, dn⟩) = (⟨8, dc, da, dd, dw, dp, dn⟩, true) := by
  have hr' := hr
  rw [right_8] at hr
  simp only [frm, okD, Bool.and_eq_true, Bool.or_eq_true, Bool.true_or, Bool.false_or, beq_iff_eq, decide_eq_true_eq, Bool.not_eq_true', ge_iff_le, true_and, and_true] at hr
  obtain ⟨rfl, rfl⟩ := hr.2
  change readG s [prnB dc, prnB da, dword 8, prnB dd, prnB dw] = _
  have h1 : numsG (([prnB dc, prnB da, dword 8, prnB dd, prnB dw] : List ByteArray).take 2 ++ ([prnB dc, prnB da, dword 8, prnB dd, prnB dw] : List ByteArray).drop 3) [] = some [dc, da, dd, dw] := by
    show numsG [prnB dc, prnB da, prnB dd, prnB dw] [] = _
    rw [nums_cons hg.core, nums_cons hg.at_, nums_cons hg.addr, nums_cons hg.word]
    rfl
  unfold readG
  rw [h1]
  show readF s _ [dc, da, dd, dw] = _
  unfold readF
  have h2 : didN (kindS (([prnB dc, prnB da, dword 8, prnB dd, prnB dw] : List ByteArray).getD 2 emB)) ((([prnB dc, prnB da, dword 8, prnB dd, prnB dw] : List ByteArray).length : Int) == 6) (padG [dc, da, dd, dw]) = ⟨8, dc, da, dd, dw, 0, false⟩ := by
    show didN (kindS (dword 8)) _ [dc, da, dd, dw, 0] = _
    rw [kind_w8]
    rfl
  rw [h2, hr', hs]
  rfl
theorem read_fwd {s : ByteArray} {d : Did} (hr : rightD d = true) (hg : RngD d) (hs : lineB d = s ++ nlB) : readS s = (d, true) := by
  have hs' : ((lineB d).toList == (s ++ nlB).toList) = true := seq_ba.2 hs
  have e : fldS s = lineW d := by rw [fldS_split, line_words hs]; exact (line_split hr hg.kind).1
  unfold readS
  rw [e]
  have hk := right_cases hr hg.kind
  obtain ⟨dk, dc, da, dd, dw, dp, dn⟩ := d
  simp only at hk
  rcases hk with rfl | rfl | rfl | rfl | rfl | rfl | rfl | rfl
  · exact read_fwd1 s dc da dd dw dp dn hr hg hs'
  · exact read_fwd2 s dc da dd dw dp dn hr hg hs'
  · exact read_fwd3 s dc da dd dw dp dn hr hg hs'
  · exact read_fwd4 s dc da dd dw dp dn hr hg hs'
  · exact read_fwd5 s dc da dd dw dp dn hr hg hs'
  · exact read_fwd6 s dc da dd dw dp dn hr hg hs'
  · exact read_fwd7 s dc da dd dw dp dn hr hg hs'
  · exact read_fwd8 s dc da dd dw dp dn hr hg hs'
theorem readF_ok {s : ByteArray} {f : List ByteArray} {n : List Int} (h : (readF s f n).2 = true) : rightD (readF s f n).1 = true ∧ lineB (readF s f n).1 = s ++ nlB := by
  have h : (rightD (readF s f n).1 && ((lineB (readF s f n).1).toList == (s ++ nlB).toList)) = true := h
  rw [Bool.and_eq_true] at h
  exact ⟨h.1, seq_ba.1 h.2⟩
theorem readS_ok {s : ByteArray} (h : (readS s).2 = true) : rightD (readS s).1 = true ∧ lineB (readS s).1 = s ++ nlB := by
  unfold readS readG at h ⊢
  cases hb : decide (((fldS s).length : Int) < 3) with
  | true => rw [hb] at h; cases h
  | false =>
    rw [hb] at h
    revert h
    show (match numsG ((fldS s).take 2 ++ (fldS s).drop 3) [] with | none => (zDid, false) | some n => readF s (fldS s) n).2 = true → rightD (match numsG ((fldS s).take 2 ++ (fldS s).drop 3) [] with | none => (zDid, false) | some n => readF s (fldS s) n).1 = true ∧ lineB (match numsG ((fldS s).take 2 ++ (fldS s).drop 3) [] with | none => (zDid, false) | some n => readF s (fldS s) n).1 = s ++ nlB
    cases hn : numsG ((fldS s).take 2 ++ (fldS s).drop 3) [] with
    | none => intro h; cases h
    | some n => exact readF_ok
/-- the reference reads a line just if the program does, and the same -/
theorem read_eq (s : ByteArray) : (readS s).2 = didOk (didL s) ∧ (didOk (didL s) = true → (readS s).1 = (didL s).1) := by
  cases h : (readS s).2 with
  | true =>
    obtain ⟨h1, h2⟩ := readS_ok h
    obtain ⟨h3, h4⟩ := (did_iff s _ (readS_rng s) h1).1 h2
    exact ⟨h3.symm, fun _ => h4.symm⟩
  | false =>
    have hn : didOk (didL s) = false := by
      cases h2 : didOk (didL s) with
      | false => rfl
      | true =>
        obtain ⟨e1, e2, e3⟩ := did_back h2
        rw [read_fwd e2 e3 e1] at h
        cases h
    rw [hn]
    exact ⟨rfl, fun h => by cases h⟩
end Go.Proofs.YtcpolpbeimhgfaaGreatDoor.am

namespace Go.Proofs.YtcpolpbeimhgfaaGreatDoor.am
open Go Go.Proofs
set_option linter.all false

theorem fldG_len (s : ByteArray) : ∀ f i a, (fldG s f i a).length ≤ f
  | 0, _, _ => Nat.le_refl _
  | f + 1, i, a => by
    unfold fldG
    cases ((i : Int) == (s.size : Int) || isBl s i) with
    | true => exact Nat.succ_le_succ (fldG_len s f _ _)
    | false => exact Nat.le_succ_of_le (fldG_len s f _ _)
theorem fldS_len (s : ByteArray) : (fldS s).length ≤ s.size + 1 := fldG_len s _ _ _
theorem kindG_lt (s : ByteArray) : ∀ (l : List ByteArray) (k : Nat), kindG s l k = 0 ∨ ((k : Int) ≤ kindG s l k ∧ kindG s l k < k + l.length)
  | [], _ => .inl rfl
  | w :: l, k => by
    unfold kindG
    cases (w.toList == s.toList && decide ((k : Int) > 0)) with
    | true => exact .inr ⟨Int.le_refl _, by rw [List.length_cons]; simp only [cond_true]; omega⟩
    | false =>
      rcases kindG_lt s l (k + 1) with h | h
      · exact .inl h
      · refine .inr ?_
        rw [List.length_cons]
        simp only [cond_false]
        omega
theorem kindS_cases (s : ByteArray) : kindS s = 0 ∨ kindS s = 1 ∨ kindS s = 2 ∨ kindS s = 3 ∨ kindS s = 4 ∨ kindS s = 5 ∨ kindS s = 6 ∨ kindS s = 7 ∨ kindS s = 8 := by
  have h := kindG_lt s kwL 0
  have e : kwL.length = 9 := rfl
  rw [e] at h
  unfold kindS
  omega
theorem numsG_drop {g : List ByteArray} {i : Nat} {w : ByteArray} {acc : List Int} (h : g[i]? = some w) : numsG (g.drop i) acc = bif ((prsB w).2.1 != 0) && (w.toList != ownW.toList) then none else numsG (g.drop (i + 1)) (acc ++ [(prsB w).1]) := by
  have hlt := (List.getElem?_eq_some_iff.1 h).1
  rw [List.drop_eq_getElem_cons hlt, (List.getElem?_eq_some_iff.1 h).2]
  rfl
theorem padG_step {l : List Int} (h : l.length < 5) : padG (l ++ [0]) = padG l := by
  unfold padG
  rw [List.length_append, List.append_assoc]
  congr 1
  rw [show 5 - l.length = (5 - (l.length + 1)) + 1 by omega]
  rfl
theorem padG_done {l : List Int} (h : 5 ≤ l.length) : padG l = l := by
  unfold padG
  rw [show 5 - l.length = 0 by omega]
  exact List.append_nil l
theorem five {l : List Int} (h : 5 ≤ l.length) : ∃ a b c d e r, l = a :: b :: c :: d :: e :: r := by
  match l, h with
  | a :: b :: c :: d :: e :: r, _ => exact ⟨a, b, c, d, e, r, rfl⟩
abbrev intV (l : List Int) : Blk := .vec 2 1 8 (l.map irow)
set_option maxRecDepth 100000 in
set_option maxHeartbeats 4000000 in
theorem d_read (s : ByteArray) (hs : s.size ≤ 4194304) : K 20 [.tr (ts s)] [] (.ret (.tup [(readS s).1.av, .tr (tb (readS s).2)])) [] := by
  have h1 := d_fields s hs
  have hfl := fldS_len s
  generalize hR : readS s = R
  unfold readS at hR
  generalize fldS s = f at h1 hfl hR
  unfold readG at hR
  refine Ctr.new [] hT hmix Tryz.func20 rfl (fun _ _ => by kernel_rfl) rfl fun hok => ?_
  clear hok
  conv => whnf
  refine acall.pure _ (h1) rfl rfl fun _ => ?_
  conv => whnf
  refine csplit (fun h2 => ?_) (fun h2 => ?_)
  · replace h2 : decide ((f.length : Int) < 3) = true := by rw [List.length_map] at h2; exact h2
    rw [h2] at hR
    have hR : (zDid, false) = R := hR
    subst hR
    conv => whnf
    exact ⟨[], rfl, rfl, ⟨⟨.inl rfl, .inl rfl, .inl rfl, .inl rfl, .inl rfl, .inl rfl, .inl rfl, trivial⟩, .inl rfl, trivial⟩, trivial⟩
  replace h2 : decide ((f.length : Int) < 3) = false := by rw [List.length_map] at h2; exact h2
  rw [h2] at hR
  have hf3 : 3 ≤ f.length := by have := of_decide_eq_false h2; omega
  obtain ⟨a, b, c, r, rfl⟩ : ∃ a b c r, f = a :: b :: c :: r := by
    match f, hf3 with
    | a :: b :: c :: r, _ => exact ⟨a, b, c, r, rfl⟩
  have hrl : r.length ≤ 4194304 := by simp only [List.length_cons] at hfl; omega
  have hrm : (r.map srow).length = r.length := List.length_map ..
  have hR : (match numsG (a :: b :: r) [] with
    | none => (zDid, false)
    | some n => readF s (a :: b :: c :: r) n) = R := hR
  clear h2 hf3 hfl
  have hfm : ((srow a :: srow b :: srow c :: r.map srow).length : Int) = r.length + 3 := by simp only [List.length_cons, hrm]; omega
  conv => whnf
  refine ⟨rfl, Int.le_refl _, (show (0 : Int) ≤ 2 by decide), (show (2 : Int) ≤ ((srow a :: srow b :: srow c :: r.map srow).length : Int) by rw [hfm]; omega), ?_⟩
  conv => whnf
  refine ⟨rfl, rfl, rfl, Nat.le_refl _, Nat.le_of_ble_eq_true rfl, fun q hq => (by cases hq), ?_⟩
  conv => whnf
  refine ⟨rfl, (show (0 : Int) ≤ 3 by decide), (show (3 : Int) ≤ ((srow a :: srow b :: srow c :: r.map srow).length : Int) by rw [hfm]; omega), Int.le_refl _, ?_⟩
  conv => whnf
  have hd3 : (List.take (((srow a :: srow b :: srow c :: r.map srow).length : Int)).toNat (srow a :: srow b :: srow c :: r.map srow)).drop 3 = r.map srow := by rw [Int.toNat_natCast, List.take_length]; rfl
  refine ⟨rfl, rfl, rfl, Nat.le_of_ble_eq_true rfl, (show (2 + ((List.take (((srow a :: srow b :: srow c :: r.map srow).length : Int)).toNat (srow a :: srow b :: srow c :: r.map srow)).drop 3).length) * 16 ≤ 150000000000000 by rw [hd3, hrm]; omega), fun q hq => (by cases hq), ?_⟩
  conv => whnf
  refine ⟨by kernel_rfl, fun _ => ?_⟩
  conv => whnf
  generalize hN : numsG (a :: b :: r) [] = N at hR
  have hgm : ((a :: b :: r).map srow).length = r.length + 2 := by simp
  refine LoopL.by (fun x : List Int × Nat => ⟨[(0, .tr (ts s)), (2, .ptr 0 0), (4, .tr (strsT (a :: b :: c :: r))), (5, .sl 2 x.1.length), (24, .sl 1 (r.length + 2)), (25, .tr (ti (r.length + 2))), (26, .tr (ti x.2))], [(0, diB ⟨0, 0, 0, 0, 0, 0, false⟩), (1, strV (a :: b :: r)), (2, intV x.1)], 10⟩)
    (fun x => x.2 ≤ r.length + 2 ∧ x.1.length = x.2 ∧ numsG ((a :: b :: r).drop x.2) x.1 = N) (fun x => r.length + 2 - x.2) ([], 0) [_, _] [2]
    (Sub.mk' rfl ⟨.inl rfl, ⟨rfl, rfl⟩, .inl rfl, ⟨rfl, rfl, rfl, rfl⟩, ⟨rfl, (by simp <;> omega)⟩, .inl (congrArg ti (by simp <;> omega)), .inl rfl, trivial⟩ ⟨⟨rfl, .inl rfl, .inl rfl, .inl rfl, .inl rfl, .inl rfl, .inl rfl, .inl rfl, trivial⟩, ⟨rfl, rfl, rfl, (by simp only [List.map_cons, List.length_cons, List.take, List.drop, Option.getD] ; exact congrArg (fun x => srow a :: srow b :: x) hd3)⟩, ⟨rfl, _, _, _, rfl, by decide⟩, trivial⟩ rfl rfl) ⟨Nat.zero_le _, rfl, hN⟩ ?_
  rintro ⟨acc, i⟩ ⟨hi, hac, hS⟩ -
  simp only at hi hac hS
  have hi1 : IntKind.i64.wrap ((i : Int) + 1) = ((i + 1 : Nat) : Int) := by rw [w64 (by omega) (by omega)]; omega
  conv => whnf
  refine csplit (fun hlt => ?_) (fun hge => ?_)
  · have hlt : i < r.length + 2 := by have := of_decide_eq_true hlt; omega
    obtain ⟨w, hw⟩ : ∃ w, (a :: b :: r)[i]? = some w := ⟨(a :: b :: r)[i]'(by simp; omega), by simp⟩
    rw [numsG_drop hw] at hS
    have hrp := d_rparse w
    generalize prsB w = P at hS hrp
    obtain ⟨x, why, pl⟩ := P
    simp only at hS hrp
    conv => whnf
    refine ⟨rfl, (show (0 : Int) ≤ i by omega), (show (i : Int) < ((r.length + 2 : Nat) : Int) by omega), ?_⟩
    conv => whnf
    refine ⟨rfl, (by show i < ((a :: b :: r).map srow).length; rw [hgm]; exact hlt), fun row hrow => ?_⟩
    obtain ⟨w', hw', rfl⟩ := str_get hrow
    obtain rfl : w = w' := Option.some.inj (hw.symm.trans hw')
    clear hrow hw'
    refine ⟨Nat.zero_lt_one, fun t ht => ?_⟩
    cases ht
    conv => whnf
    refine acall.pure _ (hrp) rfl rfl fun _ => ?_
    conv => whnf
    have hwy : (why != 0) = true ∨ (why != 0) = false := by cases (why != 0); exact .inr rfl; exact .inl rfl
    have app : ((why != 0) && (w.toList != ownW.toList)) = false → numsG ((a :: b :: r).drop (i + 1)) (acc ++ [x]) = N := fun h => by
      rw [h] at hS
      exact hS
    have hda : (acc.map irow).take acc.length ++ [[ti x]] = (acc ++ [x]).map irow := by rw [List.take_of_length_le (by simp), List.map_append]; rfl
    rcases hwy with hwy | hwy
    · rw [hwy] at hS app ⊢
      conv => whnf
      refine csplit (fun ho => ?_) (fun ho => ?_)
      · replace ho : (w.toList != ownW.toList) = true := ho
        rw [ho] at hS
        obtain rfl : N = none := hS.symm
        have hR : (zDid, false) = R := hR
        subst hR
        conv => whnf
        exact ⟨[], rfl, rfl, ⟨⟨.inl rfl, .inl rfl, .inl rfl, .inl rfl, .inl rfl, .inl rfl, .inl rfl, trivial⟩, .inl rfl, trivial⟩, trivial⟩
      · replace ho : (w.toList != ownW.toList) = false := ho
        have hS2 := app (by rw [ho]; rfl)
        conv => whnf
        refine ⟨rfl, rfl, rfl, (by rw [List.length_map]; exact Nat.le_refl _), (show (acc.length + 1) * 8 ≤ 150000000000000 by omega), fun q hq => ?_, ?_⟩
        · cases hq with
          | head => exact Nat.ne_of_beq_eq_false rfl
          | tail _ h => cases h
        conv => whnf
        exact ⟨(acc ++ [x], i + 1), [0, 1, _], [], Sub.mk' rfl ⟨.inl rfl, ⟨rfl, rfl⟩, .inl rfl, ⟨rfl, by simp⟩, ⟨rfl, rfl⟩, .inl rfl, .inl (congrArg ti hi1), trivial⟩ ⟨⟨rfl, .inl rfl, .inl rfl, .inl rfl, .inl rfl, .inl rfl, .inl rfl, .inl rfl, trivial⟩, ⟨rfl, rfl, rfl, rfl⟩, ⟨rfl, rfl, rfl, hda⟩, trivial⟩ rfl rfl, ⟨by show i + 1 ≤ r.length + 2; omega, by show (acc ++ [x]).length = i + 1; simp; omega, hS2⟩, by show r.length + 2 - (i + 1) < r.length + 2 - i; omega⟩
    · have hS2 := app (by rw [hwy]; rfl)
      rw [hwy]
      conv => whnf
      refine ⟨rfl, rfl, rfl, (by rw [List.length_map]; exact Nat.le_refl _), (show (acc.length + 1) * 8 ≤ 150000000000000 by omega), fun q hq => ?_, ?_⟩
      · cases hq with
        | head => exact Nat.ne_of_beq_eq_false rfl
        | tail _ h => cases h
      conv => whnf
      exact ⟨(acc ++ [x], i + 1), [0, 1, _], [], Sub.mk' rfl ⟨.inl rfl, ⟨rfl, rfl⟩, .inl rfl, ⟨rfl, by simp⟩, ⟨rfl, rfl⟩, .inl rfl, .inl (congrArg ti hi1), trivial⟩ ⟨⟨rfl, .inl rfl, .inl rfl, .inl rfl, .inl rfl, .inl rfl, .inl rfl, .inl rfl, trivial⟩, ⟨rfl, rfl, rfl, rfl⟩, ⟨rfl, rfl, rfl, hda⟩, trivial⟩ rfl rfl, ⟨by show i + 1 ≤ r.length + 2; omega, by show (acc ++ [x]).length = i + 1; simp; omega, hS2⟩, by show r.length + 2 - (i + 1) < r.length + 2 - i; omega⟩
  · have hge : i = r.length + 2 := by have := of_decide_eq_false hge; omega
    rw [List.drop_of_length_le (by simp; omega)] at hS
    obtain rfl : N = some acc := hS.symm
    have hR : readF s (a :: b :: c :: r) acc = R := hR
    have hal : acc.length ≤ 4194306 := by omega
    clear hge hi hac hi1 hS
    have hrg := padG_rng (numsG_rng (acc := []) (fun x hx => by cases hx) hN)
    clear hN
    conv => whnf
    refine ⟨fun _ => ?_, fun h => absurd rfl h⟩
    conv => whnf
    refine LoopL.by (fun x : List Int => ⟨[(0, .tr (ts s)), (2, .ptr 0 0), (4, .tr (strsT (a :: b :: c :: r))), (5, .sl 1 x.length)], [(0, diB ⟨0, 0, 0, 0, 0, 0, false⟩), (1, intV x)], 10⟩)
      (fun x => x.length ≤ 4194306 ∧ padG x = padG acc) (fun x => 5 - x.length) acc [0, 2] []
      (Sub.mk' rfl ⟨.inl rfl, ⟨rfl, rfl⟩, .inl rfl, ⟨rfl, rfl⟩, trivial⟩ ⟨⟨rfl, .inl rfl, .inl rfl, .inl rfl, .inl rfl, .inl rfl, .inl rfl, .inl rfl, trivial⟩, ⟨rfl, rfl, rfl, rfl⟩, trivial⟩ rfl rfl) ⟨hal, rfl⟩ ?_
    rintro x ⟨hxl, hxp⟩ -
    conv => whnf
    refine csplit (fun hlt => ?_) (fun hge => ?_)
    · have hlt : x.length < 5 := by have := of_decide_eq_true hlt; omega
      have hda : (x.map irow).take x.length ++ [[ti 0]] = (x ++ [0]).map irow := by rw [List.take_of_length_le (by simp), List.map_append]; rfl
      conv => whnf
      refine ⟨rfl, rfl, rfl, (by rw [List.length_map]; exact Nat.le_refl _), (show (x.length + 1) * 8 ≤ 150000000000000 by omega), fun q hq => ?_, ?_⟩
      · cases hq with
        | head => exact Nat.ne_of_beq_eq_false rfl
        | tail _ h => cases h
      conv => whnf
      exact ⟨x ++ [0], [0, _], [], Sub.mk' rfl ⟨.inl rfl, ⟨rfl, rfl⟩, .inl rfl, ⟨rfl, by simp⟩, trivial⟩ ⟨⟨rfl, .inl rfl, .inl rfl, .inl rfl, .inl rfl, .inl rfl, .inl rfl, .inl rfl, trivial⟩, ⟨rfl, rfl, rfl, hda⟩, trivial⟩ rfl rfl, ⟨by rw [List.length_append, List.length_singleton]; omega, (padG_step hlt).trans hxp⟩, by rw [List.length_append, List.length_singleton]; omega⟩
    · have hge : 5 ≤ x.length := by have := of_decide_eq_false hge; omega
      unfold readF at hR
      rw [← hxp, padG_done hge] at hR
      have hx5 : (x.map irow).length = x.length := List.length_map ..
      obtain ⟨n0, n1, n2, n3, n4, y, rfl⟩ := five hge
      rw [← hxp, padG_done hge] at hrg
      clear hxp hge
      have hkc := kindS_cases c
      have hk := d_kind c
      replace hR : (didN (kindS c) (((a :: b :: c :: r).length : Int) == 6) (n0 :: n1 :: n2 :: n3 :: n4 :: y), rightD (didN (kindS c) (((a :: b :: c :: r).length : Int) == 6) (n0 :: n1 :: n2 :: n3 :: n4 :: y)) && ((lineB (didN (kindS c) (((a :: b :: c :: r).length : Int) == 6) (n0 :: n1 :: n2 :: n3 :: n4 :: y))).toList == (s ++ nlB).toList)) = R := hR
      have hlm : (((a :: b :: c :: r).length : Int) == 6) = (((List.map srow (a :: b :: c :: r)).length : Int) == 6) := by rw [List.length_map]
      rw [hlm] at hR
      clear hlm
      have hown : ∀ k o, RngD (didN k o (n0 :: n1 :: n2 :: n3 :: n4 :: y)) ∨ k < 0 := fun k o => by
        by_cases h : 0 ≤ k
        · exact .inl (didN_rng h hrg)
        · exact .inr (by omega)
      rcases hkc with hkc | hkc | hkc | hkc | hkc | hkc | hkc | hkc | hkc
      · have hg : RngD ⟨0, n0, n1, 0, 0, 0, false⟩ := (hown 0 (((List.map srow (a :: b :: c :: r)).length : Int) == 6)).resolve_right (by decide)
        rw [hkc] at hR hk
        have hR : ((⟨0, n0, n1, 0, 0, 0, false⟩ : Did), rightD ⟨0, n0, n1, 0, 0, 0, false⟩ && ((lineB ⟨0, n0, n1, 0, 0, 0, false⟩).toList == (s ++ nlB).toList)) = R := hR
        have hz := z_Right ⟨0, n0, n1, 0, 0, 0, false⟩
        have htx := fun h => d_text ⟨0, n0, n1, 0, 0, 0, false⟩ h hg.kind hg
        have hls := lineB_le hg
        conv => whnf
        refine ⟨fun _ => ?_, fun h => absurd rfl h⟩
        conv => whnf
        refine ⟨rfl, (show (0 : Int) ≤ 2 by decide), (show (2 : Int) < ((List.map srow (a :: b :: c :: r)).length : Int) by simp only [List.length_map, List.length_cons]; omega), fun row hrow => ?_⟩
        cases hrow
        conv => whnf
        refine acall.pure _ (hk) rfl rfl ?_
        conv => whnf
        refine ⟨rfl, (show (0 : Int) ≤ 0 by decide), (show (0 : Int) < (((n0 :: n1 :: n2 :: n3 :: n4 :: y).length : Nat) : Int) by simp only [List.length_cons]; omega), ?_⟩
        conv => whnf
        refine ⟨rfl, (by show 0 < ((n0 :: n1 :: n2 :: n3 :: n4 :: y).map irow).length; simp only [List.length_map, List.length_cons]; omega), fun row hrow => ?_⟩
        cases hrow
        refine ⟨Nat.zero_lt_one, fun t ht => ?_⟩
        cases ht
        conv => whnf
        refine ⟨rfl, (show (0 : Int) ≤ 1 by decide), (show (1 : Int) < (((n0 :: n1 :: n2 :: n3 :: n4 :: y).length : Nat) : Int) by simp only [List.length_cons]; omega), ?_⟩
        conv => whnf
        refine ⟨rfl, (by show 1 < ((n0 :: n1 :: n2 :: n3 :: n4 :: y).map irow).length; simp only [List.length_map, List.length_cons]; omega), fun row hrow => ?_⟩
        cases hrow
        refine ⟨Nat.zero_lt_one, fun t ht => ?_⟩
        cases ht
        conv => whnf
        refine ⟨by kernel_rfl, fun _ => ?_⟩
        conv => whnf
        have hR : ((⟨0, n0, n1, 0, 0, 0, false⟩ : Did), false) = R := hR
        subst hR
        have hz : K 29 [didA 0 n0 n1 0 0 0 false] [] (.ret (.tr (tb false))) [] := hz
        refine acall.pure _ (hz) rfl rfl ?_
        conv => whnf
        refine ⟨by kernel_rfl, fun _ => ?_⟩
        conv => whnf
        exact ⟨[], rfl, rfl, ⟨⟨.inl rfl, .inl rfl, .inl rfl, .inl rfl, .inl rfl, .inl rfl, .inl rfl, trivial⟩, .inl rfl, trivial⟩, trivial⟩
      · have hg : RngD ⟨1, n0, n1, 0, 0, 0, false⟩ := (hown 1 (((List.map srow (a :: b :: c :: r)).length : Int) == 6)).resolve_right (by decide)
        rw [hkc] at hR hk
        have hR : ((⟨1, n0, n1, 0, 0, 0, false⟩ : Did), rightD ⟨1, n0, n1, 0, 0, 0, false⟩ && ((lineB ⟨1, n0, n1, 0, 0, 0, false⟩).toList == (s ++ nlB).toList)) = R := hR
        have hz := z_Right ⟨1, n0, n1, 0, 0, 0, false⟩
        have htx := fun h => d_text ⟨1, n0, n1, 0, 0, 0, false⟩ h hg.kind hg
        have hls := lineB_le hg
        conv => whnf
        refine ⟨fun _ => ?_, fun h => absurd rfl h⟩
        conv => whnf
        refine ⟨rfl, (show (0 : Int) ≤ 2 by decide), (show (2 : Int) < ((List.map srow (a :: b :: c :: r)).length : Int) by simp only [List.length_map, List.length_cons]; omega), fun row hrow => ?_⟩
        cases hrow
        conv => whnf
        refine acall.pure _ (hk) rfl rfl ?_
        conv => whnf
        refine ⟨rfl, (show (0 : Int) ≤ 0 by decide), (show (0 : Int) < (((n0 :: n1 :: n2 :: n3 :: n4 :: y).length : Nat) : Int) by simp only [List.length_cons]; omega), ?_⟩
        conv => whnf
        refine ⟨rfl, (by show 0 < ((n0 :: n1 :: n2 :: n3 :: n4 :: y).map irow).length; simp only [List.length_map, List.length_cons]; omega), fun row hrow => ?_⟩
        cases hrow
        refine ⟨Nat.zero_lt_one, fun t ht => ?_⟩
        cases ht
        conv => whnf
        refine ⟨rfl, (show (0 : Int) ≤ 1 by decide), (show (1 : Int) < (((n0 :: n1 :: n2 :: n3 :: n4 :: y).length : Nat) : Int) by simp only [List.length_cons]; omega), ?_⟩
        conv => whnf
        refine ⟨rfl, (by show 1 < ((n0 :: n1 :: n2 :: n3 :: n4 :: y).map irow).length; simp only [List.length_map, List.length_cons]; omega), fun row hrow => ?_⟩
        cases hrow
        refine ⟨Nat.zero_lt_one, fun t ht => ?_⟩
        cases ht
        conv => whnf
        refine ⟨by kernel_rfl, fun _ => ?_⟩
        conv => whnf
        generalize hB : rightD ⟨1, n0, n1, 0, 0, 0, false⟩ = B at hR hz htx
        cases B
        · have hR : ((⟨1, n0, n1, 0, 0, 0, false⟩ : Did), false) = R := hR
          subst hR
          refine acall.pure _ (hz) rfl rfl ?_
          conv => whnf
          refine ⟨by kernel_rfl, fun _ => ?_⟩
          conv => whnf
          exact ⟨[], rfl, rfl, ⟨⟨.inl rfl, .inl rfl, .inl rfl, .inl rfl, .inl rfl, .inl rfl, .inl rfl, trivial⟩, .inl rfl, trivial⟩, trivial⟩
        · have htx := htx rfl
          have hR : ((⟨1, n0, n1, 0, 0, 0, false⟩ : Did), ((lineB ⟨1, n0, n1, 0, 0, 0, false⟩).toList == (s ++ nlB).toList)) = R := hR
          subst hR
          refine acall.pure _ (hz) rfl rfl ?_
          conv => whnf
          refine acall.pure _ (htx) rfl rfl ?_
          conv => whnf
          refine ⟨(show s.size + 1 ≤ _ by exact Nat.le_trans (Nat.succ_le_succ hs) (by decide)), ?_⟩
          conv => whnf
          refine ⟨by kernel_rfl, fun _ => ?_⟩
          conv => whnf
          exact ⟨[], rfl, rfl, ⟨⟨.inl rfl, .inl rfl, .inl rfl, .inl rfl, .inl rfl, .inl rfl, .inl rfl, trivial⟩, .inl rfl, trivial⟩, trivial⟩
      · have hg : RngD ⟨2, n0, n1, n2, n3, 0, (((List.map srow (a :: b :: c :: r)).length : Int) == 6)⟩ := (hown 2 (((List.map srow (a :: b :: c :: r)).length : Int) == 6)).resolve_right (by decide)
        rw [hkc] at hR hk
        have hR : ((⟨2, n0, n1, n2, n3, 0, (((List.map srow (a :: b :: c :: r)).length : Int) == 6)⟩ : Did), rightD ⟨2, n0, n1, n2, n3, 0, (((List.map srow (a :: b :: c :: r)).length : Int) == 6)⟩ && ((lineB ⟨2, n0, n1, n2, n3, 0, (((List.map srow (a :: b :: c :: r)).length : Int) == 6)⟩).toList == (s ++ nlB).toList)) = R := hR
        have hz := z_Right ⟨2, n0, n1, n2, n3, 0, (((List.map srow (a :: b :: c :: r)).length : Int) == 6)⟩
        have htx := fun h => d_text ⟨2, n0, n1, n2, n3, 0, (((List.map srow (a :: b :: c :: r)).length : Int) == 6)⟩ h hg.kind hg
        have hls := lineB_le hg
        conv => whnf
        refine ⟨fun _ => ?_, fun h => absurd rfl h⟩
        conv => whnf
        refine ⟨rfl, (show (0 : Int) ≤ 2 by decide), (show (2 : Int) < ((List.map srow (a :: b :: c :: r)).length : Int) by simp only [List.length_map, List.length_cons]; omega), fun row hrow => ?_⟩
        cases hrow
        conv => whnf
        refine acall.pure _ (hk) rfl rfl ?_
        conv => whnf
        refine ⟨rfl, (show (0 : Int) ≤ 0 by decide), (show (0 : Int) < (((n0 :: n1 :: n2 :: n3 :: n4 :: y).length : Nat) : Int) by simp only [List.length_cons]; omega), ?_⟩
        conv => whnf
        refine ⟨rfl, (by show 0 < ((n0 :: n1 :: n2 :: n3 :: n4 :: y).map irow).length; simp only [List.length_map, List.length_cons]; omega), fun row hrow => ?_⟩
        cases hrow
        refine ⟨Nat.zero_lt_one, fun t ht => ?_⟩
        cases ht
        conv => whnf
        refine ⟨rfl, (show (0 : Int) ≤ 1 by decide), (show (1 : Int) < (((n0 :: n1 :: n2 :: n3 :: n4 :: y).length : Nat) : Int) by simp only [List.length_cons]; omega), ?_⟩
        conv => whnf
        refine ⟨rfl, (by show 1 < ((n0 :: n1 :: n2 :: n3 :: n4 :: y).map irow).length; simp only [List.length_map, List.length_cons]; omega), fun row hrow => ?_⟩
        cases hrow
        refine ⟨Nat.zero_lt_one, fun t ht => ?_⟩
        cases ht
        conv => whnf
        refine ⟨by kernel_rfl, fun _ => ?_⟩
        conv => whnf
        refine ⟨rfl, (show (0 : Int) ≤ 2 by decide), (show (2 : Int) < (((n0 :: n1 :: n2 :: n3 :: n4 :: y).length : Nat) : Int) by simp only [List.length_cons]; omega), ?_⟩
        conv => whnf
        refine ⟨rfl, (by show 2 < ((n0 :: n1 :: n2 :: n3 :: n4 :: y).map irow).length; simp only [List.length_map, List.length_cons]; omega), fun row hrow => ?_⟩
        cases hrow
        refine ⟨Nat.zero_lt_one, fun t ht => ?_⟩
        cases ht
        conv => whnf
        refine ⟨rfl, (show (0 : Int) ≤ 3 by decide), (show (3 : Int) < (((n0 :: n1 :: n2 :: n3 :: n4 :: y).length : Nat) : Int) by simp only [List.length_cons]; omega), ?_⟩
        conv => whnf
        refine ⟨rfl, (by show 3 < ((n0 :: n1 :: n2 :: n3 :: n4 :: y).map irow).length; simp only [List.length_map, List.length_cons]; omega), fun row hrow => ?_⟩
        cases hrow
        refine ⟨Nat.zero_lt_one, fun t ht => ?_⟩
        cases ht
        conv => whnf
        generalize hB : rightD ⟨2, n0, n1, n2, n3, 0, (((List.map srow (a :: b :: c :: r)).length : Int) == 6)⟩ = B at hR hz htx
        cases B
        · have hR : ((⟨2, n0, n1, n2, n3, 0, (((List.map srow (a :: b :: c :: r)).length : Int) == 6)⟩ : Did), false) = R := hR
          subst hR
          refine acall.pure _ (hz) rfl rfl ?_
          conv => whnf
          refine ⟨by kernel_rfl, fun _ => ?_⟩
          conv => whnf
          exact ⟨[], rfl, rfl, ⟨⟨.inl rfl, .inl rfl, .inl rfl, .inl rfl, .inl rfl, .inl rfl, .inl rfl, trivial⟩, .inl rfl, trivial⟩, trivial⟩
        · have htx := htx rfl
          have hR : ((⟨2, n0, n1, n2, n3, 0, (((List.map srow (a :: b :: c :: r)).length : Int) == 6)⟩ : Did), ((lineB ⟨2, n0, n1, n2, n3, 0, (((List.map srow (a :: b :: c :: r)).length : Int) == 6)⟩).toList == (s ++ nlB).toList)) = R := hR
          subst hR
          refine acall.pure _ (hz) rfl rfl ?_
          conv => whnf
          refine acall.pure _ (htx) rfl rfl ?_
          conv => whnf
          refine ⟨(show s.size + 1 ≤ _ by exact Nat.le_trans (Nat.succ_le_succ hs) (by decide)), ?_⟩
          conv => whnf
          refine ⟨by kernel_rfl, fun _ => ?_⟩
          conv => whnf
          exact ⟨[], rfl, rfl, ⟨⟨.inl rfl, .inl rfl, .inl rfl, .inl rfl, .inl rfl, .inl rfl, .inl rfl, trivial⟩, .inl rfl, trivial⟩, trivial⟩
      · have hg : RngD ⟨3, n0, n1, n2, n3, 0, false⟩ := (hown 3 (((List.map srow (a :: b :: c :: r)).length : Int) == 6)).resolve_right (by decide)
        rw [hkc] at hR hk
        have hR : ((⟨3, n0, n1, n2, n3, 0, false⟩ : Did), rightD ⟨3, n0, n1, n2, n3, 0, false⟩ && ((lineB ⟨3, n0, n1, n2, n3, 0, false⟩).toList == (s ++ nlB).toList)) = R := hR
        have hz := z_Right ⟨3, n0, n1, n2, n3, 0, false⟩
        have htx := fun h => d_text ⟨3, n0, n1, n2, n3, 0, false⟩ h hg.kind hg
        have hls := lineB_le hg
        conv => whnf
        refine ⟨fun _ => ?_, fun h => absurd rfl h⟩
        conv => whnf
        refine ⟨rfl, (show (0 : Int) ≤ 2 by decide), (show (2 : Int) < ((List.map srow (a :: b :: c :: r)).length : Int) by simp only [List.length_map, List.length_cons]; omega), fun row hrow => ?_⟩
        cases hrow
        conv => whnf
        refine acall.pure _ (hk) rfl rfl ?_
        conv => whnf
        refine ⟨rfl, (show (0 : Int) ≤ 0 by decide), (show (0 : Int) < (((n0 :: n1 :: n2 :: n3 :: n4 :: y).length : Nat) : Int) by simp only [List.length_cons]; omega), ?_⟩
        conv => whnf
        refine ⟨rfl, (by show 0 < ((n0 :: n1 :: n2 :: n3 :: n4 :: y).map irow).length; simp only [List.length_map, List.length_cons]; omega), fun row hrow => ?_⟩
        cases hrow
        refine ⟨Nat.zero_lt_one, fun t ht => ?_⟩
        cases ht
        conv => whnf
        refine ⟨rfl, (show (0 : Int) ≤ 1 by decide), (show (1 : Int) < (((n0 :: n1 :: n2 :: n3 :: n4 :: y).length : Nat) : Int) by simp only [List.length_cons]; omega), ?_⟩
        conv => whnf
        refine ⟨rfl, (by show 1 < ((n0 :: n1 :: n2 :: n3 :: n4 :: y).map irow).length; simp only [List.length_map, List.length_cons]; omega), fun row hrow => ?_⟩
        cases hrow
        refine ⟨Nat.zero_lt_one, fun t ht => ?_⟩
        cases ht
        conv => whnf
        refine ⟨by kernel_rfl, fun _ => ?_⟩
        conv => whnf
        refine ⟨rfl, (show (0 : Int) ≤ 2 by decide), (show (2 : Int) < (((n0 :: n1 :: n2 :: n3 :: n4 :: y).length : Nat) : Int) by simp only [List.length_cons]; omega), ?_⟩
        conv => whnf
        refine ⟨rfl, (by show 2 < ((n0 :: n1 :: n2 :: n3 :: n4 :: y).map irow).length; simp only [List.length_map, List.length_cons]; omega), fun row hrow => ?_⟩
        cases hrow
        refine ⟨Nat.zero_lt_one, fun t ht => ?_⟩
        cases ht
        conv => whnf
        refine ⟨rfl, (show (0 : Int) ≤ 3 by decide), (show (3 : Int) < (((n0 :: n1 :: n2 :: n3 :: n4 :: y).length : Nat) : Int) by simp only [List.length_cons]; omega), ?_⟩
        conv => whnf
        refine ⟨rfl, (by show 3 < ((n0 :: n1 :: n2 :: n3 :: n4 :: y).map irow).length; simp only [List.length_map, List.length_cons]; omega), fun row hrow => ?_⟩
        cases hrow
        refine ⟨Nat.zero_lt_one, fun t ht => ?_⟩
        cases ht
        conv => whnf
        generalize hB : rightD ⟨3, n0, n1, n2, n3, 0, false⟩ = B at hR hz htx
        cases B
        · have hR : ((⟨3, n0, n1, n2, n3, 0, false⟩ : Did), false) = R := hR
          subst hR
          refine acall.pure _ (hz) rfl rfl ?_
          conv => whnf
          refine ⟨by kernel_rfl, fun _ => ?_⟩
          conv => whnf
          exact ⟨[], rfl, rfl, ⟨⟨.inl rfl, .inl rfl, .inl rfl, .inl rfl, .inl rfl, .inl rfl, .inl rfl, trivial⟩, .inl rfl, trivial⟩, trivial⟩
        · have htx := htx rfl
          have hR : ((⟨3, n0, n1, n2, n3, 0, false⟩ : Did), ((lineB ⟨3, n0, n1, n2, n3, 0, false⟩).toList == (s ++ nlB).toList)) = R := hR
          subst hR
          refine acall.pure _ (hz) rfl rfl ?_
          conv => whnf
          refine acall.pure _ (htx) rfl rfl ?_
          conv => whnf
          refine ⟨(show s.size + 1 ≤ _ by exact Nat.le_trans (Nat.succ_le_succ hs) (by decide)), ?_⟩
          conv => whnf
          refine ⟨by kernel_rfl, fun _ => ?_⟩
          conv => whnf
          exact ⟨[], rfl, rfl, ⟨⟨.inl rfl, .inl rfl, .inl rfl, .inl rfl, .inl rfl, .inl rfl, .inl rfl, trivial⟩, .inl rfl, trivial⟩, trivial⟩
      · have hg : RngD ⟨4, n0, n1, n2, n3, n4, false⟩ := (hown 4 (((List.map srow (a :: b :: c :: r)).length : Int) == 6)).resolve_right (by decide)
        rw [hkc] at hR hk
        have hR : ((⟨4, n0, n1, n2, n3, n4, false⟩ : Did), rightD ⟨4, n0, n1, n2, n3, n4, false⟩ && ((lineB ⟨4, n0, n1, n2, n3, n4, false⟩).toList == (s ++ nlB).toList)) = R := hR
        have hz := z_Right ⟨4, n0, n1, n2, n3, n4, false⟩
        have htx := fun h => d_text ⟨4, n0, n1, n2, n3, n4, false⟩ h hg.kind hg
        have hls := lineB_le hg
        conv => whnf
        refine ⟨fun _ => ?_, fun h => absurd rfl h⟩
        conv => whnf
        refine ⟨rfl, (show (0 : Int) ≤ 2 by decide), (show (2 : Int) < ((List.map srow (a :: b :: c :: r)).length : Int) by simp only [List.length_map, List.length_cons]; omega), fun row hrow => ?_⟩
        cases hrow
        conv => whnf
        refine acall.pure _ (hk) rfl rfl ?_
        conv => whnf
        refine ⟨rfl, (show (0 : Int) ≤ 0 by decide), (show (0 : Int) < (((n0 :: n1 :: n2 :: n3 :: n4 :: y).length : Nat) : Int) by simp only [List.length_cons]; omega), ?_⟩
        conv => whnf
        refine ⟨rfl, (by show 0 < ((n0 :: n1 :: n2 :: n3 :: n4 :: y).map irow).length; simp only [List.length_map, List.length_cons]; omega), fun row hrow => ?_⟩
        cases hrow
        refine ⟨Nat.zero_lt_one, fun t ht => ?_⟩
        cases ht
        conv => whnf
        refine ⟨rfl, (show (0 : Int) ≤ 1 by decide), (show (1 : Int) < (((n0 :: n1 :: n2 :: n3 :: n4 :: y).length : Nat) : Int) by simp only [List.length_cons]; omega), ?_⟩
        conv => whnf
        refine ⟨rfl, (by show 1 < ((n0 :: n1 :: n2 :: n3 :: n4 :: y).map irow).length; simp only [List.length_map, List.length_cons]; omega), fun row hrow => ?_⟩
        cases hrow
        refine ⟨Nat.zero_lt_one, fun t ht => ?_⟩
        cases ht
        conv => whnf
        refine ⟨by kernel_rfl, fun _ => ?_⟩
        conv => whnf
        refine ⟨rfl, (show (0 : Int) ≤ 2 by decide), (show (2 : Int) < (((n0 :: n1 :: n2 :: n3 :: n4 :: y).length : Nat) : Int) by simp only [List.length_cons]; omega), ?_⟩
        conv => whnf
        refine ⟨rfl, (by show 2 < ((n0 :: n1 :: n2 :: n3 :: n4 :: y).map irow).length; simp only [List.length_map, List.length_cons]; omega), fun row hrow => ?_⟩
        cases hrow
        refine ⟨Nat.zero_lt_one, fun t ht => ?_⟩
        cases ht
        conv => whnf
        refine ⟨rfl, (show (0 : Int) ≤ 3 by decide), (show (3 : Int) < (((n0 :: n1 :: n2 :: n3 :: n4 :: y).length : Nat) : Int) by simp only [List.length_cons]; omega), ?_⟩
        conv => whnf
        refine ⟨rfl, (by show 3 < ((n0 :: n1 :: n2 :: n3 :: n4 :: y).map irow).length; simp only [List.length_map, List.length_cons]; omega), fun row hrow => ?_⟩
        cases hrow
        refine ⟨Nat.zero_lt_one, fun t ht => ?_⟩
        cases ht
        conv => whnf
        refine ⟨rfl, (show (0 : Int) ≤ 4 by decide), (show (4 : Int) < (((n0 :: n1 :: n2 :: n3 :: n4 :: y).length : Nat) : Int) by simp only [List.length_cons]; omega), ?_⟩
        conv => whnf
        refine ⟨rfl, (by show 4 < ((n0 :: n1 :: n2 :: n3 :: n4 :: y).map irow).length; simp only [List.length_map, List.length_cons]; omega), fun row hrow => ?_⟩
        cases hrow
        refine ⟨Nat.zero_lt_one, fun t ht => ?_⟩
        cases ht
        conv => whnf
        generalize hB : rightD ⟨4, n0, n1, n2, n3, n4, false⟩ = B at hR hz htx
        cases B
        · have hR : ((⟨4, n0, n1, n2, n3, n4, false⟩ : Did), false) = R := hR
          subst hR
          refine acall.pure _ (hz) rfl rfl ?_
          conv => whnf
          refine ⟨by kernel_rfl, fun _ => ?_⟩
          conv => whnf
          exact ⟨[], rfl, rfl, ⟨⟨.inl rfl, .inl rfl, .inl rfl, .inl rfl, .inl rfl, .inl rfl, .inl rfl, trivial⟩, .inl rfl, trivial⟩, trivial⟩
        · have htx := htx rfl
          have hR : ((⟨4, n0, n1, n2, n3, n4, false⟩ : Did), ((lineB ⟨4, n0, n1, n2, n3, n4, false⟩).toList == (s ++ nlB).toList)) = R := hR
          subst hR
          refine acall.pure _ (hz) rfl rfl ?_
          conv => whnf
          refine acall.pure _ (htx) rfl rfl ?_
          conv => whnf
          refine ⟨(show s.size + 1 ≤ _ by exact Nat.le_trans (Nat.succ_le_succ hs) (by decide)), ?_⟩
          conv => whnf
          refine ⟨by kernel_rfl, fun _ => ?_⟩
          conv => whnf
          exact ⟨[], rfl, rfl, ⟨⟨.inl rfl, .inl rfl, .inl rfl, .inl rfl, .inl rfl, .inl rfl, .inl rfl, trivial⟩, .inl rfl, trivial⟩, trivial⟩
      · have hg : RngD ⟨5, n0, n1, 0, 0, 0, false⟩ := (hown 5 (((List.map srow (a :: b :: c :: r)).length : Int) == 6)).resolve_right (by decide)
        rw [hkc] at hR hk
        have hR : ((⟨5, n0, n1, 0, 0, 0, false⟩ : Did), rightD ⟨5, n0, n1, 0, 0, 0, false⟩ && ((lineB ⟨5, n0, n1, 0, 0, 0, false⟩).toList == (s ++ nlB).toList)) = R := hR
        have hz := z_Right ⟨5, n0, n1, 0, 0, 0, false⟩
        have htx := fun h => d_text ⟨5, n0, n1, 0, 0, 0, false⟩ h hg.kind hg
        have hls := lineB_le hg
        conv => whnf
        refine ⟨fun _ => ?_, fun h => absurd rfl h⟩
        conv => whnf
        refine ⟨rfl, (show (0 : Int) ≤ 2 by decide), (show (2 : Int) < ((List.map srow (a :: b :: c :: r)).length : Int) by simp only [List.length_map, List.length_cons]; omega), fun row hrow => ?_⟩
        cases hrow
        conv => whnf
        refine acall.pure _ (hk) rfl rfl ?_
        conv => whnf
        refine ⟨rfl, (show (0 : Int) ≤ 0 by decide), (show (0 : Int) < (((n0 :: n1 :: n2 :: n3 :: n4 :: y).length : Nat) : Int) by simp only [List.length_cons]; omega), ?_⟩
        conv => whnf
        refine ⟨rfl, (by show 0 < ((n0 :: n1 :: n2 :: n3 :: n4 :: y).map irow).length; simp only [List.length_map, List.length_cons]; omega), fun row hrow => ?_⟩
        cases hrow
        refine ⟨Nat.zero_lt_one, fun t ht => ?_⟩
        cases ht
        conv => whnf
        refine ⟨rfl, (show (0 : Int) ≤ 1 by decide), (show (1 : Int) < (((n0 :: n1 :: n2 :: n3 :: n4 :: y).length : Nat) : Int) by simp only [List.length_cons]; omega), ?_⟩
        conv => whnf
        refine ⟨rfl, (by show 1 < ((n0 :: n1 :: n2 :: n3 :: n4 :: y).map irow).length; simp only [List.length_map, List.length_cons]; omega), fun row hrow => ?_⟩
        cases hrow
        refine ⟨Nat.zero_lt_one, fun t ht => ?_⟩
        cases ht
        conv => whnf
        refine ⟨by kernel_rfl, fun _ => ?_⟩
        conv => whnf
        generalize hB : rightD ⟨5, n0, n1, 0, 0, 0, false⟩ = B at hR hz htx
        cases B
        · have hR : ((⟨5, n0, n1, 0, 0, 0, false⟩ : Did), false) = R := hR
          subst hR
          refine acall.pure _ (hz) rfl rfl ?_
          conv => whnf
          refine ⟨by kernel_rfl, fun _ => ?_⟩
          conv => whnf
          exact ⟨[], rfl, rfl, ⟨⟨.inl rfl, .inl rfl, .inl rfl, .inl rfl, .inl rfl, .inl rfl, .inl rfl, trivial⟩, .inl rfl, trivial⟩, trivial⟩
        · have htx := htx rfl
          have hR : ((⟨5, n0, n1, 0, 0, 0, false⟩ : Did), ((lineB ⟨5, n0, n1, 0, 0, 0, false⟩).toList == (s ++ nlB).toList)) = R := hR
          subst hR
          refine acall.pure _ (hz) rfl rfl ?_
          conv => whnf
          refine acall.pure _ (htx) rfl rfl ?_
          conv => whnf
          refine ⟨(show s.size + 1 ≤ _ by exact Nat.le_trans (Nat.succ_le_succ hs) (by decide)), ?_⟩
          conv => whnf
          refine ⟨by kernel_rfl, fun _ => ?_⟩
          conv => whnf
          exact ⟨[], rfl, rfl, ⟨⟨.inl rfl, .inl rfl, .inl rfl, .inl rfl, .inl rfl, .inl rfl, .inl rfl, trivial⟩, .inl rfl, trivial⟩, trivial⟩
      · have hg : RngD ⟨6, n0, n1, 0, n2, 0, false⟩ := (hown 6 (((List.map srow (a :: b :: c :: r)).length : Int) == 6)).resolve_right (by decide)
        rw [hkc] at hR hk
        have hR : ((⟨6, n0, n1, 0, n2, 0, false⟩ : Did), rightD ⟨6, n0, n1, 0, n2, 0, false⟩ && ((lineB ⟨6, n0, n1, 0, n2, 0, false⟩).toList == (s ++ nlB).toList)) = R := hR
        have hz := z_Right ⟨6, n0, n1, 0, n2, 0, false⟩
        have htx := fun h => d_text ⟨6, n0, n1, 0, n2, 0, false⟩ h hg.kind hg
        have hls := lineB_le hg
        conv => whnf
        refine ⟨fun _ => ?_, fun h => absurd rfl h⟩
        conv => whnf
        refine ⟨rfl, (show (0 : Int) ≤ 2 by decide), (show (2 : Int) < ((List.map srow (a :: b :: c :: r)).length : Int) by simp only [List.length_map, List.length_cons]; omega), fun row hrow => ?_⟩
        cases hrow
        conv => whnf
        refine acall.pure _ (hk) rfl rfl ?_
        conv => whnf
        refine ⟨rfl, (show (0 : Int) ≤ 0 by decide), (show (0 : Int) < (((n0 :: n1 :: n2 :: n3 :: n4 :: y).length : Nat) : Int) by simp only [List.length_cons]; omega), ?_⟩
        conv => whnf
        refine ⟨rfl, (by show 0 < ((n0 :: n1 :: n2 :: n3 :: n4 :: y).map irow).length; simp only [List.length_map, List.length_cons]; omega), fun row hrow => ?_⟩
        cases hrow
        refine ⟨Nat.zero_lt_one, fun t ht => ?_⟩
        cases ht
        conv => whnf
        refine ⟨rfl, (show (0 : Int) ≤ 1 by decide), (show (1 : Int) < (((n0 :: n1 :: n2 :: n3 :: n4 :: y).length : Nat) : Int) by simp only [List.length_cons]; omega), ?_⟩
        conv => whnf
        refine ⟨rfl, (by show 1 < ((n0 :: n1 :: n2 :: n3 :: n4 :: y).map irow).length; simp only [List.length_map, List.length_cons]; omega), fun row hrow => ?_⟩
        cases hrow
        refine ⟨Nat.zero_lt_one, fun t ht => ?_⟩
        cases ht
        conv => whnf
        refine ⟨by kernel_rfl, fun _ => ?_⟩
        conv => whnf
        refine ⟨rfl, (show (0 : Int) ≤ 2 by decide), (show (2 : Int) < (((n0 :: n1 :: n2 :: n3 :: n4 :: y).length : Nat) : Int) by simp only [List.length_cons]; omega), ?_⟩
        conv => whnf
        refine ⟨rfl, (by show 2 < ((n0 :: n1 :: n2 :: n3 :: n4 :: y).map irow).length; simp only [List.length_map, List.length_cons]; omega), fun row hrow => ?_⟩
        cases hrow
        refine ⟨Nat.zero_lt_one, fun t ht => ?_⟩
        cases ht
        conv => whnf
        generalize hB : rightD ⟨6, n0, n1, 0, n2, 0, false⟩ = B at hR hz htx
        cases B
        · have hR : ((⟨6, n0, n1, 0, n2, 0, false⟩ : Did), false) = R := hR
          subst hR
          refine acall.pure _ (hz) rfl rfl ?_
          conv => whnf
          refine ⟨by kernel_rfl, fun _ => ?_⟩
          conv => whnf
          exact ⟨[], rfl, rfl, ⟨⟨.inl rfl, .inl rfl, .inl rfl, .inl rfl, .inl rfl, .inl rfl, .inl rfl, trivial⟩, .inl rfl, trivial⟩, trivial⟩
        · have htx := htx rfl
          have hR : ((⟨6, n0, n1, 0, n2, 0, false⟩ : Did), ((lineB ⟨6, n0, n1, 0, n2, 0, false⟩).toList == (s ++ nlB).toList)) = R := hR
          subst hR
          refine acall.pure _ (hz) rfl rfl ?_
          conv => whnf
          refine acall.pure _ (htx) rfl rfl ?_
          conv => whnf
          refine ⟨(show s.size + 1 ≤ _ by exact Nat.le_trans (Nat.succ_le_succ hs) (by decide)), ?_⟩
          conv => whnf
          refine ⟨by kernel_rfl, fun _ => ?_⟩
          conv => whnf
          exact ⟨[], rfl, rfl, ⟨⟨.inl rfl, .inl rfl, .inl rfl, .inl rfl, .inl rfl, .inl rfl, .inl rfl, trivial⟩, .inl rfl, trivial⟩, trivial⟩
      · have hg : RngD ⟨7, n0, n1, 0, 0, 0, false⟩ := (hown 7 (((List.map srow (a :: b :: c :: r)).length : Int) == 6)).resolve_right (by decide)
        rw [hkc] at hR hk
        have hR : ((⟨7, n0, n1, 0, 0, 0, false⟩ : Did), rightD ⟨7, n0, n1, 0, 0, 0, false⟩ && ((lineB ⟨7, n0, n1, 0, 0, 0, false⟩).toList == (s ++ nlB).toList)) = R := hR
        have hz := z_Right ⟨7, n0, n1, 0, 0, 0, false⟩
        have htx := fun h => d_text ⟨7, n0, n1, 0, 0, 0, false⟩ h hg.kind hg
        have hls := lineB_le hg
        conv => whnf
        refine ⟨fun _ => ?_, fun h => absurd rfl h⟩
        conv => whnf
        refine ⟨rfl, (show (0 : Int) ≤ 2 by decide), (show (2 : Int) < ((List.map srow (a :: b :: c :: r)).length : Int) by simp only [List.length_map, List.length_cons]; omega), fun row hrow => ?_⟩
        cases hrow
        conv => whnf
        refine acall.pure _ (hk) rfl rfl ?_
        conv => whnf
        refine ⟨rfl, (show (0 : Int) ≤ 0 by decide), (show (0 : Int) < (((n0 :: n1 :: n2 :: n3 :: n4 :: y).length : Nat) : Int) by simp only [List.length_cons]; omega), ?_⟩
        conv => whnf
        refine ⟨rfl, (by show 0 < ((n0 :: n1 :: n2 :: n3 :: n4 :: y).map irow).length; simp only [List.length_map, List.length_cons]; omega), fun row hrow => ?_⟩
        cases hrow
        refine ⟨Nat.zero_lt_one, fun t ht => ?_⟩
        cases ht
        conv => whnf
        refine ⟨rfl, (show (0 : Int) ≤ 1 by decide), (show (1 : Int) < (((n0 :: n1 :: n2 :: n3 :: n4 :: y).length : Nat) : Int) by simp only [List.length_cons]; omega), ?_⟩
        conv => whnf
        refine ⟨rfl, (by show 1 < ((n0 :: n1 :: n2 :: n3 :: n4 :: y).map irow).length; simp only [List.length_map, List.length_cons]; omega), fun row hrow => ?_⟩
        cases hrow
        refine ⟨Nat.zero_lt_one, fun t ht => ?_⟩
        cases ht
        conv => whnf
        refine ⟨by kernel_rfl, fun _ => ?_⟩
        conv => whnf
        generalize hB : rightD ⟨7, n0, n1, 0, 0, 0, false⟩ = B at hR hz htx
        cases B
        · have hR : ((⟨7, n0, n1, 0, 0, 0, false⟩ : Did), false) = R := hR
          subst hR
          refine acall.pure _ (hz) rfl rfl ?_
          conv => whnf
          refine ⟨by kernel_rfl, fun _ => ?_⟩
          conv => whnf
          exact ⟨[], rfl, rfl, ⟨⟨.inl rfl, .inl rfl, .inl rfl, .inl rfl, .inl rfl, .inl rfl, .inl rfl, trivial⟩, .inl rfl, trivial⟩, trivial⟩
        · have htx := htx rfl
          have hR : ((⟨7, n0, n1, 0, 0, 0, false⟩ : Did), ((lineB ⟨7, n0, n1, 0, 0, 0, false⟩).toList == (s ++ nlB).toList)) = R := hR
          subst hR
          refine acall.pure _ (hz) rfl rfl ?_
          conv => whnf
          refine acall.pure _ (htx) rfl rfl ?_
          conv => whnf
          refine ⟨(show s.size + 1 ≤ _ by exact Nat.le_trans (Nat.succ_le_succ hs) (by decide)), ?_⟩
          conv => whnf
          refine ⟨by kernel_rfl, fun _ => ?_⟩
          conv => whnf
          exact ⟨[], rfl, rfl, ⟨⟨.inl rfl, .inl rfl, .inl rfl, .inl rfl, .inl rfl, .inl rfl, .inl rfl, trivial⟩, .inl rfl, trivial⟩, trivial⟩
      · have hg : RngD ⟨8, n0, n1, n2, n3, 0, false⟩ := (hown 8 (((List.map srow (a :: b :: c :: r)).length : Int) == 6)).resolve_right (by decide)
        rw [hkc] at hR hk
        have hR : ((⟨8, n0, n1, n2, n3, 0, false⟩ : Did), rightD ⟨8, n0, n1, n2, n3, 0, false⟩ && ((lineB ⟨8, n0, n1, n2, n3, 0, false⟩).toList == (s ++ nlB).toList)) = R := hR
        have hz := z_Right ⟨8, n0, n1, n2, n3, 0, false⟩
        have htx := fun h => d_text ⟨8, n0, n1, n2, n3, 0, false⟩ h hg.kind hg
        have hls := lineB_le hg
        conv => whnf
        refine ⟨fun _ => ?_, fun h => absurd rfl h⟩
        conv => whnf
        refine ⟨rfl, (show (0 : Int) ≤ 2 by decide), (show (2 : Int) < ((List.map srow (a :: b :: c :: r)).length : Int) by simp only [List.length_map, List.length_cons]; omega), fun row hrow => ?_⟩
        cases hrow
        conv => whnf
        refine acall.pure _ (hk) rfl rfl ?_
        conv => whnf
        refine ⟨rfl, (show (0 : Int) ≤ 0 by decide), (show (0 : Int) < (((n0 :: n1 :: n2 :: n3 :: n4 :: y).length : Nat) : Int) by simp only [List.length_cons]; omega), ?_⟩
        conv => whnf
        refine ⟨rfl, (by show 0 < ((n0 :: n1 :: n2 :: n3 :: n4 :: y).map irow).length; simp only [List.length_map, List.length_cons]; omega), fun row hrow => ?_⟩
        cases hrow
        refine ⟨Nat.zero_lt_one, fun t ht => ?_⟩
        cases ht
        conv => whnf
        refine ⟨rfl, (show (0 : Int) ≤ 1 by decide), (show (1 : Int) < (((n0 :: n1 :: n2 :: n3 :: n4 :: y).length : Nat) : Int) by simp only [List.length_cons]; omega), ?_⟩
        conv => whnf
        refine ⟨rfl, (by show 1 < ((n0 :: n1 :: n2 :: n3 :: n4 :: y).map irow).length; simp only [List.length_map, List.length_cons]; omega), fun row hrow => ?_⟩
        cases hrow
        refine ⟨Nat.zero_lt_one, fun t ht => ?_⟩
        cases ht
        conv => whnf
        refine ⟨by kernel_rfl, fun _ => ?_⟩
        conv => whnf
        refine ⟨rfl, (show (0 : Int) ≤ 2 by decide), (show (2 : Int) < (((n0 :: n1 :: n2 :: n3 :: n4 :: y).length : Nat) : Int) by simp only [List.length_cons]; omega), ?_⟩
        conv => whnf
        refine ⟨rfl, (by show 2 < ((n0 :: n1 :: n2 :: n3 :: n4 :: y).map irow).length; simp only [List.length_map, List.length_cons]; omega), fun row hrow => ?_⟩
        cases hrow
        refine ⟨Nat.zero_lt_one, fun t ht => ?_⟩
        cases ht
        conv => whnf
        refine ⟨rfl, (show (0 : Int) ≤ 3 by decide), (show (3 : Int) < (((n0 :: n1 :: n2 :: n3 :: n4 :: y).length : Nat) : Int) by simp only [List.length_cons]; omega), ?_⟩
        conv => whnf
        refine ⟨rfl, (by show 3 < ((n0 :: n1 :: n2 :: n3 :: n4 :: y).map irow).length; simp only [List.length_map, List.length_cons]; omega), fun row hrow => ?_⟩
        cases hrow
        refine ⟨Nat.zero_lt_one, fun t ht => ?_⟩
        cases ht
        conv => whnf
        generalize hB : rightD ⟨8, n0, n1, n2, n3, 0, false⟩ = B at hR hz htx
        cases B
        · have hR : ((⟨8, n0, n1, n2, n3, 0, false⟩ : Did), false) = R := hR
          subst hR
          refine acall.pure _ (hz) rfl rfl ?_
          conv => whnf
          refine ⟨by kernel_rfl, fun _ => ?_⟩
          conv => whnf
          exact ⟨[], rfl, rfl, ⟨⟨.inl rfl, .inl rfl, .inl rfl, .inl rfl, .inl rfl, .inl rfl, .inl rfl, trivial⟩, .inl rfl, trivial⟩, trivial⟩
        · have htx := htx rfl
          have hR : ((⟨8, n0, n1, n2, n3, 0, false⟩ : Did), ((lineB ⟨8, n0, n1, n2, n3, 0, false⟩).toList == (s ++ nlB).toList)) = R := hR
          subst hR
          refine acall.pure _ (hz) rfl rfl ?_
          conv => whnf
          refine acall.pure _ (htx) rfl rfl ?_
          conv => whnf
          refine ⟨(show s.size + 1 ≤ _ by exact Nat.le_trans (Nat.succ_le_succ hs) (by decide)), ?_⟩
          conv => whnf
          refine ⟨by kernel_rfl, fun _ => ?_⟩
          conv => whnf
          exact ⟨[], rfl, rfl, ⟨⟨.inl rfl, .inl rfl, .inl rfl, .inl rfl, .inl rfl, .inl rfl, .inl rfl, trivial⟩, .inl rfl, trivial⟩, trivial⟩
end Go.Proofs.YtcpolpbeimhgfaaGreatDoor.am

namespace Go.Proofs.YtcpolpbeimhgfaaGreatDoor.am
open Go Go.Proofs
set_option linter.all false

theorem idx_nl {s : ByteArray} {w r : List UInt8} (h : s.data.toList = w ++ 10 :: r) (hw : 10 ∉ w) : idxNl s = (w.length : Int) := by
  unfold idxNl
  rw [h]
  exact ib_at w r hw
theorem cutS_at {s : ByteArray} {w r : List UInt8} (h : s.data.toList = w ++ 10 :: r) (hw : 10 ∉ w) : cutS s = (mkB w, mkB r, true) := by
  unfold cutS
  rw [idx_nl h hw, show decide (((w.length : Nat) : Int) ≥ 0) = true by simp, cond_true, Int.toNat_natCast]
  have e1 : s.extract 0 w.length = mkB w := by
    have := ext_mk (s := s) (i := 0) (w := w) (r := 10 :: r) h
    rwa [Nat.zero_add] at this
  have e2 : s.extract (w.length + 1) s.size = mkB r := by
    apply ba_ext
    rw [ext_end, mkB_data, h, List.drop_append]
    simp
  rw [e1, e2]
theorem cutS_no {s : ByteArray} (h : 10 ∉ s.data.toList) : cutS s = (s, emB, false) := by
  unfold cutS
  have e : idxNl s = -1 := by unfold idxNl; exact ib_none _ h
  rw [e]; rfl
theorem emB_ne {s : ByteArray} (h : s.data.toList ≠ []) : (s.toList != emB.toList) = true := by
  rw [bne_iff_ne, ByteArray.toList_eq, ByteArray.toList_eq]
  exact h
theorem emB_is {s : ByteArray} (h : (s.toList != emB.toList) = false) : s = emB := by
  have h : s.toList = emB.toList := by simpa using h
  exact seq_ba.1 (beq_iff_eq.2 h)
def linesL (l : List Did) : List UInt8 := l.flatMap fun d => (lineB d).data.toList
theorem linesL_cons (d : Did) (l : List Did) : linesL (d :: l) = (joinB (lineW d)).data.toList ++ 10 :: linesL l := by
  unfold linesL
  rw [List.flatMap_cons]
  have : (lineB d).data.toList = (joinB (lineW d)).data.toList ++ [10] := by unfold lineB nlB; simp
  rw [this, List.append_assoc]; rfl
theorem prtL_eq : ∀ (l : List Did) (acc : List UInt8), acc.length ≤ 4194304 → prtL acc l = bif decide ((acc ++ linesL l).length > 4194304) then none else some (acc ++ linesL l)
  | [], acc, h => by
    have e : acc ++ linesL [] = acc := by simp [linesL]
    rw [e, show decide (acc.length > 4194304) = false from decide_eq_false (by omega)]
    rfl
  | d :: l, acc, h => by
    have hz := lineB_size d
    have e : acc ++ linesL (d :: l) = (acc ++ (lineB d).data.toList) ++ linesL l := by unfold linesL; rw [List.flatMap_cons, List.append_assoc]
    rw [e]
    show (bif decide ((acc.length : Int) + ((lineB d).size : Int) > 4194304) then none else prtL (acc ++ (lineB d).data.toList) l) = _
    cases hb : decide ((acc.length : Int) + ((lineB d).size : Int) > 4194304) with
    | true =>
      have := of_decide_eq_true hb
      rw [show decide (((acc ++ (lineB d).data.toList) ++ linesL l).length > 4194304) = true from decide_eq_true (by simp only [List.length_append]; omega)]
      rfl
    | false =>
      have := of_decide_eq_false hb
      exact prtL_eq l _ (by rw [List.length_append]; omega)
/-- a run's text, and why there is none -/
def prtS (l : List Did) : ByteArray × Int := bif l.all rightD then prtB (prtL [] l) else (⟨#[]⟩, 190)
theorem prtS_ok {l : List Did} {t : ByteArray} (h : prtS l = (t, 0)) : l.all rightD = true ∧ t = mkB (linesL l) ∧ (linesL l).length ≤ 4194304 := by
  unfold prtS at h
  cases hr : l.all rightD with
  | false => rw [hr] at h; cases h
  | true =>
    rw [hr, cond_true, prtL_eq l [] (Nat.zero_le _), List.nil_append] at h
    cases hb : decide ((linesL l).length > 4194304) with
    | true => rw [hb] at h; cases h
    | false =>
      rw [hb] at h
      have := of_decide_eq_false hb
      cases h
      exact ⟨rfl, rfl, by omega⟩
theorem prtS_of {l : List Did} (hr : l.all rightD = true) (hl : (linesL l).length ≤ 4194304) : prtS l = (mkB (linesL l), 0) := by
  unfold prtS
  rw [hr, cond_true, prtL_eq l [] (Nat.zero_le _), List.nil_append, show decide ((linesL l).length > 4194304) = false from decide_eq_false (by omega)]
  rfl
theorem readP_fwd : ∀ (l : List Did) (f n : Nat) (out : List Did), (∀ d ∈ l, rightD d = true ∧ RngD d) → (linesL l).length < f → readP f (mkB (linesL l)) n out = (out ++ l, 0, 0)
  | [], f, n, out, _, hf => by
    cases f with
    | zero => omega
    | succ f =>
      show (bif (mkB (linesL [])).toList != emB.toList then _ else (out, 0, 0)) = _
      rw [show ((mkB (linesL [])).toList != emB.toList) = false from emB_eq rfl, List.append_nil]; rfl
  | d :: l, f, n, out, h, hf => by
    cases f with
    | zero => omega
    | succ f =>
      obtain ⟨hr, hg⟩ := h d (.head _)
      have hs := line_split hr hg.kind
      have hc : cutS (mkB (linesL (d :: l))) = (mkB (joinB (lineW d)).data.toList, mkB (linesL l), true) := cutS_at (by rw [mkB_data, linesL_cons]) hs.2
      rw [mkB_of] at hc
      have hd : didL (joinB (lineW d)) = (d, ⟨[], true⟩) := did_fwd hr hg rfl
      show (bif (mkB (linesL (d :: l))).toList != emB.toList then (bif !(cutS (mkB (linesL (d :: l)))).2.2 || !(didOk (didL (cutS (mkB (linesL (d :: l)))).1)) then ([], 191, (n : Int)) else readP f (cutS (mkB (linesL (d :: l)))).2.1 (n + 1) (out ++ [(didL (cutS (mkB (linesL (d :: l)))).1).1])) else (out, 0, 0)) = _
      rw [emB_ne (by rw [mkB_data, linesL_cons]; simp), hc, hd]
      have ho : didOk (d, ⟨[], true⟩) = true := by unfold didOk; rw [hr]; rfl
      rw [ho]
      show readP f (mkB (linesL l)) (n + 1) (out ++ [d]) = _
      rw [readP_fwd l f (n + 1) (out ++ [d]) (fun x hx => h x (.tail _ hx)) (by rw [linesL_cons, List.length_append, List.length_cons] at hf; omega), List.append_assoc]
      rfl
theorem readP_back : ∀ (f : Nat) (s : ByteArray) (n : Nat) (out m : List Did) (w p : Int), readP f s n out = (m, w, p) → s.size < f →
    (w ≠ 0 ∧ m = []) ∨ (w = 0 ∧ p = 0 ∧ ∃ l, m = out ++ l ∧ s.data.toList = linesL l ∧ ∀ d ∈ l, rightD d = true ∧ RngD d)
  | 0, s, _, _, _, _, _, _, h => by omega
  | f + 1, s, n, out, m, w, p, h, hf => by
    have h : (bif s.toList != emB.toList then (bif !(cutS s).2.2 || !(didOk (didL (cutS s).1)) then ([], 191, (n : Int)) else readP f (cutS s).2.1 (n + 1) (out ++ [(didL (cutS s).1).1])) else (out, 0, 0)) = (m, w, p) := h
    cases hb : (s.toList != emB.toList) with
    | false =>
      rw [hb] at h
      cases h
      obtain rfl := emB_is hb
      exact .inr ⟨rfl, rfl, [], (List.append_nil _).symm, rfl, fun d hd => by cases hd⟩
    | true =>
      rw [hb, cond_true] at h
      rcases cutAt 10 s.data.toList with hc | ⟨a, r, ha, he⟩
      · rw [cutS_no hc] at h
        cases h
        exact .inl ⟨by decide, rfl⟩
      · have hz := dat_len s
        rw [cutS_at he ha] at h
        simp only [Bool.not_true, Bool.false_or] at h
        cases ho : didOk (didL (mkB a)) with
        | false => rw [ho] at h; cases h; exact .inl ⟨by decide, rfl⟩
        | true =>
          rw [ho] at h
          obtain ⟨e1, e2, e3⟩ := did_back ho
          have h : readP f (mkB r) (n + 1) (out ++ [(didL (mkB a)).1]) = (m, w, p) := h
          have hz2 := congrArg List.length he
          rw [List.length_append, List.length_cons] at hz2
          rcases readP_back f (mkB r) (n + 1) _ m w p h (by rw [mkB_size]; omega) with q | ⟨q1, q2, l, q3, q4, q5⟩
          · exact .inl q
          · refine .inr ⟨q1, q2, (didL (mkB a)).1 :: l, by rw [q3, List.append_assoc]; rfl, ?_, fun d hd => ?_⟩
            · have e4 := congrArg (fun x : ByteArray => x.data.toList) e1
              simp only [ByteArray.data_append, Array.toList_append, mkB_data] at e4
              unfold linesL
              rw [List.flatMap_cons, e4, he]
              rw [mkB_data] at q4
              show a ++ 10 :: r = a ++ [10] ++ linesL l
              rw [← q4, List.append_assoc]; rfl
            · rcases List.mem_cons.1 hd with rfl | hd
              · exact ⟨e2, e3⟩
              · exact q5 d hd
theorem parseP_fwd {l : List Did} (h : ∀ d ∈ l, rightD d = true ∧ RngD d) (hl : (linesL l).length ≤ 4194304) : parseP (mkB (linesL l)) = (l, 0, 0) := by
  unfold parseP
  rw [mkB_size, show decide (((linesL l).length : Int) > 4194304) = false from decide_eq_false (by omega)]
  exact readP_fwd l _ 1 [] h (by omega)
theorem parseP_back (s : ByteArray) : ((parseP s).2.1 ≠ 0 ∧ (parseP s).1 = []) ∨ ((parseP s).2.1 = 0 ∧ s = mkB (linesL (parseP s).1) ∧ (linesL (parseP s).1).length ≤ 4194304 ∧ ∀ d ∈ (parseP s).1, rightD d = true ∧ RngD d) := by
  unfold parseP
  cases hb : decide ((s.size : Int) > 4194304) with
  | true => exact .inl ⟨(show (4 : Int) ≠ 0 by decide), rfl⟩
  | false =>
    have hs := of_decide_eq_false hb
    rw [cond_false]
    generalize hR : readP (s.size + 1) s 1 [] = R
    obtain ⟨m, w, p⟩ := R
    rcases readP_back (s.size + 1) s 1 [] m w p hR (by omega) with ⟨q1, q2⟩ | ⟨q1, q2, l, q3, q4, q5⟩
    · exact .inl ⟨q1, q2⟩
    · rw [List.nil_append] at q3
      have hz := dat_len s
      subst q3
      exact .inr ⟨q1, ba_ext (by rw [mkB_data]; exact q4), by rw [← q4]; show s.data.toList.length ≤ 4194304; omega, q5⟩
end Go.Proofs.YtcpolpbeimhgfaaGreatDoor.am

namespace Go.Proofs.YtcpolpbeimhgfaaGreatDoor.am
open Go Go.Proofs
set_option linter.all false

theorem at_split {s : ByteArray} {a i : Nat} {b : UInt8} (ha : a ≤ i) (h : s[i]? = some b) : s.data.toList.drop a = (s.data.toList.drop a).take (i - a) ++ b :: s.data.toList.drop (i + 1) := by
  have hd : s.data.toList.drop i = b :: s.data.toList.drop (i + 1) := by
    have hlt : i < s.size := by
      by_cases hlt : i < s.size
      · exact hlt
      · rw [getElem?_neg s i hlt] at h; cases h
    rw [getElem?_pos s i hlt] at h
    have hl : i < s.data.toList.length := by rw [dat_len]; exact hlt
    rw [List.drop_eq_getElem_cons hl]
    congr 1
    have := Option.some.inj h
    rw [← this]
    exact Array.getElem_toList _
  have e : s.data.toList.drop i = (s.data.toList.drop a).drop (i - a) := by rw [List.drop_drop, show a + (i - a) = i by omega]
  rw [← hd, e, List.take_append_drop]
theorem take_succ_at {s : ByteArray} {a i : Nat} {b : UInt8} (ha : a ≤ i) (h : s[i]? = some b) : (s.data.toList.drop a).take (i + 1 - a) = (s.data.toList.drop a).take (i - a) ++ [b] := by
  have e := at_split ha h
  have hl : ((s.data.toList.drop a).take (i - a)).length = i - a := by
    rw [List.length_take]
    have := congrArg List.length e
    rw [List.length_append, List.length_take, List.length_cons] at this
    omega
  generalize (s.data.toList.drop a).take (i - a) = t at e hl
  rw [e, show i + 1 - a = t.length + 1 by omega, List.take_append]
  simp [List.take_of_length_le (Nat.le_succ t.length)]
theorem cutS_in {s : ByteArray} {a i : Nat} (ha : a ≤ i) (h : s[i]? = some 10) (hn : 10 ∉ (s.data.toList.drop a).take (i - a)) : cutS (s.extract a s.size) = (s.extract a i, s.extract (i + 1) s.size, true) := by
  have e := at_split ha h
  have hc := cutS_at (s := s.extract a s.size) (by rw [ext_end]; exact e) hn
  have e1 : mkB ((s.data.toList.drop a).take (i - a)) = s.extract a i := by
    apply ba_ext
    rw [mkB_data, ext_data, List.drop_take]
  have e2 : mkB (s.data.toList.drop (i + 1)) = s.extract (i + 1) s.size := by
    apply ba_ext
    rw [mkB_data, ext_end]
  rw [hc, e1, e2]
theorem readP_step (f : Nat) (s : ByteArray) (n : Nat) (l : List Did) : readP (f + 1) s n l = bif s.toList != emB.toList then (bif !(cutS s).2.2 || !(didOk (didL (cutS s).1)) then ([], 191, (n : Int)) else readP f (cutS s).2.1 (n + 1) (l ++ [(didL (cutS s).1).1])) else (l, 0, 0) := rfl
theorem ext_size (s : ByteArray) (a b : Nat) : (s.extract a b).size = min b s.size - a := ByteArray.size_extract
set_option maxRecDepth 100000 in
set_option maxHeartbeats 4000000 in
theorem z_parse (s : ByteArray) : K 8 [.tr (ts s)] [] (.ret (.tup [.tr (didsT (parseP s).1), .tr (ti (parseP s).2.1), .tr (ti (parseP s).2.2)])) [] := by
  generalize hP : parseP s = P
  unfold parseP at hP
  refine Ctr.of hT hmix Tryz.func8 rfl (fun _ _ => by kernel_rfl) rfl fun hok => ?_
  clear hok
  conv => whnf
  refine csplit (fun h1 => ?_) (fun h1 => ?_)
  · replace h1 : decide ((s.size : Int) > 4194304) = true := h1
    rw [h1] at hP
    subst hP
    conv => whnf
    exact ⟨⟨.inr ⟨rfl, _, _, rfl⟩, .inl rfl, .inl rfl, trivial⟩, trivial⟩
  replace h1 : decide ((s.size : Int) > 4194304) = false := h1
  rw [h1] at hP
  have hP : readP (s.size + 1) s 1 [] = P := hP
  have hs : s.size ≤ 4194304 := by have := of_decide_eq_false h1; omega
  conv => whnf
  refine LoopL.by (fun x : List Did × (Nat × Nat × Nat) => ⟨[(0, .tr (ts s)), (5, .sl 0 x.1.length), (6, .tr (ti x.2.1)), (7, .tr (ti x.2.2.1)), (8, .tr (ti x.2.2.2))], [(0, diW x.1)], 10⟩)
    (fun x => x.2.2.1 ≤ x.2.2.2 ∧ x.2.2.2 ≤ s.size ∧ x.1.length + 1 = x.2.1 ∧ x.2.1 ≤ x.2.2.1 + 1 ∧ 10 ∉ (s.data.toList.drop x.2.2.1).take (x.2.2.2 - x.2.2.1) ∧ readP (s.size - x.2.2.1 + 1) (s.extract x.2.2.1 s.size) x.2.1 x.1 = P) (fun x => s.size - x.2.2.2) ([], 1, 0, 0) [] [0]
    (Sub.mk' rfl ⟨.inl rfl, ⟨rfl, rfl, rfl, rfl⟩, .inl rfl, .inl rfl, .inl rfl, trivial⟩ ⟨⟨rfl, _, _, _, rfl, by decide⟩, trivial⟩ rfl rfl)
    ⟨Nat.le_refl _, Nat.zero_le _, rfl, Nat.le_refl _, by simp, (by rw [Nat.sub_zero, ByteArray.extract_zero_size]; exact hP)⟩ ?_
  rintro ⟨out, n, a, i⟩ ⟨hai, his, hn, hna, hno, hR⟩ -
  simp only at hai his hn hna hno hR
  have hi1 : IntKind.i64.wrap ((i : Int) + 1) = ((i + 1 : Nat) : Int) := by rw [w64 (by omega) (by omega)]; omega
  have hn1 : IntKind.i64.wrap ((n : Int) + 1) = ((n + 1 : Nat) : Int) := by rw [w64 (by omega) (by omega)]; omega
  conv => whnf
  refine csplit (fun h2 => ?_) (fun h2 => ?_)
  · have hlt : i < s.size := by have : decide ((i : Int) < (s.size : Int)) = true := h2; have := of_decide_eq_true this; omega
    conv => whnf
    refine ⟨(show (0 : Int) ≤ i by omega), (show (i : Int) < s.size by omega), fun b hb => ?_⟩
    replace hb : s[i]? = some b := hb
    conv => whnf
    refine csplit (fun h3 => ?_) (fun h3 => ?_)
    · replace h3 : ((b.toNat : Int) != 10) = true := h3
      have hb10 : b ≠ 10 := fun e => by rw [e] at h3; simp at h3
      conv => whnf
      refine ⟨fun _ => ?_, fun h => absurd rfl h⟩
      conv => whnf
      exact ⟨(out, n, a, i + 1), [0], [], Sub.mk' rfl ⟨.inl rfl, ⟨rfl, rfl⟩, .inl rfl, .inl rfl, .inl (congrArg ti hi1), trivial⟩ ⟨⟨rfl, rfl, rfl, rfl⟩, trivial⟩ rfl rfl, ⟨by show a ≤ i + 1; omega, hlt, hn, hna, by
        show 10 ∉ (s.data.toList.drop a).take (i + 1 - a)
        rw [take_succ_at hai hb, List.mem_append, not_or]
        refine ⟨hno, ?_⟩
        simp only [List.mem_cons, List.not_mem_nil, or_false]
        exact fun e => hb10 e.symm, hR⟩, by show s.size - (i + 1) < s.size - i; omega⟩
    · replace h3 : ((b.toNat : Int) != 10) = false := h3
      have hb10 : b = 10 := by
        have : (b.toNat : Int) = 10 := by simpa using h3
        exact UInt8.toNat_inj.1 (by have h : b.toNat = 10 := by omega
                                    rw [h]; rfl)
      subst hb10
      have hc := cutS_in hai hb hno
      have hne : ((s.extract a s.size).toList != emB.toList) = true := emB_ne (by
        rw [ext_end, at_split hai hb]; simp)
      rw [readP_step, hne, hc] at hR
      simp only [cond_true, Bool.not_true, Bool.false_or] at hR
      have hd := d_read (s.extract a i) (by rw [ext_size]; omega)
      obtain ⟨q1, q2⟩ := read_eq (s.extract a i)
      rw [← q1] at hR q2
      generalize didL (s.extract a i) = X at hR q2
      generalize readS (s.extract a i) = D at hd hR q2
      obtain ⟨⟨dk, dc, da, dd, dw, dp, dn⟩, okd⟩ := D
      simp only at hd hR q2
      conv => whnf
      refine ⟨(show (0 : Int) ≤ a by omega), (show (a : Int) ≤ i by omega), (show (i : Int) ≤ s.size by omega), ?_⟩
      conv => whnf
      refine acall.pure _ (hd) rfl rfl fun _ => ?_
      conv => whnf
      cases okd
      · have hR : (([] : List Did), (191 : Int), (n : Int)) = P := hR
        subst hR
        conv => whnf
        exact ⟨⟨.inr ⟨rfl, _, _, rfl⟩, .inl rfl, .inl rfl, trivial⟩, trivial⟩
      · rw [← q2 rfl] at hR
        have hR : readP (s.size - a) (s.extract (i + 1) s.size) (n + 1) (out ++ [⟨dk, dc, da, dd, dw, dp, dn⟩]) = P := hR
        rw [readP_fuel (s.size - a) (s.size - (i + 1) + 1) _ _ _ (by rw [ext_size]; omega) (by rw [ext_size]; omega)] at hR
        have hda : (out.map Did.cells).take out.length ++ [[tu dk, ti dc, ti da, ti dd, ti dw, ti dp, tb dn]] = (out ++ [Did.mk dk dc da dd dw dp dn]).map Did.cells := by rw [List.take_of_length_le (by simp), List.map_append]; rfl
        conv => whnf
        refine ⟨rfl, rfl, rfl, (by rw [List.length_map]; exact Nat.le_refl _), (show (out.length + 1) * 56 ≤ 150000000000000 by omega), fun q hq => ?_, ?_⟩
        · cases hq with
          | head => exact Nat.ne_of_beq_eq_false rfl
          | tail _ h => cases h
        conv => whnf
        exact ⟨(out ++ [Did.mk dk dc da dd dw dp dn], n + 1, i + 1, i + 1), [_], [], Sub.mk' rfl ⟨.inl rfl, ⟨rfl, by simp⟩, .inl (congrArg ti hn1), .inl (congrArg ti hi1), .inl (congrArg ti hi1), trivial⟩ ⟨⟨rfl, rfl, rfl, hda⟩, trivial⟩ rfl rfl, ⟨Nat.le_refl _, hlt, by show (out ++ _).length + 1 = n + 1; simp; omega, by show n + 1 ≤ i + 1 + 1; omega, by simp, hR⟩, by show s.size - (i + 1) < s.size - i; omega⟩
  · have hge : i = s.size := by have : decide ((i : Int) < (s.size : Int)) = false := h2; have := of_decide_eq_false this; omega
    subst hge
    rw [List.take_of_length_le (by rw [List.length_drop, dat_len]; exact Nat.le_refl _)] at hno
    conv => whnf
    refine ⟨fun _ => ?_, fun h => absurd rfl h⟩
    conv => whnf
    refine csplit (fun h3 => ?_) (fun h3 => ?_)
    · have hlt : a < s.size := by have : decide ((a : Int) < (s.size : Int)) = true := h3; have := of_decide_eq_true this; omega
      have hne : ((s.extract a s.size).toList != emB.toList) = true := emB_ne (by
        rw [ext_end]
        intro e
        have := congrArg List.length e
        rw [List.length_drop, dat_len, List.length_nil] at this
        omega)
      rw [readP_step, hne, cutS_no (by rw [ext_end]; exact hno)] at hR
      have hR : (([] : List Did), (191 : Int), (n : Int)) = P := hR
      subst hR
      conv => whnf
      exact ⟨⟨.inr ⟨rfl, _, _, rfl⟩, .inl rfl, .inl rfl, trivial⟩, trivial⟩
    · have hge : a = s.size := by have : decide ((a : Int) < (s.size : Int)) = false := h3; have := of_decide_eq_false this; omega
      subst hge
      have hne : ((s.extract s.size s.size).toList != emB.toList) = false := emB_eq (by rw [ext_size]; omega)
      rw [readP_step, hne] at hR
      have hR : (out, (0 : Int), (0 : Int)) = P := hR
      subst hR
      conv => whnf
      exact ⟨⟨⟨rfl, by rw [List.length_map]; exact Nat.le_refl _, by rw [List.take_of_length_le (by simp)]⟩, .inl rfl, .inl rfl, trivial⟩, trivial⟩
end Go.Proofs.YtcpolpbeimhgfaaGreatDoor.am

namespace Go.Proofs.YtcpolpbeimhgfaaGreatDoor.am
open Go Go.Proofs
set_option linter.all false

theorem srcRows_bytes {m : Mem} {h e n : Nat} {l : List UInt8} (hm : m h = some (.vec e 1 1 (brows l))) (hn : n = l.length) : srcRows 1 m (.sl h n) = some (brows l, [(h, .vec e 1 1 (brows l))]) := by
  subst hn
  show (match m h with | some (.vec e n' B rows) => bif Nat.beq 1 n' && Nat.ble l.length rows.length then some (rows.take l.length, [(h, Blk.vec e n' B rows)]) else none | _ => none) = _
  rw [hm]
  simp only [Nat.beq_refl, Bool.true_and]
  rw [show Nat.ble l.length (brows l).length = true from Nat.ble_eq_true_of_le (by simp [brows]), List.take_of_length_le (by simp [brows])]
  rfl
theorem t_prints (l : List Did) : K 5 [.tr (didsT l)] [] (.ret (.tup [.tr (ts (prtS l).1), .tr (ti (prtS l).2)])) [] := by
  unfold prtS
  cases h : l.all rightD with
  | false => exact t_printR l h
  | true =>
    cases l with
    | nil => exact t_print0
    | cons d l => exact t_print (d :: l) h (by simp)
theorem linesL_take {l : List Did} {j : Nat} {d : Did} (h : l[j]? = some d) : linesL (l.take (j + 1)) = linesL (l.take j) ++ (lineB d).data.toList := by
  rw [List.take_succ, h]
  simp [linesL]
set_option maxRecDepth 100000 in
set_option maxHeartbeats 4000000 in
theorem z_prints (l : List Did) : K 6 [.tr (didsT l)] [] (.ret (.tup [.tr (ts (prtS l).1), .tr (ti (prtS l).2)])) [] := by
  have hr := z_Rights l
  generalize hP : prtS l = P
  unfold prtS at hP
  refine Ctr.new [] hT hmix Tryz.func6 rfl (fun _ _ => by kernel_rfl) rfl fun hok => ?_
  obtain ⟨hB, hl63, hrows⟩ := (hok.slot 0 rfl).tr.lst
  have hrng : ∀ d ∈ l, RngD d := fun d hd => rng_of (hrows d.cells (List.mem_map_of_mem hd)).2
  have hlm : (l.map Did.cells).length = l.length := List.length_map ..
  rw [hlm] at hl63
  clear hok hrows
  cases hall : l.all rightD with
  | false =>
    rw [hall] at hr hP
    have hP : ((⟨#[]⟩ : ByteArray), (190 : Int)) = P := hP
    subst hP
    conv => whnf
    refine acall.pure _ (hr) rfl rfl fun _ => ?_
    conv => whnf
    exact ⟨[], rfl, rfl, ⟨⟨.inl rfl, .inl rfl, trivial⟩, trivial⟩⟩
  | true =>
    rw [hall] at hr hP
    have hP : prtB (prtL [] l) = P := hP
    rw [List.all_eq_true] at hall
    conv => whnf
    refine acall.pure _ (hr) rfl rfl fun _ => ?_
    conv => whnf
    refine LoopL.by (fun x : Nat × Nat => ⟨[(0, .tr (didsT l)), (4, .tr (ti x.1)), (13, .tr (didsT l)), (14, .tr (ti (l.length : Int))), (15, .tr (ti x.2))], [], 10⟩)
      (fun x => x.2 ≤ l.length ∧ x.1 = (linesL (l.take x.2)).length ∧ x.1 ≤ 4194304) (fun x => l.length - x.2) (0, 0) [] [] (Sub.mk' rfl ⟨.inl rfl, .inl rfl, .inl rfl, .inl (by rw [← hlm]), .inl rfl, trivial⟩ trivial rfl rfl) ⟨Nat.zero_le _, rfl, Nat.zero_le _⟩ ?_
    rintro ⟨n, j⟩ ⟨hj, hn, hn4⟩ -
    simp only at hj hn hn4
    conv => whnf
    refine csplit (fun hlt => ?_) (fun hge => ?_)
    · have hlt : j < l.length := by have : ((j : Nat) : Int) < (l.length : Int) := of_decide_eq_true hlt; omega
      obtain ⟨d, hd⟩ : ∃ x, l[j]? = some x := ⟨l[j], by simp [hlt]⟩
      have hmem := List.mem_of_getElem? hd
      have hln := d_text d (hall d hmem) (hrng d hmem).kind (hrng d hmem)
      have hlz := lineB_size d
      have hlb := lineB_le (hrng d hmem)
      have hnx := congrArg List.length (linesL_take hd)
      rw [List.length_append, ← hn, ← hlz] at hnx
      conv => whnf
      refine ⟨rfl, (show (0 : Int) ≤ j by omega), (show (j : Int) < (l.map Did.cells).length by rw [hlm]; omega), fun row hr => ?_⟩
      obtain ⟨d', hd', rfl⟩ := did_get hr
      obtain rfl : d = d' := Option.some.inj (hd.symm.trans hd')
      clear hr hd'
      have hwz : IntKind.i64.wrap ((n : Int) + ((lineB d).size : Int)) = ((n + (lineB d).size : Nat) : Int) := by rw [w64 (by omega) (by omega)]; omega
      obtain ⟨k1, k2, k3, k4, k5, k6, k7⟩ := d
      conv => whnf
      refine acall.pure _ (hln) rfl rfl fun _ => ?_
      conv => whnf
      generalize (lineB ⟨k1, k2, k3, k4, k5, k6, k7⟩).size = z at hnx hwz hlb ⊢
      rw [hwz]
      refine csplit (fun hz => ?_) (fun hz => ?_)
      · have hz : decide (((n + z : Nat) : Int) > 4194304) = true := hz
        have hz := of_decide_eq_true hz
        rw [prtL_eq l [] (Nat.zero_le _), List.nil_append] at hP
        have htk : (linesL (l.take (j + 1))).length ≤ (linesL l).length := by
          have := congrArg (fun x => (linesL x).length) (List.take_append_drop (j + 1) l)
          simp only [linesL, List.flatMap_append, List.length_append] at this ⊢
          omega
        rw [show decide ((linesL l).length > 4194304) = true from decide_eq_true (by omega)] at hP
        have hP : ((⟨#[]⟩ : ByteArray), (4 : Int)) = P := hP
        subst hP
        conv => whnf
        exact ⟨[], rfl, rfl, ⟨⟨.inl rfl, .inl rfl, trivial⟩, trivial⟩⟩
      · have hz : decide (((n + z : Nat) : Int) > 4194304) = false := hz
        have hz := of_decide_eq_false hz
        conv => whnf
        exact ⟨(n + z, j + 1), [], [], Sub.mk' rfl ⟨.inl rfl, .inl rfl, .inl rfl, .inl rfl, .inl (ti_succ hlt hl63), trivial⟩ trivial rfl rfl, ⟨hlt, hnx.symm, by show n + z ≤ 4194304; omega⟩, by show l.length - (j + 1) < l.length - j; omega⟩
    · have hge : j = l.length := by have : ¬ ((j : Nat) : Int) < (l.length : Int) := of_decide_eq_false hge; omega
      subst hge
      rw [List.take_length] at hn
      rw [prtL_eq l [] (Nat.zero_le _), List.nil_append, show decide ((linesL l).length > 4194304) = false from decide_eq_false (by omega)] at hP
      have hP : (mkB (linesL l), (0 : Int)) = P := hP
      subst hP
      have hn4 : (linesL l).length ≤ 4194304 := by omega
      clear hn
      conv => whnf
      refine ⟨fun _ => ?_, fun h => absurd rfl h⟩
      conv => whnf
      refine LoopL.by (fun x : List UInt8 × Nat => ⟨[(7, .sl 0 x.1.length), (27, .tr (didsT l)), (28, .tr (ti (l.length : Int))), (29, .tr (ti x.2))], [(0, byV x.1)], 10⟩)
        (fun x => x.2 ≤ l.length ∧ x.1 = linesL (l.take x.2)) (fun x => l.length - x.2) ([], 0) [] [0] (Sub.mk' rfl ⟨⟨rfl, rfl, rfl, rfl⟩, .inl rfl, .inl (by rw [← hlm]), .inl rfl, trivial⟩ ⟨⟨rfl, _, _, _, rfl, by decide⟩, trivial⟩ rfl rfl) ⟨Nat.zero_le _, rfl⟩ ?_
      rintro ⟨out, j⟩ ⟨hj, ho⟩ -
      simp only at hj ho
      conv => whnf
      refine csplit (fun hlt => ?_) (fun hge => ?_)
      · have hlt : j < l.length := by have : ((j : Nat) : Int) < (l.length : Int) := of_decide_eq_true hlt; omega
        obtain ⟨d, hd⟩ : ∃ x, l[j]? = some x := ⟨l[j], by simp [hlt]⟩
        have hmem := List.mem_of_getElem? hd
        have hln := d_text d (hall d hmem) (hrng d hmem).kind (hrng d hmem)
        have hlz := lineB_size d
        have hnx := linesL_take hd
        have hol : out.length ≤ 4194304 := by
          have := congrArg (fun x => (linesL x).length) (List.take_append_drop j l)
          simp only [linesL, List.flatMap_append, List.length_append] at this
          rw [ho]
          unfold linesL at hn4 ⊢
          omega
        have hlb := lineB_le (hrng d hmem)
        conv => whnf
        refine ⟨rfl, (show (0 : Int) ≤ j by omega), (show (j : Int) < (l.map Did.cells).length by rw [hlm]; omega), fun row hr => ?_⟩
        obtain ⟨d', hd', rfl⟩ := did_get hr
        obtain rfl : d = d' := Option.some.inj (hd.symm.trans hd')
        clear hr hd'
        obtain ⟨k1, k2, k3, k4, k5, k6, k7⟩ := d
        generalize lineB ⟨k1, k2, k3, k4, k5, k6, k7⟩ = S at hln hlz hnx hlb
        conv => whnf
        refine acall.pure _ (hln) rfl rfl fun _ => ?_
        conv => whnf
        refine ⟨rfl, rfl, rfl, by simp [brows], (by show out.length + S.data.toList.length ≤ 140737488351232; rw [← hlz]; omega), ?_⟩
        conv => whnf
        exact ⟨(out ++ S.data.toList, j + 1), [_], [], Sub.mk' rfl ⟨⟨rfl, by simp⟩, .inl rfl, .inl rfl, .inl (ti_succ hlt hl63), trivial⟩ ⟨⟨rfl, rfl, rfl, brows_app _ _⟩, trivial⟩ rfl rfl, ⟨hlt, by show out ++ S.data.toList = linesL (l.take (j + 1)); rw [hnx, ho]⟩, by show l.length - (j + 1) < l.length - j; omega⟩
      · have hge : j = l.length := by have : ¬ ((j : Nat) : Int) < (l.length : Int) := of_decide_eq_false hge; omega
        subst hge
        rw [List.take_length] at ho
        subst ho
        conv => whnf
        refine ⟨fun _ => ?_, fun h => absurd rfl h⟩
        conv => whnf
        rw [srcRows_bytes (h := 0) (l := linesL l) (e := 5) ?hm rfl]
        case hm => rfl
        conv => whnf
        refine ⟨linesL l, rfl, by omega, ?_⟩
        conv => whnf
        exact ⟨[], rfl, rfl, ⟨⟨.inl rfl, .inl rfl, trivial⟩, trivial⟩⟩
end Go.Proofs.YtcpolpbeimhgfaaGreatDoor.am

namespace Go.Proofs.YtcpolpbeimhgfaaGreatDoor.am
open Go Go.Proofs
def kI : List Ins := [⟨1, 0, 0, 0, 0, 0, 0, 5, 0⟩, ⟨4, 0, 0, 0, 0, 0, 0, 0, 0⟩, ⟨3, 0, 1, 0, 0, 0, 0, 0, 0⟩, ⟨7, 0, 0, 1, 0, 0, 0, 0, 0⟩, ⟨10, 0, 0, 0, 0, 0, 0, 0, 0⟩]
def kO : Ob := ⟨[0], 1, 0, 2, [⟨⟨#[97]⟩, kI⟩]⟩
def kL : List Stp := [⟨1, 0⟩, ⟨1, 0⟩, ⟨1, 0⟩, ⟨1, 0⟩, ⟨2, 0⟩, ⟨1, 0⟩]
def kD : List Did := [⟨1, 0, 0, 0, 0, 0, false⟩, ⟨3, 0, 1, 0, 5, 0, false⟩, ⟨2, 0, 2, 0, 5, 0, true⟩, ⟨8, 0, 1, 0, 5, 0, false⟩, ⟨6, 0, 3, 0, 5, 0, false⟩]
def kE : List Evt := [⟨1, 0, 0, 5, 0, true, 2⟩, ⟨2, 0, 0, 5, 0, false, 3⟩, ⟨6, 0, 0, 5, 0, false, 4⟩]
theorem kO_check : (checkO kO).1 = 0 := by kernel_rfl
theorem kO_of : ofS kO kL = kD := by kernel_rfl
theorem kD_right : kD.all rightD = true := by kernel_rfl
theorem kD_ev : evL kO kD 0 = kE := by kernel_rfl
theorem prn_small (n : Nat) (h : n < 10) : prnB n = ⟨#[UInt8.ofNat (48 + n)]⟩ := by
  unfold prnB ws.prn
  rw [if_neg (by omega), Int.toNat_natCast, ws.dig_small h]
  rfl
def kS : List UInt8 := [48, 32, 48, 32, 99, 111, 109, 112, 117, 116, 101, 10, 48, 32, 49, 32, 115, 116, 111, 114, 101, 32, 48, 32, 53, 10, 48, 32, 50, 32, 108, 111, 97, 100, 32, 48, 32, 53, 32, 111, 119, 110, 10, 48, 32, 49, 32, 100, 114, 97, 105, 110, 32, 48, 32, 53, 10, 48, 32, 51, 32, 112, 114, 105, 110, 116, 32, 53, 10]
theorem prtL_cons {acc : List UInt8} {d : Did} {l : List Did} {S : ByteArray} (h : lineB d = S) : prtL acc (d :: l) = bif decide ((acc.length : Int) + (S.size : Int) > 4194304) then none else prtL (acc ++ S.data.toList) l := by subst h; rfl
theorem kD_print : prtL [] kD = some kS := by
  have e0 : prnB 0 = ⟨#[48]⟩ := prn_small 0 (by decide)
  have e1 : prnB 1 = ⟨#[49]⟩ := prn_small 1 (by decide)
  have e2 : prnB 2 = ⟨#[50]⟩ := prn_small 2 (by decide)
  have e3 : prnB 3 = ⟨#[51]⟩ := prn_small 3 (by decide)
  have e5 : prnB 5 = ⟨#[53]⟩ := prn_small 5 (by decide)
  have l1 : lineB ⟨1, 0, 0, 0, 0, 0, false⟩ = ⟨#[48, 32, 48, 32, 99, 111, 109, 112, 117, 116, 101, 10]⟩ := by
    show joinB [prnB 0, prnB 0, dword 1] ++ nlB = _
    rw [e0]
    kernel_rfl
  have l2 : lineB ⟨3, 0, 1, 0, 5, 0, false⟩ = ⟨#[48, 32, 49, 32, 115, 116, 111, 114, 101, 32, 48, 32, 53, 10]⟩ := by
    show joinB [prnB 0, prnB 1, dword 3, prnB 0, prnB 5] ++ nlB = _
    rw [e0, e1, e5]
    kernel_rfl
  have l3 : lineB ⟨2, 0, 2, 0, 5, 0, true⟩ = ⟨#[48, 32, 50, 32, 108, 111, 97, 100, 32, 48, 32, 53, 32, 111, 119, 110, 10]⟩ := by
    show joinB [prnB 0, prnB 2, dword 2, prnB 0, prnB 5, ownB] ++ nlB = _
    rw [e0, e2, e5]
    kernel_rfl
  have l4 : lineB ⟨8, 0, 1, 0, 5, 0, false⟩ = ⟨#[48, 32, 49, 32, 100, 114, 97, 105, 110, 32, 48, 32, 53, 10]⟩ := by
    show joinB [prnB 0, prnB 1, dword 8, prnB 0, prnB 5] ++ nlB = _
    rw [e0, e1, e5]
    kernel_rfl
  have l5 : lineB ⟨6, 0, 3, 0, 5, 0, false⟩ = ⟨#[48, 32, 51, 32, 112, 114, 105, 110, 116, 32, 53, 10]⟩ := by
    show joinB [prnB 0, prnB 3, dword 6, prnB 5] ++ nlB = _
    rw [e0, e3, e5]
    kernel_rfl
  show prtL [] [_, _, _, _, _] = _
  rw [prtL_cons l1, prtL_cons l2, prtL_cons l3, prtL_cons l4, prtL_cons l5]
  kernel_rfl
theorem kI_leaf : leafR (kI.map Ins.cells) := code_leaf0 kI
set_option maxRecDepth 100000 in
theorem k_known0 : K 22 [] [] (.ret kO.av) [] := by
  refine Ctr.pk [] hT hmix Tryz.func22 rfl (fun _ _ => by kernel_rfl) rfl fun hok => ?_
  clear hok
  conv => whnf
  refine ⟨[11], ?_⟩
  conv => whnf
  refine ⟨rfl, rfl, by decide, kI_leaf, ?_⟩
  exact ⟨[], rfl, rfl, ⟨⟨rfl, by decide, rfl⟩, .inl rfl, .inl rfl, .inl rfl, ⟨rfl, by decide, rfl⟩, trivial⟩, trivial⟩
/-- a call that is shown a slice of one's own, as its second argument -/
theorem acall.sn2 {P : Program} {m : Mem} {nh f h n : Nat} {x : AV} {xs : List AV} {K : EE} (ars : List AV) (res : AE) (hc : Ctr P f ars [] res [])
    (h5 : cvL m [] [] (seenS [] [h]) (x :: .sl h n :: xs) ars) (h7 : (m h).isSome = true) (h8 : res.lowH 0 = true)
    (hK : K (res.out []) (rdOf m [h]) (callUp [] [h] res [])) : acall P m nh f (x :: .sl h n :: xs) K :=
  acall.gen [] [h] ars [] res [] hc rfl rfl rfl rfl h5 trivial (by simp [h7]) h8 hK
set_option maxRecDepth 100000 in
theorem k_lives : K 9 [] [] (.ret (.tr (tb true))) [] := by
  have hkn := k_known0
  have hof := k_of kO kL kO_check (by decide)
  rw [kO_of] at hof
  have hpr := t_print kD kD_right (by decide)
  rw [kD_print] at hpr
  have hev := t_Events kO kD kO_check kD_right
  rw [kD_ev] at hev
  obtain ⟨S, hS⟩ : ∃ S : ByteArray, S = ⟨kS.toArray⟩ := ⟨_, rfl⟩
  have hpr : K 5 [.tr (didsT kD)] [] (.ret (.tup [.tr (ts S), .tr (ti 0)])) [] := by rw [hS]; exact hpr
  refine Ctr.of hT hmix Tryz.func9 rfl (fun _ _ => by kernel_rfl) rfl fun hok => ?_
  clear hok
  conv => whnf
  refine acall.pure _ (hkn) rfl rfl ?_
  conv => whnf
  refine acall.sn2 _ _ hof ⟨⟨.inl rfl, .inl rfl, .inl rfl, .inl rfl, .inl rfl, trivial⟩, ⟨rfl, by decide, rfl⟩, trivial⟩ rfl rfl ?_
  conv => whnf
  refine ⟨by kernel_rfl, fun _ => ?_⟩
  conv => whnf
  refine acall.pure _ (hpr) rfl rfl fun _ => ?_
  conv => whnf
  refine acall.pure _ (hkn) rfl rfl fun _ => ?_
  conv => whnf
  refine acall.pure _ (hev) rfl rfl fun _ => ?_
  conv => whnf
  refine csplit (fun h => ?_) (fun h => ?_)
  · conv => whnf
    refine ⟨rfl, by decide, by decide, fun row hr => ?_⟩
    cases hr
    conv => whnf
    exact ⟨.inl rfl, trivial⟩
  · rw [hS] at h
    have e : (ByteArray.toList ⟨kS.toArray⟩ == ByteArray.toList ⟨kS.toArray⟩) = true := beq_self_eq_true _
    exact ctf e h
end Go.Proofs.YtcpolpbeimhgfaaGreatDoor.am

namespace Go.Proofs.YtcpolpbeimhgfaaGreatDoor.am
open Go Go.Proofs
set_option linter.all false

set_option maxRecDepth 100000 in
theorem z_same (l : List Did) : K 10 [.tr (didsT l), .tr (didsT l)] [] (.ret (.tr (tb true))) [] := by
  refine Ctr.of hT hmix Tryz.func10 rfl (fun _ _ => by kernel_rfl) rfl fun hok => ?_
  have hl := (hok.slot 0 rfl).tr.lst.2.1
  have hlm : (l.map Did.cells).length = l.length := List.length_map ..
  rw [hlm] at hl
  clear hok
  conv => whnf
  refine csplit (fun h => absurd h (by simp)) (fun _ => ?_)
  conv => whnf
  refine LoopL.by (fun i : Nat => ⟨[(0, .tr (didsT l)), (1, .tr (didsT l)), (12, .tr (ti (l.length : Int))), (13, .tr (ti i))], [], 10⟩) (fun i => i ≤ l.length) (fun i => l.length - i) 0 [] [] (Sub.mk' rfl ⟨.inl rfl, .inl rfl, .inl (by rw [← hlm]), .inl rfl, trivial⟩ trivial rfl rfl) (Nat.zero_le _) ?_
  rintro i hi -
  conv => whnf
  refine csplit (fun hlt => ?_) (fun hge => ?_)
  · have hlt : i < l.length := by have := of_decide_eq_true hlt; omega
    obtain ⟨d, hd⟩ : ∃ d, l[i]? = some d := ⟨l[i], by simp [hlt]⟩
    conv => whnf
    refine ⟨rfl, (show (0 : Int) ≤ i by omega), (show (i : Int) < (l.map Did.cells).length by rw [hlm]; omega), fun row hr => ?_⟩
    obtain ⟨d', hd', rfl⟩ := did_get hr
    obtain rfl : d = d' := Option.some.inj (hd.symm.trans hd')
    clear hr hd'
    obtain ⟨k1, k2, k3, k4, k5, k6, k7⟩ := d
    conv => whnf
    refine ⟨rfl, (show (0 : Int) ≤ i by omega), (show (i : Int) < (l.map Did.cells).length by rw [hlm]; omega), fun row hr => ?_⟩
    obtain ⟨d', hd', rfl⟩ := did_get hr
    obtain rfl := Option.some.inj (hd.symm.trans hd')
    clear hr hd'
    conv => whnf
    refine ⟨by kernel_rfl, fun _ => ?_⟩
    conv => whnf
    refine csplit (fun h => absurd h (by simp)) (fun _ => ?_)
    conv => whnf
    exact ⟨i + 1, [], [], Sub.mk' rfl ⟨.inl rfl, .inl rfl, .inl rfl, .inl (ti_succ hlt hl), trivial⟩ trivial rfl rfl, hlt, by omega⟩
  · conv => whnf
    refine ⟨fun _ => ?_, fun h => absurd rfl h⟩
    conv => whnf
    exact ⟨.inl rfl, trivial⟩
set_option maxRecDepth 100000 in
theorem kTexts (l : List Did) (s : ByteArray) : K 3 [.tr (didsT l), .tr (ts s)] [] (.ret (.tr (tb true))) [] := by
  have hlv := k_lives
  have h1 := t_prints l
  have h2 := z_prints l
  have h3 := d_parse s
  have h4 := z_parse s
  generalize prtS l = A at h1 h2
  generalize parseP s = B at h3 h4
  obtain ⟨t, w⟩ := A
  obtain ⟨m, v, p⟩ := B
  simp only at h1 h2 h3 h4
  have h5 := z_same m
  refine Ctr.of hT hmix Tryz.func3 rfl (fun _ _ => by kernel_rfl) rfl fun hok => ?_
  clear hok
  conv => whnf
  refine acall.pure _ (h1) rfl rfl fun _ => ?_
  conv => whnf
  refine acall.pure _ (h2) rfl rfl fun _ => ?_
  conv => whnf
  refine acall.pure _ (h3) rfl rfl fun _ => ?_
  conv => whnf
  refine acall.pure _ (h4) rfl rfl fun _ => ?_
  conv => whnf
  refine acall.pure _ (hlv) rfl rfl fun _ => ?_
  conv => whnf
  (repeat' (first | (refine csplit (fun _ => ?_) (fun g => absurd g (by simp)); conv => whnf) | (refine acall.pure _ h5 rfl rfl fun _ => ?_; conv => whnf)))
  all_goals exact ⟨.inl (congrArg tb (beq_self_eq_true _)), trivial⟩
set_option maxRecDepth 100000 in
set_option maxHeartbeats 2000000 in
theorem kBack (l : List Did) (s : ByteArray) : K 4 [.tr (didsT l), .tr (ts s)] [] (.ret (.tr (tb true))) [] := by
  have hlv := k_lives
  have h1 := t_prints l
  have hfw := fun h => prtS_ok (l := l) (t := (prtS l).1) h
  have hb := parseP_back s
  have h3 := d_parse s
  refine Ctr.of hT hmix Tryz.func4 rfl (fun _ _ => by kernel_rfl) rfl fun hok => ?_
  obtain ⟨hB, hl63, hrows⟩ := (hok.slot 0 rfl).tr.lst
  have hrng : ∀ d ∈ l, RngD d := fun d hd => rng_of (hrows d.cells (List.mem_map_of_mem hd)).2
  clear hok hrows hl63 hB
  have h2 := d_parse (prtS l).1
  have hz := z_same l
  have hf2 : (prtS l).2 = 0 → parseP (prtS l).1 = (l, 0, 0) := fun e => by
    obtain ⟨q1, q2, q3⟩ := prtS_ok (l := l) (t := (prtS l).1) (by rw [← e])
    rw [q2]
    exact parseP_fwd (fun d hd => ⟨List.all_eq_true.1 q1 d hd, hrng d hd⟩) q3
  have h5 := t_prints (parseP s).1
  have hf3 : (parseP s).2.1 = 0 → prtS (parseP s).1 = (s, 0) := fun e => by
    rcases hb with ⟨q, _⟩ | ⟨_, q1, q2, q3⟩
    · exact absurd e q
    · rw [prtS_of (List.all_eq_true.2 fun d hd => (q3 d hd).1) q2, ← q1]
  have hf4 : (parseP s).2.1 ≠ 0 → (parseP s).1 = [] := fun e => by
    rcases hb with ⟨_, q⟩ | ⟨q, _⟩
    · exact q
    · exact absurd q e
  clear hb hfw
  generalize parseP s = B at h3 h5 hf3 hf4
  generalize prtS l = A at h1 h2 hf2
  obtain ⟨t, w⟩ := A
  simp only at h1 h2 hf2
  generalize parseP t = C at h2 hf2
  obtain ⟨m, v, p⟩ := B
  simp only at h3 h5 hf3 hf4
  generalize prtS m = D at h5 hf3
  obtain ⟨u, x⟩ := D
  obtain ⟨m2, v2, p2⟩ := C
  simp only at h2 h5 hf2
  conv => whnf
  refine acall.pure _ (hlv) rfl rfl fun _ => ?_
  conv => whnf
  refine acall.pure _ (h1) rfl rfl fun _ => ?_
  conv => whnf
  refine acall.pure _ (h2) rfl rfl fun _ => ?_
  conv => whnf
  refine csplit (fun g1 => ?_) (fun g1 => ?_)
  · have e1 : w = 0 := by simpa using g1
    have e2 := hf2 e1
    cases e2
    conv => whnf
    refine acall.pure _ (hz) rfl rfl fun _ => ?_
    conv => whnf
    refine acall.pure _ (h3) rfl rfl fun _ => ?_
    conv => whnf
    refine csplit (fun g2 => ?_) (fun g2 => ?_)
    · have e3 : v ≠ 0 := by simpa using g2
      have e4 := hf4 e3
      subst e4
      conv => whnf
      exact ⟨.inl rfl, trivial⟩
    · have e3 : v = 0 := by simpa using g2
      have e4 := hf3 e3
      cases e4
      conv => whnf
      refine acall.pure _ (h5) rfl rfl fun _ => ?_
      conv => whnf
      exact ⟨.inl (congrArg tb (beq_self_eq_true _)), trivial⟩
  · conv => whnf
    refine acall.pure _ (h3) rfl rfl fun _ => ?_
    conv => whnf
    refine csplit (fun g2 => ?_) (fun g2 => ?_)
    · have e3 : v ≠ 0 := by simpa using g2
      have e4 := hf4 e3
      subst e4
      conv => whnf
      exact ⟨.inl rfl, trivial⟩
    · have e3 : v = 0 := by simpa using g2
      have e4 := hf3 e3
      cases e4
      conv => whnf
      refine acall.pure _ (h5) rfl rfl fun _ => ?_
      conv => whnf
      exact ⟨.inl (congrArg tb (beq_self_eq_true _)), trivial⟩
end Go.Proofs.YtcpolpbeimhgfaaGreatDoor.am
