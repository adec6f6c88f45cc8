/- The law SchedBack, of texts that are not too long. -/
import Derived.Test.YtioafhkkkmfkdaaGreatDoorK10
set_option linter.all false

namespace Go.Proofs.YtioafhkkkmfkdaaGreatDoor.am
open Go Go.Proofs
set_option linter.all false

theorem indexByte_le : ∀ (l : List UInt8) (c : UInt8), Lib.indexByte l c ≤ l.length ∧ -1 ≤ Lib.indexByte l c
  | [], c => ⟨by simp [Lib.indexByte], by simp [Lib.indexByte]⟩
  | b :: l, c => by
    have := indexByte_le l c
    unfold Lib.indexByte
    simp only [List.length_cons]
    split
    · constructor <;> omega
    · split <;> constructor <;> omega
theorem splitBl_lists (s : ByteArray) : (splitBl s).map (·.data.toList) = Lib.split s.data.toList [32] := Lib.splitB_data blank 0 _ s
theorem errSched_ne : errSched ≠ 0 := by decide
theorem mkB_of (a : ByteArray) : mkB a.data.toList = a := ba_exh (mkB_data _)
theorem mkB_inj {a b : List UInt8} (h : mkB a = mkB b) : a = b := by rw [← mkB_data a, h, mkB_data]
theorem mkB_size (l : List UInt8) : (mkB l).size = l.length := by show l.toArray.size = _; simp
theorem jn_join : ∀ ws : List (List UInt8), Lib.join ws [32] = jn ws
  | [] => rfl
  | [w] => Lib.join_one w [32]
  | w :: v :: r => by
    have ih := jn_join (v :: r)
    rw [Lib.join_cons] at ih
    rw [Lib.join_cons]
    show w ++ ((v :: r).map ([32] ++ ·)).flatten = w ++ 32 :: jn (v :: r)
    rw [← ih]
    simp [Lib.joinTail]
theorem sp_one {w : List UInt8} (h : 32 ∉ w) : Lib.split w [32] = [w] := by
  unfold Lib.split
  rw [Lib.count_one]
  have : w.count 32 = 0 := List.count_eq_zero.2 h
  rw [this]; rfl
theorem sp_cons {w r : List UInt8} (h : 32 ∉ w) : Lib.split (w ++ 32 :: r) [32] = w :: Lib.split r [32] := by
  unfold Lib.split
  rw [Lib.count_one, Lib.count_one]
  have : (w ++ 32 :: r).count 32 = r.count 32 + 1 := by
    rw [List.count_append, List.count_eq_zero.2 h, List.count_cons_self, Nat.zero_add]
  rw [this]
  show (if Lib.index (w ++ 32 :: r) [32] == -1 then _ else _) = _
  rw [Lib.index_one, ib_at w r h, if_neg (by rw [beq_iff_eq]; omega), Int.toNat_natCast, Nat.add_zero, List.take_append_of_le_length (Nat.le_refl _), List.take_of_length_le (Nat.le_refl _)]
  congr 1
  congr 1
  show (w ++ 32 :: r).drop (w.length + 1) = r
  rw [List.drop_append]
  simp
theorem sp_jn : ∀ ws : List (List UInt8), ws ≠ [] → (∀ w ∈ ws, 32 ∉ w) → Lib.split (jn ws) [32] = ws
  | [], h, _ => absurd rfl h
  | [w], _, h => sp_one (h w (.head _))
  | w :: v :: r, _, h => by
    show Lib.split (w ++ 32 :: jn (v :: r)) [32] = _
    rw [sp_cons (h w (.head _)), sp_jn (v :: r) (by simp) fun x hx => h x (.tail _ hx)]
theorem map_data_inj : ∀ {a b : List ByteArray}, a.map (·.data.toList) = b.map (·.data.toList) → a = b
  | [], [], _ => rfl
  | [], _ :: _, h => by simp at h
  | _ :: _, [], h => by simp at h
  | x :: a, y :: b, h => by
    simp only [List.map_cons, List.cons.injEq] at h
    rw [ba_exh h.1, map_data_inj h.2]
theorem split_jn {ws : List (List UInt8)} (h0 : ws ≠ []) (h : ∀ w ∈ ws, 32 ∉ w) : splitBl (mkB (jn ws)) = ws.map mkB := by
  apply map_data_inj
  rw [splitBl_lists, mkB_data, sp_jn ws h0 h, List.map_map]
  simp [Function.comp_def, mkB_data]
theorem words_ex : ∀ (n : Nat) (l : List UInt8), l.length ≤ n → ∃ ws, ws ≠ [] ∧ (∀ w ∈ ws, 32 ∉ w) ∧ l = jn ws
  | n, l, hn => by
    rcases cutAt 32 l with h | ⟨w, r, h1, h2⟩
    · exact ⟨[l], by simp, fun w hw => by simp at hw; rw [hw]; exact h, rfl⟩
    · cases n with
      | zero => rw [h2] at hn; simp at hn
      | succ n =>
        obtain ⟨ws, e1, e2, e3⟩ := words_ex n r (by rw [h2] at hn; simp at hn; omega)
        cases ws with
        | nil => exact absurd rfl e1
        | cons v ws =>
          refine ⟨w :: v :: ws, by simp, fun x hx => ?_, ?_⟩
          · rcases List.mem_cons.1 hx with rfl | hx
            · exact h1
            · exact e2 x hx
          · rw [h2, e3]; rfl
theorem prs_prnB {w : Int} (h : in64 w) : prsB (prnB w) = (w, 0, 0) := by
  unfold prsB
  rw [prn_data]
  exact ws.prs_prn h.1 h.2
theorem tl_cons (c : UInt8) (s : ByteArray) : prefB (⟨#[c]⟩ ++ s) ⟨#[c]⟩ = true ∧ tlS (⟨#[c]⟩ ++ s) = s := by
  have e : ((⟨#[c]⟩ : ByteArray) ++ s).data.toList = c :: s.data.toList := by simp
  refine ⟨?_, ba_exh ?_⟩
  · unfold prefB Lib.hasPrefix
    rw [e]; simp
  · unfold tlS
    rw [ext_end, e]; rfl
theorem dig_chars : ∀ (f n : Nat), n ≤ f → ∀ c ∈ ws.dig n, 48 ≤ c.toNat ∧ c.toNat ≤ 57
  | f, n, hf, c, hc => by
    by_cases hn : n < 10
    · rw [ws.dig_small hn] at hc
      simp only [List.mem_cons, List.not_mem_nil, or_false] at hc
      rw [hc, ws.dch_toNat hn]; omega
    · rw [ws.dig_big hn, List.mem_append] at hc
      rcases hc with hc | hc
      · cases f with
        | zero => omega
        | succ f => exact dig_chars f (n / 10) (by omega) c hc
      · simp only [List.mem_cons, List.not_mem_nil, or_false] at hc
        rw [hc, ws.dch_toNat (by omega)]; omega
theorem prn_chars (n : Int) : ∀ c ∈ ws.prn n, c.toNat = 45 ∨ (48 ≤ c.toNat ∧ c.toNat ≤ 57) := by
  intro c hc
  unfold ws.prn at hc
  split at hc
  · rcases List.mem_cons.1 hc with rfl | hc
    · exact .inl rfl
    · exact .inr (dig_chars _ _ (Nat.le_refl _) c hc)
  · exact .inr (dig_chars _ _ (Nat.le_refl _) c hc)
theorem okc_of {c : UInt8} (h : c.toNat = 45 ∨ (48 ≤ c.toNat ∧ c.toNat ≤ 57)) : okc c := by
  refine ⟨?_, ?_, ?_⟩ <;> (rintro rfl; revert h; decide)
theorem okw_prn (n : Int) : okw (prnB n) := fun c hc => okc_of (prn_chars n c (by rwa [prn_data] at hc))
theorem joinB_mk (ws : List (List UInt8)) : joinB (ws.map mkB) = mkB (jn ws) := by
  unfold joinB joinL
  rw [List.map_map, show ((fun x : ByteArray => x.data.toList) ∘ mkB) = id from funext mkB_data, List.map_id, jn_join]; rfl
theorem jn_cons : ∀ (w : List UInt8) (ws : List (List UInt8)), jn (w :: ws) = w ++ ws.flatMap (32 :: ·)
  | w, [] => by simp [jn]
  | w, v :: r => by
    show w ++ 32 :: jn (v :: r) = _
    rw [jn_cons v r]; simp
theorem jn_free {c : UInt8} (hc : c ≠ 32) : ∀ ws : List (List UInt8), (∀ w ∈ ws, c ∉ w) → c ∉ jn ws
  | [], _ => by simp [jn]
  | w :: ws, h => by
    rw [jn_cons, List.mem_append, not_or]
    refine ⟨h w (.head _), ?_⟩
    rw [List.mem_flatMap]
    rintro ⟨v, hv, hm⟩
    rcases List.mem_cons.1 hm with e | hm
    · exact hc e
    · exact h v (.tail _ hv) hm
theorem as_mk (ws : List ByteArray) : ws = (ws.map (·.data.toList)).map mkB := by
  apply map_data_inj
  simp [Function.comp_def, mkB_data]
theorem split_join {ws : List ByteArray} (h0 : ws ≠ []) (h : ∀ w ∈ ws, free w) : splitBl (joinB ws) = ws ∧ 10 ∉ (joinB ws).data.toList := by
  obtain ⟨l, rfl⟩ : ∃ l : List (List UInt8), ws = l.map mkB := ⟨_, as_mk ws⟩
  have hl : ∀ x ∈ l, free (mkB x) := fun x hx => h _ (List.mem_map.2 ⟨x, hx, rfl⟩)
  rw [joinB_mk, mkB_data]
  refine ⟨split_jn (fun e => h0 (by rw [e]; rfl)) fun x hx => ?_, jn_free (by decide) _ fun x hx => ?_⟩
  · have := (hl x hx).1; rwa [mkB_data] at this
  · have := (hl x hx).2; rwa [mkB_data] at this
theorem join_split (s : ByteArray) : joinB (splitBl s) = s := by
  obtain ⟨ws, h0, h1, h2⟩ := words_ex _ s.data.toList (Nat.le_refl _)
  obtain rfl : s = mkB (jn ws) := ba_exh (by rw [mkB_data]; exact h2)
  rw [split_jn h0 h1, joinB_mk]
theorem cnt_rep (x : Stp) : ∀ (n : Nat) (l : List Stp), l.head? ≠ some x → cntS x (List.replicate n x ++ l) = n
  | 0, l, h => by
    cases l with
    | nil => rfl
    | cons y l =>
      show (if y = x then _ else 0) = 0
      rw [if_neg (fun e => h (by rw [e]; rfl))]
  | n + 1, l, h => by
    show (if x = x then cntS x (List.replicate n x ++ l) + 1 else 0) = n + 1
    rw [if_pos rfl, cnt_rep x n l h]
theorem grpS_flat : ∀ (f : Nat) (l : List Stp), l.length ≤ f → flatG (grpS f l) = l ∧ (∀ p ∈ grpS f l, 1 ≤ p.2 ∧ p.1 ∈ l) ∧ apartG (grpS f l) ∧ (∀ p, (grpS f l).head? = some p → l.head? = some p.1)
  | 0, l, h => by
    obtain rfl : l = [] := List.eq_nil_of_length_eq_zero (by omega)
    exact ⟨rfl, (fun p hp => by cases hp), trivial, (fun p hp => by cases hp)⟩
  | f + 1, [], _ => ⟨rfl, (fun p hp => by cases hp), trivial, (fun p hp => by cases hp)⟩
  | f + 1, x :: l, h => by
    have hc := cnt_spec x l
    have ih := grpS_flat f (l.drop (cntS x l)) (by rw [List.length_drop]; simp only [List.length_cons] at h; omega)
    show flatG ((x, cntS x l + 1) :: grpS f (l.drop (cntS x l))) = x :: l ∧ (∀ p ∈ (x, cntS x l + 1) :: grpS f (l.drop (cntS x l)), _) ∧ apartG ((x, cntS x l + 1) :: grpS f (l.drop (cntS x l))) ∧ _
    refine ⟨?_, fun p hp => ?_, ?_, fun p hp => ?_⟩
    · unfold flatG
      rw [List.flatMap_cons]
      show List.replicate (cntS x l + 1) x ++ flatG (grpS f (l.drop (cntS x l))) = _
      rw [ih.1, List.replicate_succ, List.cons_append, ← hc.1]
    · rcases List.mem_cons.1 hp with rfl | hp
      · exact ⟨Nat.succ_le_succ (Nat.zero_le _), .head _⟩
      · have := ih.2.1 p hp
        exact ⟨this.1, .tail _ (List.mem_of_mem_drop this.2)⟩
    · cases hg : grpS f (l.drop (cntS x l)) with
      | nil => trivial
      | cons q g =>
        have h4 := ih.2.2.2 q (by rw [hg]; rfl)
        have h3 := ih.2.2.1
        rw [hg] at h3
        exact ⟨fun e => hc.2 (by rw [h4]; exact congrArg some e.symm), h3⟩
    · cases hp; rfl
theorem grps_spec (l : List Stp) : flatG (grps l) = l ∧ (∀ p ∈ grps l, 1 ≤ p.2 ∧ p.1 ∈ l) ∧ apartG (grps l) := by
  have := grpS_flat l.length l (Nat.le_refl _)
  exact ⟨this.1, this.2.1, this.2.2.1⟩
theorem flat_head {g : List (Stp × Nat)} (h : ∀ p ∈ g, 1 ≤ p.2) : (flatG g).head? = g.head?.map (·.1) := by
  cases g with
  | nil => rfl
  | cons p g =>
    have := h p (.head _)
    unfold flatG
    rw [List.flatMap_cons]
    obtain ⟨n, hn⟩ : ∃ n, p.2 = n + 1 := ⟨p.2 - 1, by omega⟩
    rw [hn, List.replicate_succ]; rfl
theorem grpS_back : ∀ (g : List (Stp × Nat)) (f : Nat), (∀ p ∈ g, 1 ≤ p.2) → apartG g → (flatG g).length ≤ f → grpS f (flatG g) = g
  | [], f, _, _, _ => by cases f <;> rfl
  | p :: g, f, h, ha, hf => by
    obtain ⟨x, n⟩ := p
    have hn := h (x, n) (.head _)
    obtain ⟨m, rfl⟩ : ∃ m, n = m + 1 := ⟨n - 1, by simp only at hn; omega⟩
    have e : flatG ((x, m + 1) :: g) = x :: (List.replicate m x ++ flatG g) := by
      unfold flatG
      rw [List.flatMap_cons]
      show List.replicate (m + 1) x ++ _ = _
      rw [List.replicate_succ]; rfl
    rw [e] at hf ⊢
    simp only [List.length_cons, List.length_append, List.length_replicate] at hf
    have hh : (flatG g).head? ≠ some x := by
      rw [flat_head fun p hp => h p (.tail _ hp)]
      cases g with
      | nil => simp
      | cons q g => intro e2; exact ha.1 (by simpa using e2.symm)
    cases f with
    | zero => omega
    | succ f =>
      show (x, cntS x (List.replicate m x ++ flatG g) + 1) :: grpS f ((List.replicate m x ++ flatG g).drop (cntS x (List.replicate m x ++ flatG g))) = _
      rw [cnt_rep x m _ hh, List.drop_left' (by simp), grpS_back g f (fun p hp => h p (.tail _ hp)) (by cases g; exact trivial; exact ha.2) (by omega)]
theorem grps_back {g : List (Stp × Nat)} (h : ∀ p ∈ g, 1 ≤ p.2) (ha : apartG g) : grps (flatG g) = g := grpS_back g _ h ha (Nat.le_refl _)
theorem stp_cases {x : Stp} (h : stpOk x = true) : (x.kind = 1 ∨ x.kind = 2) ∧ 0 ≤ x.core ∧ x.core < 8 := by
  unfold stpOk at h
  simp only [Bool.and_eq_true, Bool.or_eq_true, beq_iff_eq, decide_eq_true_eq] at h
  exact ⟨h.1, h.2.1, h.2.2⟩
theorem num_fwdW {n least most : Int} (h : in64 n) (h1 : least ≤ n) (h2 : n ≤ most) : numW (prnB n) least most = (n, true) := by
  unfold numW
  rw [prs_prnB h]
  show (n, true && (decide (n ≥ least) && decide (n ≤ most))) = _
  rw [decide_eq_true h1, decide_eq_true h2]; rfl
theorem prn_x (n : Int) : 120 ∉ (prnB n).data.toList := fun h => by
  rw [prn_data] at h
  rcases prn_chars n _ h with e | e
  · exact absurd e (by decide)
  · exact absurd e.2 (by decide)
theorem wordK_fwd {kd core : Int} {n : Nat} (hc0 : 0 ≤ core) (hc1 : core < 8) (hn : 1 ≤ n) (hm : n ≤ 1048576) : wordK kd (prnB core ++ timesB n) = (⟨kd, core⟩, (n : Int), true) := by
  have hcn := num_fwdW (n := core) (least := 0) (most := 7) ⟨by omega, by omega⟩ hc0 (by omega)
  by_cases h1 : n = 1
  · subst h1
    have e : prnB core ++ timesB 1 = prnB core := by
      show prnB core ++ ⟨#[]⟩ = _
      exact ba_exh (by simp)
    unfold wordK
    rw [e, cutX_no (prn_x core)]
    show ((⟨kd, (numW (prnB core) 0 7).1⟩ : Stp), (1 : Int), true && (numW (prnB core) 0 7).2) = _
    rw [hcn]; rfl
  · have hnn := num_fwdW (n := (n : Int)) (least := 2) (most := 1048576) ⟨by omega, by omega⟩ (by omega) (by omega)
    have e : (prnB core ++ timesB n).data.toList = (prnB core).data.toList ++ 120 :: (prnB (n : Int)).data.toList := by
      unfold timesB
      rw [decide_eq_true (show (n : Int) > 1 by omega)]
      simp
    unfold wordK
    rw [cutX_at e (prn_x core), mkB_of, mkB_of]
    show ((⟨kd, (numW (prnB core) 0 7).1⟩ : Stp), (numW (prnB (n : Int)) 2 1048576).1, (numW (prnB (n : Int)) 2 1048576).2 && (numW (prnB core) 0 7).2) = _
    rw [hcn, hnn]; rfl
theorem pref_ne {s : ByteArray} {b c : UInt8} (h : b ≠ c) : prefB (⟨#[b]⟩ ++ s) ⟨#[c]⟩ = false := by
  unfold prefB Lib.hasPrefix
  have e : ((⟨#[b]⟩ : ByteArray) ++ s).data.toList = b :: s.data.toList := by simp
  rw [e]
  show (c == b && _) = false
  rw [show (c == b) = false from beq_eq_false_iff_ne.2 (fun e => h e.symm), Bool.false_and]
theorem word_fwdR {x : Stp} {n : Nat} (hx : stpOk x = true) (hn : 1 ≤ n) (hm : n ≤ 1048576) : wordR (wordP (x, n)) = (x, (n : Int), true) := by
  obtain ⟨hk, h0, h1⟩ := stp_cases hx
  unfold wordR
  rcases hk with hk | hk
  · rw [let_word 114 (by unfold lttB; rw [hk]; rfl), (tl_cons 114 _).1, (tl_cons 114 _).2, cond_true, wordK_fwd h0 h1 hn hm]
    obtain ⟨k, c⟩ := x
    simp only at hk
    rw [hk]
  · rw [let_word 100 (by unfold lttB; rw [hk]; rfl), pref_ne (by decide), (tl_cons 100 _).1, (tl_cons 100 _).2, cond_false, cond_true, wordK_fwd h0 h1 hn hm]
    obtain ⟨k, c⟩ := x
    simp only at hk
    rw [hk]
theorem okw_word {x : Stp} {n : Nat} (hx : stpOk x = true) : free (wordP (x, n)) := by
  obtain ⟨hk, _, _⟩ := stp_cases hx
  have h1 := (okw_prn x.core).free
  have h2 := (okw_prn (n : Int)).free
  have hl : free (lttB x.kind) := by
    unfold lttB free
    rcases hk with e | e <;> rw [e] <;> decide
  have ht : free (timesB n) := by
    unfold timesB
    cases decide ((n : Int) > 1)
    · show 32 ∉ (⟨#[]⟩ : ByteArray).data.toList ∧ 10 ∉ (⟨#[]⟩ : ByteArray).data.toList
      decide
    · constructor
      · show 32 ∉ ((⟨#[120]⟩ : ByteArray) ++ prnB (n : Int)).data.toList
        simp only [ByteArray.data_append, Array.toList_append, List.mem_append, not_or]
        exact ⟨by decide, h2.1⟩
      · show 10 ∉ ((⟨#[120]⟩ : ByteArray) ++ prnB (n : Int)).data.toList
        simp only [ByteArray.data_append, Array.toList_append, List.mem_append, not_or]
        exact ⟨by decide, h2.2⟩
  unfold wordP free
  simp only [ByteArray.data_append, Array.toList_append, List.mem_append, not_or]
  exact ⟨⟨⟨hl.1, h1.1⟩, ht.1⟩, ⟨⟨hl.2, h1.2⟩, ht.2⟩⟩
theorem parG_cons (w : ByteArray) (ws : List ByteArray) (out : List Stp) (at_ : Int) : parG (w :: ws) out at_ = bif !(wordR w).2.2 || lastIs out (wordR w).1 then ([], errSched, at_) else bif decide ((out.length : Int) + (wordR w).2.1 > 1048576) then ([], 3, 0) else parG ws (out ++ List.replicate (wordR w).2.1.toNat (wordR w).1) (at_ + w.size + 1) := rfl
theorem last_rep {out : List Stp} {n : Nat} {x : Stp} (h : 1 ≤ n) : (out ++ List.replicate n x).getLast? = some x := by
  obtain ⟨m, rfl⟩ : ∃ m, n = m + 1 := ⟨n - 1, by omega⟩
  rw [List.replicate_succ', ← List.append_assoc, List.getLast?_append]
  rfl
theorem parG_fwd : ∀ (g : List (Stp × Nat)) (out : List Stp) (at_ : Int), (∀ p ∈ g, 1 ≤ p.2 ∧ stpOk p.1 = true) → apartG g → (∀ p, g.head? = some p → out.getLast? ≠ some p.1) → out.length + (flatG g).length ≤ 1048576 → parG (g.map wordP) out at_ = (out ++ flatG g, 0, 0)
  | [], out, at_, _, _, _, _ => by show (out, (0 : Int), (0 : Int)) = _; simp [flatG]
  | p :: g, out, at_, h, ha, hh, hl => by
    obtain ⟨x, n⟩ := p
    obtain ⟨h1, h2⟩ := h (x, n) (.head _)
    have e : flatG ((x, n) :: g) = List.replicate n x ++ flatG g := by unfold flatG; rw [List.flatMap_cons]
    rw [e, List.length_append, List.length_replicate] at hl
    rw [List.map_cons, parG_cons, word_fwdR h2 h1 (by omega)]
    have hla : lastIs out x = false := decide_eq_false (hh (x, n) rfl)
    show (bif !true || lastIs out x then _ else bif decide ((out.length : Int) + (n : Int) > 1048576) then _ else parG (g.map wordP) (out ++ List.replicate (n : Int).toNat x) _) = _
    rw [hla, decide_eq_false (show ¬ ((out.length : Int) + (n : Int) > 1048576) by omega), Int.toNat_natCast]
    show parG (g.map wordP) (out ++ List.replicate n x) _ = _
    rw [parG_fwd g _ _ (fun p hp => h p (.tail _ hp)) (by cases g; exact trivial; exact ha.2) (fun p hp => ?_) (by rw [List.length_append, List.length_replicate]; omega), e, List.append_assoc]
    rw [last_rep h1]
    cases g with
    | nil => cases hp
    | cons q g => cases hp; exact fun e => ha.1 (Option.some.inj e)
theorem parT_fwd {l : List Stp} (h : l.all stpOk = true) (hl : l.length ≤ 1048576) : parT (joinB ((grps l).map wordP)) = (l, 0, 0) := by
  obtain ⟨g1, g2, g3⟩ := grps_spec l
  have hok : ∀ p ∈ grps l, 1 ≤ p.2 ∧ stpOk p.1 = true := fun p hp => ⟨(g2 p hp).1, List.all_eq_true.1 h _ (g2 p hp).2⟩
  cases hg : grps l with
  | nil =>
    rw [hg] at g1
    have : l = [] := g1.symm
    rw [this]
    show (bif (joinB []).toList == emB.toList then _ else _) = _
    rw [show ((joinB []).toList == emB.toList) = true from seq_bh.2 rfl]; rfl
  | cons p g =>
    rw [← hg]
    have hne : (grps l).map wordP ≠ [] := by rw [hg]; simp
    have hs := split_join hne (fun w hw => by
      obtain ⟨p, hp, rfl⟩ := List.mem_map.1 hw
      exact okw_word (hok p hp).2)
    have hnz : ((joinB ((grps l).map wordP)).toList == emB.toList) = false := by
      cases hb : ((joinB ((grps l).map wordP)).toList == emB.toList) with
      | false => rfl
      | true =>
        exfalso
        have e := seq_bh.1 hb
        have h2 := hs.1
        rw [e] at h2
        have e3 : splitBl emB = [emB] := by
          have := split_join (ws := [emB]) (by simp) (fun w hw => by simp at hw; rw [hw]; unfold free; decide)
          have e4 : joinB [emB] = emB := ba_exh rfl
          rw [e4] at this
          exact this.1
        rw [e3, hg] at h2
        simp only [List.map_cons, List.cons.injEq] at h2
        have h5 := h2.1
        have h6 := (hok p (by rw [hg]; exact .head _)).2
        have h7 := (stp_cases h6).1
        have h8 := congrArg ByteArray.size h5
        unfold wordP lttB at h8
        rcases h7 with q | q <;> (rw [q] at h8; simp only [ByteArray.size_append] at h8; have : emB.size = 0 := rfl; rw [this] at h8; revert h8; show 0 = (1 + _) + _ → False; omega)
    unfold parT
    rw [hnz, cond_false, hs.1, parG_fwd _ [] 0 hok g3 (fun p _ => by simp) (by rw [g1]; simpa using hl), g1]
    rfl
theorem parG_back : ∀ (ws : List ByteArray) (out : List Stp) (at_ : Int) (gp : List (Stp × Nat)), (∀ p ∈ gp, 1 ≤ p.2 ∧ stpOk p.1 = true) → apartG gp → out = flatG gp → out.length ≤ 1048576 →
    ((parG ws out at_).2.1 ≠ 0 ∧ (parG ws out at_).1 = [] ∧ (((parG ws out at_).2.2 = 0) ∨ ∃ k, k < ws.length ∧ (parG ws out at_).2.2 = at_ + ((ws.take k).map fun w => (w.size : Int) + 1).sum)) ∨
    ((parG ws out at_).2.1 = 0 ∧ ∃ g, (parG ws out at_).1 = flatG (gp ++ g) ∧ ws = g.map wordP ∧ (∀ p ∈ gp ++ g, 1 ≤ p.2 ∧ stpOk p.1 = true) ∧ apartG (gp ++ g) ∧ (flatG (gp ++ g)).length ≤ 1048576)
  | [], out, at_, gp, h1, h2, h3, h4 => .inr ⟨rfl, [], by rw [List.append_nil]; exact h3, rfl, by rw [List.append_nil]; exact h1, by rw [List.append_nil]; exact h2, by rw [List.append_nil, ← h3]; exact h4⟩
  | w :: ws, out, at_, gp, h1, h2, h3, h4 => by
    rw [parG_cons]
    cases hb : (!(wordR w).2.2 || lastIs out (wordR w).1) with
    | true => exact .inl ⟨errSched_ne, rfl, .inr ⟨0, Nat.succ_pos _, by show at_ = at_ + 0; omega⟩⟩
    | false =>
      rw [Bool.or_eq_false_iff] at hb
      have hok : (wordR w).2.2 = true := by simpa using hb.1
      obtain ⟨n, q1, q2, q3, q4, q5⟩ := word_backR hok
      rw [cond_false, q1]
      cases hd : decide ((out.length : Int) + (n : Int) > 1048576) with
      | true => exact .inl ⟨(show (3 : Int) ≠ 0 by decide), rfl, .inl rfl⟩
      | false =>
        have hd := of_decide_eq_false hd
        rw [cond_false, Int.toNat_natCast]
        have hlast : out.getLast? ≠ some (wordR w).1 := of_decide_eq_false hb.2
        have hfl : flatG (gp ++ [((wordR w).1, n)]) = out ++ List.replicate n (wordR w).1 := by
          unfold flatG at h3 ⊢
          rw [List.flatMap_append, ← h3]
          simp
        have hap : apartG (gp ++ [((wordR w).1, n)]) := by
          have : ∀ (a : List (Stp × Nat)) (y : Stp × Nat), (∀ p ∈ a, 1 ≤ p.2) → apartG a → (flatG a).getLast? ≠ some y.1 → apartG (a ++ [y]) := by
            intro a
            induction a with
            | nil => intro y _ _ _; exact trivial
            | cons p a ih =>
              intro y r1 r2 r3
              cases a with
              | nil =>
                refine ⟨fun e => r3 ?_, trivial⟩
                unfold flatG
                rw [List.flatMap_cons, List.flatMap_nil, List.append_nil]
                have := last_rep (out := []) (x := p.1) (r1 p (.head _))
                rw [List.nil_append] at this
                rw [this, e]
              | cons q a =>
                refine ⟨r2.1, ih y (fun p hp => r1 p (.tail _ hp)) r2.2 fun e => r3 ?_⟩
                unfold flatG at e ⊢
                rw [List.flatMap_cons, List.getLast?_append, e]
                rfl
          exact this gp _ (fun p hp => (h1 p hp).1) h2 (by rw [← h3]; exact hlast)
        have ih := parG_back ws (out ++ List.replicate n (wordR w).1) (at_ + w.size + 1) (gp ++ [((wordR w).1, n)]) (fun p hp => by
          rcases List.mem_append.1 hp with hp | hp
          · exact h1 p hp
          · have : p = ((wordR w).1, n) := by simpa using hp
            rw [this]; exact ⟨q2, q4⟩) hap hfl.symm (by rw [List.length_append, List.length_replicate]; omega)
        rcases ih with ⟨r1, r2, r3⟩ | ⟨r1, g, r2, r3, r4, r5, r6⟩
        · refine .inl ⟨r1, r2, ?_⟩
          rcases r3 with r3 | ⟨k, r3, r4⟩
          · exact .inl r3
          · refine .inr ⟨k + 1, Nat.succ_lt_succ r3, ?_⟩
            rw [r4, List.take_succ_cons, List.map_cons, List.sum_cons]
            omega
        · refine .inr ⟨r1, ((wordR w).1, n) :: g, ?_, by rw [List.map_cons, ← q5, ← r3], ?_, ?_, ?_⟩
          · rw [r2, List.append_assoc]; rfl
          · rw [List.append_assoc] at r4; exact r4
          · rw [List.append_assoc] at r5; exact r5
          · rw [List.append_assoc] at r6; exact r6
theorem join_size : ∀ (ws : List ByteArray) (k : Nat), k < ws.length → ((ws.take k).map fun w => (w.size : Int) + 1).sum ≤ ((joinB ws).size : Int) := by
  intro ws
  have key : ∀ (ws : List ByteArray) (k : Nat), k < ws.length → ((ws.take k).map fun w => (w.size : Int) + 1).sum ≤ ((jn (ws.map (·.data.toList))).length : Int) := by
    intro ws
    induction ws with
    | nil => intro k hk; cases hk
    | cons w ws ih =>
      intro k hk
      cases k with
      | zero => simp
      | succ k =>
        cases ws with
        | nil => simp at hk
        | cons v r =>
          have := ih k (by simpa using hk)
          rw [List.take_succ_cons, List.map_cons, List.sum_cons]
          show _ ≤ ((w.data.toList ++ 32 :: jn ((v :: r).map (·.data.toList))).length : Int)
          rw [List.length_append, List.length_cons, dat_len]
          omega
  intro k hk
  have := key ws k hk
  have e : joinB ws = mkB (jn (ws.map (·.data.toList))) := by rw [← joinB_mk, ← as_mk]
  rw [e, mkB_size]
  exact this
theorem parT_back (s : ByteArray) : ((parT s).2.1 ≠ 0 ∧ (parT s).1 = [] ∧ 0 ≤ (parT s).2.2 ∧ (parT s).2.2 ≤ (s.size : Int)) ∨ ((parT s).2.1 = 0 ∧ prtT (parT s).1 = (s, 0)) := by
  unfold parT
  cases hb : (s.toList == emB.toList) with
  | true =>
    refine .inr ⟨rfl, ?_⟩
    rw [seq_bh.1 hb]
    rfl
  | false =>
    rw [cond_false]
    have hj := join_split s
    rcases parG_back (splitBl s) [] 0 [] (fun p hp => by cases hp) trivial rfl (by decide) with ⟨h1, h2, h3⟩ | ⟨h1, g, h2, h3, h4, h5, h6⟩
    · refine .inl ⟨h1, h2, ?_⟩
      rcases h3 with h3 | ⟨k, h3, h4⟩
      · rw [h3]; exact ⟨Int.le_refl _, Int.natCast_nonneg _⟩
      · have := join_size (splitBl s) k h3
        rw [hj] at this
        rw [h4, Int.zero_add]
        refine ⟨?_, this⟩
        generalize (splitBl s).take k = q
        clear h3 h4 this hj
        induction q with
        | nil => exact Int.le_refl _
        | cons w q ih => rw [List.map_cons, List.sum_cons]; omega
    · refine .inr ⟨h1, ?_⟩
      rw [List.nil_append] at h2 h4 h5 h6
      rw [h2]
      unfold prtT
      rw [decide_eq_false (show ¬ (((flatG g).length : Int) > 1048576) by omega)]
      have hall : (flatG g).all stpOk = true := List.all_eq_true.2 fun x hx => by
        obtain ⟨p, hp, hx⟩ := List.mem_flatMap.1 hx
        rw [(List.mem_replicate.1 hx).2]
        exact (h4 p hp).2
      rw [hall, grps_back (fun p hp => (h4 p hp).1) h5, ← h3, hj]
      rfl
theorem prn_size0 {n : Int} (h0 : 0 ≤ n) (h1 : n < 10) : (prnB n).size = 1 := by
  unfold prnB ws.prn
  rw [if_neg (by omega), ws.dig_small (by omega)]
  rfl
theorem prn_size1 {n : Int} (h0 : 0 ≤ n) (h1 : n < 100) : (prnB n).size ≤ 2 := by
  have : (prnB n).size = (ws.prn n).length := by unfold prnB; simp [ByteArray.size]
  rw [this]
  unfold ws.prn
  rw [if_neg (by omega)]
  exact ws.dig_len 1 n.toNat (by omega)
theorem word_size {x : Stp} {n : Nat} (hx : stpOk x = true) (h1 : 1 ≤ n) (h2 : n ≤ 1048576) : (wordP (x, n)).size + 1 ≤ 3 * n := by
  obtain ⟨hk, hc0, hc1⟩ := stp_cases hx
  have z1 := ltt_size x.kind
  have z2 := prn_size0 hc0 (show x.core < 10 by omega)
  have z3 := prn_len (n := (n : Int)) (by omega) (by omega)
  have zx : (⟨#[120]⟩ : ByteArray).size = 1 := rfl
  show ((lttB x.kind ++ prnB x.core) ++ timesB n).size + 1 ≤ 3 * n
  rw [ByteArray.size_append, ByteArray.size_append]
  unfold timesB
  by_cases hn : n = 1
  · subst hn
    show (lttB x.kind).size + (prnB x.core).size + (⟨#[]⟩ : ByteArray).size + 1 ≤ 3 * 1
    have : (⟨#[]⟩ : ByteArray).size = 0 := rfl
    omega
  · rw [decide_eq_true (show (n : Int) > 1 by omega), cond_true, ByteArray.size_append]
    by_cases h10 : n < 10
    · have := prn_size0 (n := (n : Int)) (by omega) (by omega)
      omega
    · by_cases h100 : n < 100
      · have := prn_size1 (n := (n : Int)) (by omega) (by omega)
        omega
      · omega
theorem joinL_sum : ∀ (l : List ByteArray), (joinL l).length ≤ (l.map fun w => w.size + 1).sum
  | [] => by simp [joinL, Lib.join]
  | [a] => by
    have hd : a.data.toList.length = a.size := by simp
    simp [joinL, Lib.join]
  | a :: b :: r => by
    have ih := joinL_sum (b :: r)
    have hd : a.data.toList.length = a.size := by simp
    have e : joinL (a :: b :: r) = a.data.toList ++ ([32] ++ joinL (b :: r)) := by simp [joinL, Lib.join]
    rw [e]
    simp only [List.length_append, List.length_cons, List.length_nil, List.map_cons, List.sum_cons] at ih ⊢
    omega
theorem flat_len : ∀ (g : List (Stp × Nat)), (flatG g).length = (g.map (·.2)).sum
  | [] => rfl
  | p :: g => by
    unfold flatG
    rw [List.flatMap_cons, List.length_append, List.length_replicate, List.map_cons, List.sum_cons]
    exact congrArg _ (flat_len g)
theorem words_sum : ∀ (g : List (Stp × Nat)), (∀ p ∈ g, 1 ≤ p.2 ∧ p.2 ≤ 1048576 ∧ stpOk p.1 = true) → ((g.map wordP).map fun w => w.size + 1).sum ≤ 3 * (g.map (·.2)).sum
  | [], _ => Nat.le_refl _
  | p :: g, h => by
    obtain ⟨h1, h2, h3⟩ := h p (.head _)
    have := word_size h3 h1 h2
    have ih := words_sum g (fun q hq => h q (.tail _ hq))
    simp only [List.map_cons, List.sum_cons]
    show (wordP (p.1, p.2)).size + 1 + _ ≤ _
    omega
theorem sum_mem : ∀ (g : List (Stp × Nat)) (p : Stp × Nat), p ∈ g → p.2 ≤ (g.map (·.2)).sum
  | q :: g, p, h => by
    rw [List.map_cons, List.sum_cons]
    rcases List.mem_cons.1 h with rfl | h
    · omega
    · have := sum_mem g p h; omega
theorem prt_size {l : List Stp} (h : (prtT l).2 = 0) : (prtT l).1.size ≤ 4194304 ∧ parT (prtT l).1 = (l, 0, 0) := by
  unfold prtT at h ⊢
  cases h1 : decide ((l.length : Int) > 1048576) with
  | true => rw [h1] at h; exact absurd (show (3 : Int) = 0 from h) (by decide)
  | false =>
    rw [h1, cond_false] at h
    have h1 := of_decide_eq_false h1
    cases h2 : l.all stpOk with
    | false => rw [h2] at h; exact absurd (show errRange = 0 from h) (by decide)
    | true =>
      obtain ⟨g1, g2, g3⟩ := grps_spec l
      refine ⟨?_, parT_fwd h2 (by omega)⟩
      show (joinB ((grps l).map wordP)).size ≤ 4194304
      have e : (joinB ((grps l).map wordP)).size = (joinL ((grps l).map wordP)).length := by unfold joinB; simp [ByteArray.size]
      have hf := flat_len (grps l)
      rw [g1] at hf
      have hs := words_sum (grps l) fun p hp => ⟨(g2 p hp).1, by have := sum_mem _ p hp; omega, List.all_eq_true.1 h2 _ (g2 p hp).2⟩
      have hj := joinL_sum ((grps l).map wordP)
      rw [e]
      omega
set_option maxRecDepth 100000 in
theorem kBack (l : List Stp) (s : ByteArray) (hs : s.size ≤ 4194304) : K 5 [.tr (stepsT l), .tr (ts s)] [] (.ret (.tr (tb true))) [] := by
  have hb := s_begins
  have hpr := s_print l
  have hfw := prt_size (l := l)
  have hpa : (prtT l).2 = 0 → K 19 [.tr (ts (prtT l).1)] [] (.ret (.tup [.tr (stepsT l), .tr (ti 0), .tr (ti 0)])) [] := fun q => by
    obtain ⟨h1, h2⟩ := hfw q
    have := s_parse _ h1
    rw [h2] at this
    exact this
  have hps := s_parse s hs
  have hbk := parT_back s
  have hpb := s_print (parT s).1
  have hsa := z_sameSt l
  generalize prtT l = P at hpr hpa
  generalize prtT (parT s).1 = B at hpb hbk
  generalize parT s = R at hps hbk hpb
  obtain ⟨m, no, at_⟩ := R
  obtain ⟨t, why⟩ := P
  simp only at hpr hpa hps hbk hpb
  refine Ctr.cut [8] hT hmix Tryz.func5 rfl (fun _ _ => by kernel_rfl) rfl fun hok => ?_
  clear hok
  conv => whnf
  refine acall.pure _ (hb) rfl rfl fun _ => ?_
  conv => whnf
  refine acall.pure _ (hpr) rfl rfl fun _ => ?_
  conv => whnf
  refine CutL.by (fun _ : Unit => ⟨[(1, .tr (ts s))], [], 10⟩) (fun _ => True) ?_ ?_
  · conv => whnf
    refine csplit (fun h1 => ?_) (fun h1 => ?_)
    · have hz : why = 0 := eq_of_beq h1
      have hpa := hpa hz
      conv => whnf
      refine acall.pure _ (hpa) rfl rfl fun _ => ?_
      conv => whnf
      refine acall.pure _ (hsa) rfl rfl fun _ => ?_
      conv => whnf
      exact ⟨(), [], [], Sub.mk' rfl ⟨.inl rfl, trivial⟩ trivial rfl rfl, trivial⟩
    · conv => whnf
      exact ⟨(), [], [], Sub.mk' rfl ⟨.inl rfl, trivial⟩ trivial rfl rfl, trivial⟩
  rintro - - -
  conv => whnf
  refine acall.pure _ (hps) rfl rfl fun _ => ?_
  conv => whnf
  rcases hbk with ⟨q1, q2, q3, q4⟩ | ⟨q1, q2⟩
  · have q2 : m = [] := q2
    subst q2
    have c1 : (no != 0) = true := by simpa using q1
    have c2 : decide (at_ ≥ 0) = true := decide_eq_true q3
    have c3 : decide (at_ ≤ (s.size : Int)) = true := decide_eq_true q4
    refine csplit (fun _ => ?_) (fun g => ctf c1 g)
    conv => whnf
    (repeat (refine csplit (fun _ => ?_) (fun g => ctf c2 g); conv => whnf))
    refine ⟨.inl (congrArg tb c3), trivial⟩
  · have q1 : no = 0 := q1
    subst q1
    subst q2
    conv => whnf
    refine acall.pure _ (hpb) rfl rfl fun _ => ?_
    conv => whnf
    have e : (s.toList == s.toList) = true := beq_self_eq_true _
    exact ⟨.inl (congrArg tb e), trivial⟩
end Go.Proofs.YtioafhkkkmfkdaaGreatDoor.am
