/- Plain: what is read from a text is written so. Plain: an instruction's words are read as that instruction. Plain: an object's text is read as that object. Contracts of the reference's texts (seat of Rights): words, numbers, an instruction's line; target.Show. Contract of the reference's Show: the line is target's. Contract of the reference's Print: the text is target's. -/
import Derived.Test.YtffhoknkfohfgaaGreatDoorU11
import Derived.Test.YtffhoknkfohfgaaGreatDoorU9
import Derived.Test.YtffhoknkfohfgaaGreatDoorU7
import Derived.Test.YtffhoknkfohfgaaGreatDoorU10
set_option linter.all false

namespace Go.Proofs.YtffhoknkfohfgaaGreatDoor.am
open Go Go.Proofs
theorem joinB_mk (ws : List (List UInt8)) : joinB (ws.map mkB) = mkB (jn ws) := by
  unfold joinB joinL
  rw [List.map_map, show ((fun x : ByteArray => x.data.toList) ∘ mkB) = id from funext mkB_data, List.map_id, jn_join]; rfl
theorem jn_cons : ∀ (w : List UInt8) (ws : List (List UInt8)), jn (w :: ws) = w ++ ws.flatMap (32 :: ·)
  | w, [] => by simp [jn]
  | w, v :: r => by
    show w ++ 32 :: jn (v :: r) = _
    rw [jn_cons v r]; simp
theorem map_mk_inj : ∀ {a b : List (List UInt8)}, a.map mkB = b.map mkB → a = b
  | [], [], _ => rfl
  | [], _ :: _, h => by simp at h
  | _ :: _, [], h => by simp at h
  | x :: a, y :: b, h => by
    simp only [List.map_cons, List.cons.injEq] at h
    rw [mkB_inj h.1, map_mk_inj h.2]
theorem text_back {l : List UInt8} {i : Ins} (h : instrS (mkB l) = (i, true)) : textB i = mkB l := by
  obtain ⟨ws, e1, e2, rfl⟩ := words_ex _ l (Nat.le_refl _)
  unfold instrS at h
  rw [split_jn e1 e2] at h
  unfold textB
  rw [instrL_back h, joinB_mk]
def prnCs (cs : List Cor) : List UInt8 := cs.flatMap coreP
theorem coreP_new (n : ByteArray) : coreP (newC n) = coreW.data.toList ++ 32 :: n.data.toList ++ [10] := by
  simp [coreP, newC, coreW]
theorem coreP_add (n : ByteArray) (c : List Ins) (i : Ins) : coreP ⟨n, c ++ [i]⟩ = coreP ⟨n, c⟩ ++ insP i := by
  simp [coreP]
theorem insP_eq (i : Ins) : insP i = (textB i).data.toList ++ [10] := by simp [insP]
theorem addI_snoc (cs : List Cor) (c : Cor) (i : Ins) : addI (cs ++ [c]) i = cs ++ [⟨c.name, c.code ++ [i]⟩] := by
  unfold addI
  rw [List.length_append, List.length_cons, List.length_nil, Nat.zero_add, Nat.add_sub_cancel, List.getElem?_append_right (Nat.le_refl _), Nat.sub_self]
  show (cs ++ [c]).set cs.length _ = _
  rw [List.set_append_right _ _ (Nat.le_refl _), Nat.sub_self]; rfl
theorem further_back {cs cs' : List Cor} {l : List UInt8} (h : furtherS cs (mkB l) = some cs') : prnCs cs' = prnCs cs ++ (l ++ [10]) := by
  unfold furtherS at h
  cases hc : isCore (splitBl (mkB l)) with
  | some n =>
    rw [hc] at h
    obtain rfl : cs ++ [newC n] = cs' := by simpa using h
    obtain ⟨ws, e1, e2, rfl⟩ := words_ex _ l (Nat.le_refl _)
    rw [split_jn e1 e2] at hc
    unfold isCore at hc
    split at hc
    · rename_i w m hw
      match ws, hw with
      | [w0, n0], hw =>
        simp only [List.map_cons, List.map_nil, List.cons.injEq, and_true] at hw
        obtain ⟨rfl, rfl⟩ := hw
        cases hs : seq (mkB w0) coreW
        · rw [hs] at hc; cases hc
        · rw [hs] at hc
          obtain rfl : mkB n0 = n := by simpa using hc
          have hw0 := seq_ba.1 hs
          have : w0 = coreW.data.toList := by rw [← hw0, mkB_data]
          unfold prnCs
          rw [List.flatMap_append, List.flatMap_cons, List.flatMap_nil, List.append_nil, coreP_new, mkB_data, this]
          rfl
    · cases hc
  | none =>
    rw [hc] at h
    replace h : (bif !(instrS (mkB l)).2 || (cs.length : Int) == 0 then none else some (addI cs (instrS (mkB l)).1)) = some cs' := h
    cases hb : (!(instrS (mkB l)).2 || (cs.length : Int) == 0)
    · rw [hb] at h
      obtain rfl : addI cs (instrS (mkB l)).1 = cs' := by simpa using h
      simp only [Bool.or_eq_false_iff, Bool.not_eq_false'] at hb
      have ht := text_back (l := l) (i := (instrS (mkB l)).1) (Prod.ext rfl hb.1)
      have hne : cs ≠ [] := fun e => by rw [e] at hb; exact absurd hb.2 (by decide)
      have hl := List.dropLast_concat_getLast hne
      generalize cs.dropLast = q at hl
      generalize cs.getLast hne = c at hl
      subst hl
      obtain ⟨n, c⟩ := c
      rw [addI_snoc]
      unfold prnCs
      rw [List.flatMap_append, List.flatMap_cons, List.flatMap_nil, List.append_nil, coreP_add, insP_eq, ht, mkB_data, List.flatMap_append, List.flatMap_cons, List.flatMap_nil, List.append_nil, List.append_assoc]
    · rw [hb] at h; cases h
theorem runC_back : ∀ {ls : List (List UInt8)} {cs cs' : List Cor}, runC ls cs = some cs' → prnCs cs' = prnCs cs ++ unl ls
  | [], cs, cs', h => by
    obtain rfl : cs = cs' := by simpa [runC] using h
    simp [unl]
  | l :: ls, cs, cs', h => by
    have h : (match furtherS cs (mkB l) with | none => none | some cs' => runC ls cs') = some cs' := h
    cases hf : furtherS cs (mkB l) with
    | none => rw [hf] at h; cases h
    | some c1 =>
      rw [hf] at h
      rw [runC_back h, further_back hf]
      simp [unl]
theorem memG_back : ∀ {r : List ByteArray} {mem : List Int}, memG r = some mem → r = mem.map prnB
  | [], mem, h => by
    obtain rfl : [] = mem := by simpa [memG] using h
    rfl
  | s :: r, mem, h => by
    have h : (bif (prsB s).2.1 != 0 then none else (memG r).map fun l => (prsB s).1 :: l) = some mem := h
    cases hb : (prsB s).2.1 != 0
    · rw [hb] at h
      obtain ⟨m, h1, h2⟩ := map_inv (show (memG r).map (fun l => (prsB s).1 :: l) = some mem from h)
      rw [← h2, List.map_cons, ← memG_back h1]
      congr 1
      exact (prs_back' s (by simpa using hb)).1
    · rw [hb] at h; cases h
theorem fl_congr {α β : Type} {f g : α → List β} : ∀ {l : List α}, (∀ x ∈ l, f x = g x) → l.flatMap f = l.flatMap g
  | [], _ => rfl
  | a :: l, h => by rw [List.flatMap_cons, List.flatMap_cons, h a (.head _), fl_congr fun x hx => h x (.tail _ hx)]
theorem mem_back {m : List UInt8} {mem : List Int} (h : memL (splitBl (mkB m)) = some mem) : m = memW.data.toList ++ mem.flatMap memP := by
  obtain ⟨wds, e1, e2, rfl⟩ := words_ex _ m (Nat.le_refl _)
  rw [split_jn e1 e2] at h
  cases wds with
  | nil => exact absurd rfl e1
  | cons w wds =>
    have h : (bif seq (mkB w) memW then memG (wds.map mkB) else none) = some mem := h
    cases hs : seq (mkB w) memW
    · rw [hs] at h; cases h
    · rw [hs] at h
      have hm := memG_back (show memG (wds.map mkB) = some mem from h)
      have hw : w = memW.data.toList := by rw [← seq_ba.1 hs, mkB_data]
      have hws : wds = mem.map ws.prn := by
        apply map_mk_inj
        rw [hm, List.map_map]; rfl
      rw [jn_cons, hw, hws, List.flatMap_map]
      exact congrArg _ (fl_congr fun x _ => by simp [memP, prnB])
theorem head_back {l : List UInt8} {a b c : Int} (h : headL (splitBl (mkB l)) = some (a, b, c)) : l = objW.data.toList ++ (32 :: ws.prn a ++ (32 :: ws.prn b ++ 32 :: ws.prn c)) := by
  obtain ⟨wds, e1, e2, rfl⟩ := words_ex _ l (Nat.le_refl _)
  rw [split_jn e1 e2] at h
  unfold headL at h
  split at h
  · rename_i w x y z hw
    match wds, hw with
    | [w0, x0, y0, z0], hw =>
      simp only [List.map_cons, List.map_nil, List.cons.injEq, and_true] at hw
      obtain ⟨rfl, rfl, rfl, rfl⟩ := hw
      cases hb : (seq (mkB w0) objW && ((numS (mkB x0)).2 && ((numS (mkB y0)).2 && (numS (mkB z0)).2)))
      · rw [hb] at h; cases h
      · rw [hb] at h
        simp only [Bool.and_eq_true] at hb
        obtain ⟨h1, h2, h3, h4⟩ := hb
        simp only [cond_true, Option.some.injEq, Prod.mk.injEq] at h
        obtain ⟨rfl, rfl, rfl⟩ := h
        have f : ∀ {q : List UInt8}, (numS (mkB q)).2 = true → q = ws.prn (numS (mkB q)).1 := fun {q} hq => by
          have := congrArg (fun s : ByteArray => s.data.toList) (num_back hq).1
          simp only [mkB_data, prn_data] at this
          exact this
        have hw0 : w0 = objW.data.toList := by rw [← seq_ba.1 h1, mkB_data]
        rw [← f h2, ← f h3, ← f h4, hw0]
        simp [jn]
  · cases h
theorem headP_data (o : Ob) : (headP o).data.toList = objW.data.toList ++ (32 :: ws.prn o.shared ++ (32 :: ws.prn o.locks ++ 32 :: ws.prn o.buffer)) ++ 10 :: memW.data.toList := by
  simp [headP, objW, memW, prnB]
end Go.Proofs.YtffhoknkfohfgaaGreatDoor.am

namespace Go.Proofs.YtffhoknkfohfgaaGreatDoor.am
open Go Go.Proofs
/-! characters -/
theorem dig_chars : ∀ (f n : Nat), n ≤ f → ∀ c ∈ ws.dig n, 48 ≤ c.toNat ∧ c.toNat ≤ 57
  | f, n, hf, c, hc => by
    by_cases hn : n < 10
    · rw [ws.dig_small hn] at hc
      simp only [List.mem_cons, List.not_mem_nil, or_false] at hc
      rw [hc, ws.dch_toNat hn]; omega
    · rw [ws.dig_big hn, List.mem_append] at hc
      rcases hc with hc | hc
      · cases f with
        | zero => omega
        | succ f => exact dig_chars f (n / 10) (by omega) c hc
      · simp only [List.mem_cons, List.not_mem_nil, or_false] at hc
        rw [hc, ws.dch_toNat (by omega)]; omega
theorem prn_chars (n : Int) : ∀ c ∈ ws.prn n, c.toNat = 45 ∨ (48 ≤ c.toNat ∧ c.toNat ≤ 57) := by
  intro c hc
  unfold ws.prn at hc
  split at hc
  · rcases List.mem_cons.1 hc with rfl | hc
    · exact .inl rfl
    · exact .inr (dig_chars _ _ (Nat.le_refl _) c hc)
  · exact .inr (dig_chars _ _ (Nat.le_refl _) c hc)
/-- a byte of a word: neither a blank, nor a line's end, nor @ -/
def okc (c : UInt8) : Prop := c ≠ 32 ∧ c ≠ 10 ∧ c ≠ 64
theorem okc_of {c : UInt8} (h : c.toNat = 45 ∨ (48 ≤ c.toNat ∧ c.toNat ≤ 57)) : okc c := by
  refine ⟨?_, ?_, ?_⟩ <;> (rintro rfl; revert h; decide)
def okw (s : ByteArray) : Prop := ∀ c ∈ s.data.toList, okc c
theorem okw_prn (n : Int) : okw (prnB n) := fun c hc => okc_of (prn_chars n c (by rwa [prn_data] at hc))
theorem okw_reg (n : Int) : okw (regB n) := by
  intro c hc
  have e : (regB n).data.toList = 114 :: ws.prn n := by simp [regB, prnB]
  rw [e] at hc
  rcases List.mem_cons.1 hc with rfl | hc
  · exact ⟨by decide, by decide, by decide⟩
  · exact okc_of (prn_chars n c hc)
instance (c : UInt8) : Decidable (okc c) := by unfold okc; infer_instance
theorem okw_kword {k : Int} (hk : 1 ≤ k ∧ k < 11) : okw (kword k) := by
  have hc : k = 1 ∨ k = 2 ∨ k = 3 ∨ k = 4 ∨ k = 5 ∨ k = 6 ∨ k = 7 ∨ k = 8 ∨ k = 9 ∨ k = 10 := by omega
  rcases hc with rfl | rfl | rfl | rfl | rfl | rfl | rfl | rfl | rfl | rfl <;> (unfold okw; decide)
theorem op_cases {op : Int} (h : 1 ≤ op ∧ op ≤ 18) : op = 1 ∨ op = 2 ∨ op = 3 ∨ op = 4 ∨ op = 5 ∨ op = 6 ∨ op = 7 ∨ op = 8 ∨ op = 9 ∨ op = 10 ∨ op = 11 ∨ op = 12 ∨ op = 13 ∨ op = 14 ∨ op = 15 ∨ op = 16 ∨ op = 17 ∨ op = 18 := by omega
theorem okw_opword {op : Int} (h : 1 ≤ op ∧ op ≤ 18) : okw (opword op) := by
  rcases op_cases h with rfl | rfl | rfl | rfl | rfl | rfl | rfl | rfl | rfl | rfl | rfl | rfl | rfl | rfl | rfl | rfl | rfl | rfl <;> (unfold okw; decide)
/-! kinds -/
theorem kind_wordB : ((List.range 11).all fun k : Nat => k == 0 || k == 2 || decide (kindS (kword (k : Int)) = ((k : Int), (0 : Int), true))) = true := by kernel_rfl
theorem kind_word {k : Int} (hk : 1 ≤ k ∧ k < 11) (h2 : k ≠ 2) : kindS (kword k) = (k, 0, true) := by
  have h := List.all_eq_true.1 kind_wordB k.toNat (List.mem_range.2 (by omega))
  simp only [Bool.or_eq_true, beq_iff_eq, decide_eq_true_eq] at h
  rw [Int.toNat_of_nonneg (by omega)] at h
  rcases h with (h | h) | h
  · omega
  · omega
  · exact h
theorem kind_opB : ((List.range 19).all fun k : Nat => k == 0 || decide (kindS (opword (k : Int)) = ((2 : Int), (k : Int), true))) = true := by kernel_rfl
theorem kind_op {op : Int} (h : 1 ≤ op ∧ op ≤ 18) : kindS (opword op) = (2, op, true) := by
  have h := List.all_eq_true.1 kind_opB op.toNat (List.mem_range.2 (by omega))
  simp only [Bool.or_eq_true, beq_iff_eq, decide_eq_true_eq] at h
  rw [Int.toNat_of_nonneg (by omega)] at h
  rcases h with h | h
  · omega
  · exact h
/-! fields -/
theorem reg_fwd (i : Ins) {u n : Int} (hu : u = 2 ∨ u = 4 ∨ u = 8) (h0 : 0 ≤ n) (h1 : n ≤ 9223372036854775807) : fieldS i u (regB n) = (setF i u n, true) := by
  have hp := tl_cons 114 (prnB n)
  have e1 : prefB (regB n) rS = true := hp.1
  have e2 : tlS (regB n) = prnB n := hp.2
  rcases hu with rfl | rfl | rfl <;> (show (bif prefB (regB n) rS then (setF i _ (numS (tlS (regB n))).1, (numS (tlS (regB n))).2) else (i, false)) = _; rw [e1, e2, num_prn h0 h1]; rfl)
theorem num_fwd (i : Ins) {u n : Int} (hu : u = 16 ∨ u = 32) (h0 : 0 ≤ n) (h1 : n ≤ 9223372036854775807) : fieldS i u (prnB n) = (setF i u n, true) := by
  rcases hu with rfl | rfl <;> (show (setF i _ (numS (prnB n)).1, (numS (prnB n)).2) = _; rw [num_prn h0 h1])
theorem word_fwd (i : Ins) {n : Int} (h : in64 n) : fieldS i 64 (prnB n) = (setF i 64 n, true) := by
  show (setF i 64 (prsB (prnB n)).1, (prsB (prnB n)).2.1 == 0) = _
  rw [prs_prnB h]; rfl
theorem fG_skip {all u : Int} {us : List Int} {i : Ins} {l : List ByteArray} (h : skip all u = true) : fieldsG all (u :: us) i l = fieldsG all us i l := fieldsG_skip h
theorem fG_go {all u : Int} {us : List Int} {i i' : Ins} {s : ByteArray} {l : List ByteArray} (h : skip all u = false) (hf : fieldS i u s = (i', true)) : fieldsG all (u :: us) i (s :: l) = fieldsG all us i' l := by
  rw [fieldsG_cons, show (band u all == 0 || u == 1) = false from h, cond_false]
  simp only [hf, Bool.not_true, cond_false]
theorem fG_nil (all : Int) (i : Ins) : fieldsG all [] i [] = (i, true) := rfl
theorem instrG_mk {i j : Ins} {w : ByteArray} {r : List ByteArray} {k op : Int} (hk : kindS w = (k, op, true)) (h : fieldsG (usedM k op) (kuse k) { i with kind := k, op := op } r = (j, true)) : instrG i (w :: r) = (j, true) := by
  show (bif !(kindS w).2.2 then ({ i with kind := (kindS w).1, op := (kindS w).2.1 }, false) else fieldsG (usedM (kindS w).1 (kindS w).2.1) (kuse (kindS w).1) { i with kind := (kindS w).1, op := (kindS w).2.1 } r) = _
  rw [hk]
  exact h


/-- an instruction's words but for where it comes from -/
def bodyW (i : Ins) : List ByteArray := (bif seq (kword i.kind) ⟨#[]⟩ then [] else [kword i.kind]) ++ fieldsW i
theorem bodyW_ne {i : Ins} (hk : 1 ≤ i.kind ∧ i.kind < 11) (h2 : i.kind ≠ 2) : bodyW i = kword i.kind :: fieldsW i := by
  unfold bodyW
  rw [kword_ne hk h2]; rfl
theorem bodyW_two {i : Ins} (h2 : i.kind = 2) : bodyW i = opword i.op :: (kuse 2).filterMap (fun u => bif skip (usedM 2 i.op) u then none else fieldW i u) := by
  rw [two_words h2]
  unfold bodyW
  rw [h2, show seq (kword 2) ⟨#[]⟩ = true from seq_ba.2 (by decide)]; rfl
set_option maxRecDepth 100000 in
theorem instrG_fwd {code mem : Int} (hc : code ≤ 9223372036854775807) (hm9 : mem ≤ 9223372036854775807) {i : Ins} (hr : rightB i code mem = true) (hw : in64 i.word) : instrG { zeroI with from_ := i.from_ } (bodyW i) = (i, true) := by
  obtain ⟨hk, hf, ho, hd, ha, hb, hm, ht, hwz⟩ := right_inv hr
  clear hr
  obtain ⟨kind, op, d, a, b, addr, to_, word, from_⟩ := i
  simp only at hk hf ho hd ha hb hm ht hwz hw
  by_cases h2 : kind = 2
  · subst h2
    rw [bodyW_two rfl]
    cases h2 : two op
    · have e : usedM 2 op = 7 := by unfold usedM; rw [h2]; rfl
      rw [e] at ho hd ha hb hm ht hwz
      have ho := ho.2 (by decide)
      have hd := hd.2 (by decide)
      have ha := ha.2 (by decide)
      obtain rfl := hb.1 (by decide)
      obtain rfl := hm.1 (by decide)
      obtain rfl := ht.1 (by decide)
      obtain rfl := hwz (by decide)
      refine instrG_mk (kind_op ho) ?_
      rw [e]
      show fieldsG 7 [1, 2, 4, 8] _ [regB d, regB a] = _
      exact (fG_skip (by decide)).trans ((fG_go (by decide) (reg_fwd _ (.inl rfl) hd.1 (by omega))).trans ((fG_go (by decide) (reg_fwd _ (.inr (.inl rfl)) ha.1 (by omega))).trans ((fG_skip (by decide)).trans rfl)))
    · have e : usedM 2 op = 15 := by unfold usedM; rw [h2]; rfl
      rw [e] at ho hd ha hb hm ht hwz
      have ho := ho.2 (by decide)
      have hd := hd.2 (by decide)
      have ha := ha.2 (by decide)
      have hb := hb.2 (by decide)
      obtain rfl := hm.1 (by decide)
      obtain rfl := ht.1 (by decide)
      obtain rfl := hwz (by decide)
      refine instrG_mk (kind_op ho) ?_
      rw [e]
      show fieldsG 15 [1, 2, 4, 8] _ [regB d, regB a, regB b] = _
      exact (fG_skip (by decide)).trans ((fG_go (by decide) (reg_fwd _ (.inl rfl) hd.1 (by omega))).trans ((fG_go (by decide) (reg_fwd _ (.inr (.inl rfl)) ha.1 (by omega))).trans ((fG_go (by decide) (reg_fwd _ (.inr (.inr rfl)) hb.1 (by omega))).trans rfl)))
  · rw [bodyW_ne hk h2]
    have hkk := kind_word hk h2
    have hc10 : kind = 1 ∨ kind = 3 ∨ kind = 4 ∨ kind = 5 ∨ kind = 6 ∨ kind = 7 ∨ kind = 8 ∨ kind = 9 ∨ kind = 10 := by omega
    clear hk h2
    rcases hc10 with rfl | rfl | rfl | rfl | rfl | rfl | rfl | rfl | rfl
    · have e : usedM 1 op = 66 := rfl
      rw [e] at ho hd ha hb hm ht hwz
      obtain rfl := ho.1 (by decide)
      have hd := hd.2 (by decide)
      obtain rfl := ha.1 (by decide)
      obtain rfl := hb.1 (by decide)
      obtain rfl := hm.1 (by decide)
      obtain rfl := ht.1 (by decide)
      refine instrG_mk hkk ?_
      rw [show usedM 1 0 = 66 from rfl]
      show fieldsG 66 [2, 64, 0, 0] _ [regB d, prnB word] = _
      exact (fG_go (by decide) (reg_fwd _ (.inl rfl) hd.1 (by omega))).trans ((fG_go (by decide) (word_fwd _ hw)).trans ((fG_skip (by decide)).trans ((fG_skip (by decide)).trans (rfl))))
    · have e : usedM 3 op = 18 := rfl
      rw [e] at ho hd ha hb hm ht hwz
      obtain rfl := ho.1 (by decide)
      have hd := hd.2 (by decide)
      obtain rfl := ha.1 (by decide)
      obtain rfl := hb.1 (by decide)
      have hm := hm.2 (by decide)
      obtain rfl := ht.1 (by decide)
      obtain rfl := hwz (by decide)
      refine instrG_mk hkk ?_
      rw [show usedM 3 0 = 18 from rfl]
      show fieldsG 18 [2, 16, 0, 0] _ [regB d, prnB addr] = _
      exact (fG_go (by decide) (reg_fwd _ (.inl rfl) hd.1 (by omega))).trans ((fG_go (by decide) (num_fwd _ (.inl rfl) hm.1 (by omega))).trans ((fG_skip (by decide)).trans ((fG_skip (by decide)).trans (rfl))))
    · have e : usedM 4 op = 20 := rfl
      rw [e] at ho hd ha hb hm ht hwz
      obtain rfl := ho.1 (by decide)
      obtain rfl := hd.1 (by decide)
      have ha := ha.2 (by decide)
      obtain rfl := hb.1 (by decide)
      have hm := hm.2 (by decide)
      obtain rfl := ht.1 (by decide)
      obtain rfl := hwz (by decide)
      refine instrG_mk hkk ?_
      rw [show usedM 4 0 = 20 from rfl]
      show fieldsG 20 [4, 16, 0, 0] _ [regB a, prnB addr] = _
      exact (fG_go (by decide) (reg_fwd _ (.inr (.inl rfl)) ha.1 (by omega))).trans ((fG_go (by decide) (num_fwd _ (.inl rfl) hm.1 (by omega))).trans ((fG_skip (by decide)).trans ((fG_skip (by decide)).trans (rfl))))
    · have e : usedM 5 op = 18 := rfl
      rw [e] at ho hd ha hb hm ht hwz
      obtain rfl := ho.1 (by decide)
      have hd := hd.2 (by decide)
      obtain rfl := ha.1 (by decide)
      obtain rfl := hb.1 (by decide)
      have hm := hm.2 (by decide)
      obtain rfl := ht.1 (by decide)
      obtain rfl := hwz (by decide)
      refine instrG_mk hkk ?_
      rw [show usedM 5 0 = 18 from rfl]
      show fieldsG 18 [2, 16, 0, 0] _ [regB d, prnB addr] = _
      exact (fG_go (by decide) (reg_fwd _ (.inl rfl) hd.1 (by omega))).trans ((fG_go (by decide) (num_fwd _ (.inl rfl) hm.1 (by omega))).trans ((fG_skip (by decide)).trans ((fG_skip (by decide)).trans (rfl))))
    · have e : usedM 6 op = 0 := rfl
      rw [e] at ho hd ha hb hm ht hwz
      obtain rfl := ho.1 (by decide)
      obtain rfl := hd.1 (by decide)
      obtain rfl := ha.1 (by decide)
      obtain rfl := hb.1 (by decide)
      obtain rfl := hm.1 (by decide)
      obtain rfl := ht.1 (by decide)
      obtain rfl := hwz (by decide)
      refine instrG_mk hkk ?_
      rw [show usedM 6 0 = 0 from rfl]
      show fieldsG 0 [0, 0, 0, 0] _ [] = _
      exact (fG_skip (by decide)).trans ((fG_skip (by decide)).trans ((fG_skip (by decide)).trans ((fG_skip (by decide)).trans (rfl))))
    · have e : usedM 7 op = 4 := rfl
      rw [e] at ho hd ha hb hm ht hwz
      obtain rfl := ho.1 (by decide)
      obtain rfl := hd.1 (by decide)
      have ha := ha.2 (by decide)
      obtain rfl := hb.1 (by decide)
      obtain rfl := hm.1 (by decide)
      obtain rfl := ht.1 (by decide)
      obtain rfl := hwz (by decide)
      refine instrG_mk hkk ?_
      rw [show usedM 7 0 = 4 from rfl]
      show fieldsG 4 [4, 0, 0, 0] _ [regB a] = _
      exact (fG_go (by decide) (reg_fwd _ (.inr (.inl rfl)) ha.1 (by omega))).trans ((fG_skip (by decide)).trans ((fG_skip (by decide)).trans ((fG_skip (by decide)).trans (rfl))))
    · have e : usedM 8 op = 32 := rfl
      rw [e] at ho hd ha hb hm ht hwz
      obtain rfl := ho.1 (by decide)
      obtain rfl := hd.1 (by decide)
      obtain rfl := ha.1 (by decide)
      obtain rfl := hb.1 (by decide)
      obtain rfl := hm.1 (by decide)
      have ht := ht.2 (by decide)
      obtain rfl := hwz (by decide)
      refine instrG_mk hkk ?_
      rw [show usedM 8 0 = 32 from rfl]
      show fieldsG 32 [32, 0, 0, 0] _ [prnB to_] = _
      exact (fG_go (by decide) (num_fwd _ (.inr rfl) ht.1 (by omega))).trans ((fG_skip (by decide)).trans ((fG_skip (by decide)).trans ((fG_skip (by decide)).trans (rfl))))
    · have e : usedM 9 op = 36 := rfl
      rw [e] at ho hd ha hb hm ht hwz
      obtain rfl := ho.1 (by decide)
      obtain rfl := hd.1 (by decide)
      have ha := ha.2 (by decide)
      obtain rfl := hb.1 (by decide)
      obtain rfl := hm.1 (by decide)
      have ht := ht.2 (by decide)
      obtain rfl := hwz (by decide)
      refine instrG_mk hkk ?_
      rw [show usedM 9 0 = 36 from rfl]
      show fieldsG 36 [4, 32, 0, 0] _ [regB a, prnB to_] = _
      exact (fG_go (by decide) (reg_fwd _ (.inr (.inl rfl)) ha.1 (by omega))).trans ((fG_go (by decide) (num_fwd _ (.inr rfl) ht.1 (by omega))).trans ((fG_skip (by decide)).trans ((fG_skip (by decide)).trans (rfl))))
    · have e : usedM 10 op = 0 := rfl
      rw [e] at ho hd ha hb hm ht hwz
      obtain rfl := ho.1 (by decide)
      obtain rfl := hd.1 (by decide)
      obtain rfl := ha.1 (by decide)
      obtain rfl := hb.1 (by decide)
      obtain rfl := hm.1 (by decide)
      obtain rfl := ht.1 (by decide)
      obtain rfl := hwz (by decide)
      refine instrG_mk hkk ?_
      rw [show usedM 10 0 = 0 from rfl]
      show fieldsG 0 [0, 0, 0, 0] _ [] = _
      exact (fG_skip (by decide)).trans ((fG_skip (by decide)).trans ((fG_skip (by decide)).trans ((fG_skip (by decide)).trans (rfl))))
end Go.Proofs.YtffhoknkfohfgaaGreatDoor.am

namespace Go.Proofs.YtffhoknkfohfgaaGreatDoor.am
open Go Go.Proofs
theorem okw_field {i : Ins} {u : Int} {w : ByteArray} (h1 : u ≠ 1) (h : fieldW i u = some w) : okw w := by
  unfold fieldW at h
  rw [show (u == 1) = false from beq_eq_false_iff_ne.2 h1] at h
  cases e2 : (u == 2) <;> rw [e2] at h
  · cases e3 : (u == 4) <;> rw [e3] at h
    · cases e4 : (u == 8) <;> rw [e4] at h
      · cases e5 : (u == 16) <;> rw [e5] at h
        · cases e6 : (u == 32) <;> rw [e6] at h
          · cases e7 : (u == 64) <;> rw [e7] at h
            · cases h
            · cases h; exact okw_prn _
          · cases h; exact okw_prn _
        · cases h; exact okw_prn _
      · cases h; exact okw_reg _
    · cases h; exact okw_reg _
  · cases h; exact okw_reg _
theorem op_right {i : Ins} {code mem : Int} (hR : RightF i code mem) (h2 : i.kind = 2) : 1 ≤ i.op ∧ i.op ≤ 18 := by
  refine hR.op.2 ?_
  rw [h2]
  unfold usedM
  generalize two i.op = t
  cases t <;> decide
theorem okw_used {i : Ins} {m : Int} {l : List Int} {w : ByteArray} (h : w ∈ l.filterMap fun u => bif skip m u then none else fieldW i u) : okw w := by
  obtain ⟨u, _, hu⟩ := List.mem_filterMap.1 h
  by_cases h1 : u = 1
  · rw [h1, show skip m 1 = true by unfold skip; simp] at hu; cases hu
  · cases hs : skip m u
    · rw [hs] at hu; exact okw_field h1 hu
    · rw [hs] at hu; cases hu
theorem body_cons {i : Ins} {code mem : Int} (hR : RightF i code mem) : ∃ w r, bodyW i = w :: r ∧ okw w ∧ (∀ x ∈ r, okw x) ∧ seq w coreW = false := by
  by_cases h2 : i.kind = 2
  · refine ⟨_, _, bodyW_two h2, okw_opword (op_right hR h2), fun x hx => okw_used hx, ?_⟩
    rcases op_cases (op_right hR h2) with h | h | h | h | h | h | h | h | h | h | h | h | h | h | h | h | h | h <;> (rw [h]; exact Bool.eq_false_iff.2 fun h => absurd (seq_ba.1 h) (by decide))
  · refine ⟨_, _, bodyW_ne hR.kind h2, okw_kword hR.kind, fun x hx => ?_, ?_⟩
    · rw [← used_words hR.kind h2] at hx
      exact okw_used hx
    · have hk := hR.kind
      have hc : i.kind = 1 ∨ i.kind = 3 ∨ i.kind = 4 ∨ i.kind = 5 ∨ i.kind = 6 ∨ i.kind = 7 ∨ i.kind = 8 ∨ i.kind = 9 ∨ i.kind = 10 := by omega
      rcases hc with h | h | h | h | h | h | h | h | h <;> (rw [h]; exact Bool.eq_false_iff.2 fun h => absurd (seq_ba.1 h) (by decide))
theorem words_eq (i : Ins) : wordsOf i = bodyW i ++ (bif i.from_ != 0 then [atB i.from_] else []) := rfl
theorem instr_fwd {code mem : Int} (hc : code ≤ 9223372036854775807) (hm9 : mem ≤ 9223372036854775807) {i : Ins} (hr : rightB i code mem = true) (hw : in64 i.word) : instrL (wordsOf i) = (i, true) := by
  have hG := instrG_fwd hc hm9 hr hw
  have hR := right_inv hr
  obtain ⟨w, r, hb, hw1, hr1, _⟩ := body_cons hR
  rw [words_eq]
  by_cases h0 : i.from_ = 0
  · rw [show (i.from_ != 0) = false by rw [h0]; rfl, cond_false, List.append_nil]
    have hp : prefB (lastS (bodyW i)) aS = false := by
      cases hp : prefB (lastS (bodyW i)) aS
      · rfl
      · exfalso
        have hne : bodyW i ≠ [] := by rw [hb]; simp
        have hl : lastS (bodyW i) ∈ bodyW i := by
          unfold lastS
          rw [List.getLast?_eq_some_getLast hne]
          exact List.getLast_mem hne
        have hok : okw (lastS (bodyW i)) := by
          rw [hb] at hl ⊢
          rcases List.mem_cons.1 hl with e | hl
          · rw [e]; exact hw1
          · exact hr1 _ hl
        exact (hok 64 (by rw [pref_cons hp]; exact .head _)).2.2 rfl
    unfold instrL
    rw [hp, Bool.and_false, cond_false]
    rw [h0] at hG
    exact hG
  · rw [show (i.from_ != 0) = true by simpa using h0, cond_true]
    have el : lastS (bodyW i ++ [atB i.from_]) = atB i.from_ := by unfold lastS; simp
    have hp := tl_cons 64 (prnB i.from_)
    have hl : decide (((bodyW i ++ [atB i.from_]).length : Int) > 1) = true := decide_eq_true (by rw [hb]; simp; omega)
    have e1 : prefB (atB i.from_) aS = true := hp.1
    have e2 : tlS (atB i.from_) = prnB i.from_ := hp.2
    unfold instrL
    rw [el, hl, e1, e2, num_prn hR.from_.1 (by have := hR.from_.2; omega), List.dropLast_concat]
    show (bif !true || i.from_ == 0 then (zeroI, false) else instrG { zeroI with from_ := i.from_ } (bodyW i)) = _
    rw [show (i.from_ == 0) = false from beq_eq_false_iff_ne.2 h0]
    exact hG
/-! lines -/
theorem jn_free {c : UInt8} (hc : c ≠ 32) : ∀ ws : List (List UInt8), (∀ w ∈ ws, c ∉ w) → c ∉ jn ws
  | [], _ => by simp [jn]
  | w :: ws, h => by
    rw [jn_cons, List.mem_append, not_or]
    refine ⟨h w (.head _), ?_⟩
    rw [List.mem_flatMap]
    rintro ⟨v, hv, hm⟩
    rcases List.mem_cons.1 hm with e | hm
    · exact hc e
    · exact h v (.tail _ hv) hm
theorem as_mk (ws : List ByteArray) : ws = (ws.map (·.data.toList)).map mkB := by
  apply map_data_inj
  simp [Function.comp_def, mkB_data]
def free (s : ByteArray) : Prop := 32 ∉ s.data.toList ∧ 10 ∉ s.data.toList
theorem okw.free {s : ByteArray} (h : okw s) : free s := ⟨fun hc => (h _ hc).1 rfl, fun hc => (h _ hc).2.1 rfl⟩
theorem split_join {ws : List ByteArray} (h0 : ws ≠ []) (h : ∀ w ∈ ws, free w) : splitBl (joinB ws) = ws ∧ 10 ∉ (joinB ws).data.toList := by
  obtain ⟨l, rfl⟩ : ∃ l : List (List UInt8), ws = l.map mkB := ⟨_, as_mk ws⟩
  have hl : ∀ x ∈ l, free (mkB x) := fun x hx => h _ (List.mem_map.2 ⟨x, hx, rfl⟩)
  rw [joinB_mk, mkB_data]
  refine ⟨split_jn (fun e => h0 (by rw [e]; rfl)) fun x hx => ?_, jn_free (by decide) _ fun x hx => ?_⟩
  · have := (hl x hx).1; rwa [mkB_data] at this
  · have := (hl x hx).2; rwa [mkB_data] at this
theorem free_at (n : Int) : free (atB n) := by
  have e : (atB n).data.toList = 64 :: ws.prn n := by simp [atB, prnB]
  have hp := okw_prn n
  unfold free
  rw [e]
  refine ⟨fun h => ?_, fun h => ?_⟩
  · rcases List.mem_cons.1 h with h | h
    · exact absurd h (by decide)
    · exact (hp 32 (by rw [prn_data]; exact h)).1 rfl
  · rcases List.mem_cons.1 h with h | h
    · exact absurd h (by decide)
    · exact (hp 10 (by rw [prn_data]; exact h)).2.1 rfl
theorem words_free {i : Ins} {code mem : Int} (hR : RightF i code mem) : wordsOf i ≠ [] ∧ ∀ w ∈ wordsOf i, free w := by
  obtain ⟨w, r, hb, hw1, hr1, _⟩ := body_cons hR
  rw [words_eq, hb]
  refine ⟨by simp, fun x hx => ?_⟩
  rcases List.mem_append.1 hx with hx | hx
  · rcases List.mem_cons.1 hx with rfl | hx
    · exact hw1.free
    · exact (hr1 x hx).free
  · cases h : (i.from_ != 0)
    · rw [h] at hx; cases hx
    · rw [h] at hx
      obtain rfl := List.mem_singleton.1 hx
      exact free_at _
theorem isCore_ne {w : ByteArray} {r : List ByteArray} (h : seq w coreW = false) : isCore (w :: r) = none := by
  match r with
  | [] => rfl
  | [a] => show (bif seq w coreW then some a else none) = none; rw [h]; rfl
  | _ :: _ :: _ => rfl
theorem text_split {i : Ins} {code mem : Int} (hR : RightF i code mem) : splitBl (textB i) = wordsOf i ∧ 10 ∉ (textB i).data.toList := by
  obtain ⟨h1, h2⟩ := words_free hR
  exact split_join h1 h2
theorem further_ins {code mem : Int} (hc : code ≤ 9223372036854775807) (hm9 : mem ≤ 9223372036854775807) {i : Ins} (hr : rightB i code mem = true) (hw : in64 i.word) (cs : List Cor) (n : ByteArray) (c0 : List Ins) :
    furtherS (cs ++ [⟨n, c0⟩]) (mkB (textB i).data.toList) = some (cs ++ [⟨n, c0 ++ [i]⟩]) := by
  have hR := right_inv hr
  rw [mkB_of]
  unfold furtherS instrS
  rw [(text_split hR).1, instr_fwd hc hm9 hr hw]
  obtain ⟨w, r, hb, _, _, hcw⟩ := body_cons hR
  rw [show isCore (wordsOf i) = none by rw [words_eq, hb]; exact isCore_ne hcw]
  show (bif !true || ((cs ++ [(⟨n, c0⟩ : Cor)]).length : Int) == 0 then none else some (addI (cs ++ [⟨n, c0⟩]) i)) = _
  rw [show (((cs ++ [(⟨n, c0⟩ : Cor)]).length : Int) == 0) = false from beq_eq_false_iff_ne.2 (by simp; omega), addI_snoc]; rfl
def textLn (i : Ins) : List UInt8 := (textB i).data.toList
def coreLn (n : ByteArray) : List UInt8 := jn [coreW.data.toList, n.data.toList]
def coreLns (c : Cor) : List (List UInt8) := coreLn c.name :: c.code.map textLn
def headLn (o : Ob) : List UInt8 := jn [objW.data.toList, ws.prn o.shared, ws.prn o.locks, ws.prn o.buffer]
def memLn (o : Ob) : List UInt8 := jn (memW.data.toList :: o.memory.map ws.prn)
def linesOf (o : Ob) : List (List UInt8) := headLn o :: memLn o :: o.cores.flatMap coreLns
theorem runC_code {code mem : Int} (hc : code ≤ 9223372036854775807) (hm9 : mem ≤ 9223372036854775807) (rest : List (List UInt8)) (cs : List Cor) (n : ByteArray) : ∀ (l c0 : List Ins), (∀ i ∈ l, rightB i code mem = true ∧ in64 i.word) →
    runC (l.map textLn ++ rest) (cs ++ [⟨n, c0⟩]) = runC rest (cs ++ [⟨n, c0 ++ l⟩])
  | [], c0, _ => by rw [List.append_nil]; rfl
  | i :: l, c0, h => by
    obtain ⟨h1, h2⟩ := h i (.head _)
    show (match furtherS (cs ++ [⟨n, c0⟩]) (mkB (textLn i)) with | none => none | some cs' => runC (l.map textLn ++ rest) cs') = _
    rw [show furtherS (cs ++ [⟨n, c0⟩]) (mkB (textLn i)) = _ from further_ins hc hm9 h1 h2 cs n c0]
    show runC (l.map textLn ++ rest) (cs ++ [⟨n, c0 ++ [i]⟩]) = _
    rw [runC_code hc hm9 rest cs n l _ fun x hx => h x (.tail _ hx), List.append_assoc]; rfl
theorem letB_okc {c : UInt8} (h : (!letB c.toNat && !digB c.toNat) = false) : okc c := by
  refine ⟨?_, ?_, ?_⟩ <;> (rintro rfl; revert h; decide)
theorem chars_all {s : ByteArray} : ∀ (n i : Nat), s.size - i = n → i ≤ s.size → charsB s (s.size - i) = true → ∀ c ∈ s.data.toList.drop i, okc c
  | 0, i, hn, hi, _, c, hc => by rw [ws.drop_end s i (by omega)] at hc; cases hc
  | n + 1, i, hn, hi, h, c, hc => by
    have hlt : i < s.size := by omega
    rw [charsB_at (b := s[i]) (by simp [hlt]) hlt] at h
    rw [ws.drop_at s i hlt] at hc
    cases hb : (!letB s[i].toNat && !digB s[i].toNat)
    · rw [hb] at h
      rcases List.mem_cons.1 hc with rfl | hc
      · exact letB_okc hb
      · exact chars_all n (i + 1) (by omega) (by omega) h c hc
    · rw [hb] at h; cases h
theorem okw_name {s : ByteArray} (h : nameB s = true) : okw s := by
  unfold nameB at h
  cases hb : (decide ((s.size : Int) < 1) || decide ((s.size : Int) > 32) || digB (chI s 0) || wordB s)
  · rw [hb] at h
    intro c hc
    exact chars_all s.size 0 (by omega) (Nat.zero_le _) h c (by rwa [List.drop_zero])
  · rw [hb] at h; cases h
theorem free_core : free coreW := by unfold free; decide
theorem free_obj : free objW := by unfold free; decide
theorem free_mem : free memW := by unfold free; decide
theorem jn_split {ws : List ByteArray} (h0 : ws ≠ []) (h : ∀ w ∈ ws, free w) : splitBl (mkB (jn (ws.map (·.data.toList)))) = ws ∧ 10 ∉ jn (ws.map (·.data.toList)) := by
  have := split_join h0 h
  have e : joinB ws = mkB (jn (ws.map (·.data.toList))) := by rw [← joinB_mk, ← as_mk]
  rw [e, mkB_data] at this
  exact this
theorem further_core {n : ByteArray} (h : nameB n = true) (cs : List Cor) : furtherS cs (mkB (coreLn n)) = some (cs ++ [newC n]) := by
  have hs := (jn_split (ws := [coreW, n]) (by simp) (fun w hw => by
    simp only [List.mem_cons, List.not_mem_nil, or_false] at hw
    rcases hw with rfl | rfl
    · exact free_core
    · exact (okw_name h).free)).1
  unfold furtherS
  rw [show splitBl (mkB (coreLn n)) = [coreW, n] from hs, show isCore [coreW, n] = some n from by unfold isCore; simp only [seq_ba.2 rfl, cond_true]]
theorem runC_cores {mem : Int} (hm9 : mem ≤ 9223372036854775807) : ∀ (l cs : List Cor), (∀ c ∈ l, nameB c.name = true ∧ c.code.length ≤ 16384 ∧ ∀ i ∈ c.code, rightB i c.code.length mem = true ∧ in64 i.word) → runC (l.flatMap coreLns) cs = some (cs ++ l)
  | [], cs, _ => by rw [List.append_nil]; rfl
  | c :: l, cs, h => by
    obtain ⟨h1, h2, h3⟩ := h c (.head _)
    rw [List.flatMap_cons]
    show (match furtherS cs (mkB (coreLn c.name)) with | none => none | some cs' => runC (c.code.map textLn ++ l.flatMap coreLns) cs') = _
    rw [further_core h1]
    show runC (c.code.map textLn ++ l.flatMap coreLns) (cs ++ [⟨c.name, []⟩]) = _
    rw [runC_code (by omega) hm9 _ cs c.name c.code [] h3, List.nil_append, runC_cores hm9 l _ fun x hx => h x (.tail _ hx), List.append_assoc]; rfl
theorem memG_fwd : ∀ {l : List Int}, (∀ w ∈ l, in64 w) → memG (l.map prnB) = some l
  | [], _ => rfl
  | w :: l, h => by
    show (bif (prsB (prnB w)).2.1 != 0 then none else (memG (l.map prnB)).map fun l => (prsB (prnB w)).1 :: l) = _
    rw [prs_prnB (h w (.head _)), memG_fwd fun x hx => h x (.tail _ hx)]; rfl
/-! sizes -/
theorem iok_right {i : Ins} {code mem : Int} (hc : code ≤ 16384) (hm : mem ≤ 4096) (hR : RightF i code mem) (hw : in64 i.word) : IOk i := by
  have z : ∀ {P : Prop} {x b : Int}, (P → x = 0) ∧ (¬ P → 0 ≤ x ∧ x < b) → b ≤ 16384 → 0 ≤ x ∧ x ≤ 16384 := fun {P x b} h hb => by
    by_cases hp : P
    · have := h.1 hp; omega
    · have := h.2 hp; omega
  have hd := z hR.d (by decide)
  have ha := z hR.a (by decide)
  have hb := z hR.b (by decide)
  have h1 := z hR.addr (by omega)
  have h2 := z hR.to_ hc
  have hk := hR.kind
  have hf := hR.from_
  have ho : 0 ≤ i.op ∧ i.op ≤ 18 := by
    by_cases hp : band (usedM i.kind i.op) 1 = 0
    · have := hR.op.1 hp; omega
    · have := hR.op.2 hp; omega
  exact ⟨by omega, by omega, by omega, by omega, by omega, hw, by omega, by omega, by omega⟩
theorem insP_len {i : Ins} (hi : IOk i) (hk : 1 ≤ i.kind ∧ i.kind < 11) : (insP i).length ≤ 116 := by
  have := text_len hi hk
  unfold insP
  rw [dat_len, size_add]
  have : (⟨#[10]⟩ : ByteArray).size = 1 := rfl
  omega
end Go.Proofs.YtffhoknkfohfgaaGreatDoor.am

namespace Go.Proofs.YtffhoknkfohfgaaGreatDoor.am
open Go Go.Proofs
theorem z_print (n : Int) : K 38 [.tr (ti n)] [] (.ret (.tr (ts (prnB n)))) [] := by
  refine Ctr.ofCalls (fun _ _ => by kernel_rfl) fun g w vs hm hsz hv => ?_
  obtain ⟨v, rfl⟩ := one_arg hsz
  obtain ⟨rfl, h1, h2⟩ := val_inv (hv 0 v (.tr (ti n)) rfl rfl)
  refine (ws.rprint_any n w h1 h2).mono ?_
  rintro e w' ⟨rfl, hb⟩
  exact ⟨_, rfl, hb, fun _ _ => .tr (.v (Nat.le_trans (prn_len h1 h2) (by omega)))⟩
theorem z_natural (n : Int) : K 37 [.tr (ti n)] [] (.ret (.tr (ts (prnB n)))) [] := by
  refine Ctr.of hT hmix Tryz.func37 rfl (fun _ _ => by kernel_rfl) rfl fun hok => ?_
  clear hok
  conv => whnf
  refine acall.pure _ (z_print n) rfl rfl fun _ => ?_
  conv => whnf
  exact ⟨.inl rfl, trivial⟩
set_option maxRecDepth 100000 in
theorem z_kindWord {k : Int} (hk : 1 ≤ k ∧ k < 11) : K 35 [.tr (tu k)] [] (.ret (.tr (ts (kword k)))) [] := by
  have hc : k = 1 ∨ k = 2 ∨ k = 3 ∨ k = 4 ∨ k = 5 ∨ k = 6 ∨ k = 7 ∨ k = 8 ∨ k = 9 ∨ k = 10 := by omega
  clear hk
  rcases hc with rfl | rfl | rfl | rfl | rfl | rfl | rfl | rfl | rfl | rfl
  all_goals
    refine Ctr.of hT hmix Tryz.func35 rfl (fun _ _ => by kernel_rfl) rfl fun hok => ?_
    clear hok
    conv => whnf
    refine ⟨rfl, by decide, by decide, ?_⟩
    conv => whnf
    refine ⟨rfl, Nat.le_of_ble_eq_true rfl, fun row hrow => ?_⟩
    cases hrow
    conv => whnf
    refine ⟨Nat.le_of_ble_eq_true rfl, fun t ht => ?_⟩
    cases ht
    conv => whnf
    exact ⟨.inl rfl, trivial⟩
set_option maxRecDepth 100000 in
theorem z_opWord {op : Int} (h : 1 ≤ op ∧ op ≤ 18) : K 36 [.tr (tu op)] [] (.ret (.tr (ts (opword op)))) [] := by
  rcases op_cases h with rfl | rfl | rfl | rfl | rfl | rfl | rfl | rfl | rfl | rfl | rfl | rfl | rfl | rfl | rfl | rfl | rfl | rfl
  all_goals
    refine Ctr.of hT hmix Tryz.func36 rfl (fun _ _ => by kernel_rfl) rfl fun hok => ?_
    clear hok
    conv => whnf
    refine ⟨rfl, by decide, by decide, ?_⟩
    conv => whnf
    refine ⟨rfl, Nat.le_of_ble_eq_true rfl, fun row hrow => ?_⟩
    cases hrow
    conv => whnf
    refine ⟨Nat.le_of_ble_eq_true rfl, fun t ht => ?_⟩
    cases ht
    conv => whnf
    exact ⟨.inl rfl, trivial⟩
def showB (i : Ins) : ByteArray := bif rightB i 9223372036854775807 9223372036854775807 then textB i else ⟨#[]⟩
theorem k_show (i : Ins) : K 14 [i.av] [] (.ret (.tr (ts (showB i)))) [] := by
  refine Ctr.of hT hmix Tryz.func14 rfl (fun _ _ => by kernel_rfl) rfl fun hok => ?_
  clear hok
  have h1 := k_right i 9223372036854775807 9223372036854775807
  have h2 := k_text i
  unfold showB
  generalize rightB i 9223372036854775807 9223372036854775807 = B at h1 ⊢
  generalize textB i = T at h2 ⊢
  obtain ⟨kind, op, d, a, b, addr, to_, word, from_⟩ := i
  conv => whnf
  refine acall.pure _ (h1) rfl rfl fun _ => ?_
  conv => whnf
  cases B
  · conv => whnf
    exact ⟨.inl rfl, trivial⟩
  · conv => whnf
    refine acall.pure _ (h2) rfl rfl fun _ => ?_
    conv => whnf
    exact ⟨.inl rfl, trivial⟩
end Go.Proofs.YtffhoknkfohfgaaGreatDoor.am

namespace Go.Proofs.YtffhoknkfohfgaaGreatDoor.am
open Go Go.Proofs
theorem join_data (l : List ByteArray) : (joinB l).data.toList = jn (l.map (·.data.toList)) := by
  have e : joinB l = mkB (jn (l.map (·.data.toList))) := by rw [← joinB_mk, ← as_mk]
  rw [e, mkB_data]
theorem text_data {i : Ins} {w : ByteArray} {r : List ByteArray} (h : bodyW i = w :: r) : (textB i).data.toList = w.data.toList ++ (r.flatMap (fun x => 32 :: x.data.toList) ++ (bif i.from_ != 0 then 32 :: 64 :: ws.prn i.from_ else [])) := by
  unfold textB
  rw [join_data, words_eq, h, List.cons_append, List.map_cons, jn_cons, List.map_append, List.flatMap_append, List.flatMap_map]
  congr 2
  cases i.from_ != 0
  · rfl
  · simp [atB, prnB]
theorem from_pos {n : Int} (h : decide (n > 0) = true) : (n != 0) = true := by have := of_decide_eq_true h; simp; omega
theorem from_zero {n : Int} (h0 : 0 ≤ n) (h : decide (n > 0) = false) : (n != 0) = false := by have := of_decide_eq_false h; simp; omega

set_option maxRecDepth 100000 in
theorem z_show1 {op d a b addr to_ word from_ : Int} (hr : rightB ⟨1, op, d, a, b, addr, to_, word, from_⟩ 9223372036854775807 9223372036854775807 = true) (hw : in64 word) :
    K 15 [(Ins.mk 1 op d a b addr to_ word from_).av] [] (.ret (.tr (ts (textB ⟨1, op, d, a, b, addr, to_, word, from_⟩)))) [] := by
  have h1 := z_right ⟨1, op, d, a, b, addr, to_, word, from_⟩ 9223372036854775807 9223372036854775807
  rw [hr] at h1
  obtain ⟨hk, hf, ho, hd, ha, hb, hm, ht, hwz⟩ := right_inv hr
  clear hr
  simp only at hk hf ho hd ha hb hm ht hwz
  have e : usedM 1 op = 66 := rfl
  rw [e] at ho hd ha hb hm ht hwz
  obtain rfl := ho.1 (by decide)
  have hd := hd.2 (by decide)
  obtain rfl := ha.1 (by decide)
  obtain rfl := hb.1 (by decide)
  obtain rfl := hm.1 (by decide)
  obtain rfl := ht.1 (by decide)
  have hkw := z_kindWord (k := 1) (by decide)
  have hlen := kword_len 1 (by decide)
  have hbw : bodyW ⟨1, 0, d, 0, 0, 0, 0, word, from_⟩ = kword 1 :: [regB d, prnB word] := by rw [bodyW_ne (show (1 : Int) ≤ 1 ∧ (1 : Int) < 11 by decide) (show (1 : Int) ≠ 2 by decide)]; rfl
  have hu : K 28 [.tr (tu 1)] [] (.ret (.tup [.tr (tb true), .tr (tb false), .tr (tb false), .tr (tb false)])) [] := z_uses 1
  have hX := text_data hbw
  simp only at hX
  generalize textB ⟨1, 0, d, 0, 0, 0, 0, word, from_⟩ = X at hX ⊢
  clear hbw
  generalize kword 1 = Y at hkw hlen hX
  have z1 : (⟨#[32, 114]⟩ : ByteArray).size = 2 := rfl
  have z2 : (⟨#[32]⟩ : ByteArray).size = 1 := rfl
  have z3 : (⟨#[32, 64]⟩ : ByteArray).size = 2 := rfl
  have p2 := prn_len (n := d) (by omega) (by omega)
  have p64 := prn_len hw.1 hw.2
  have pf := prn_len (n := from_) (by omega) (by omega)
  refine Ctr.of hT hmix Tryz.func15 rfl (fun _ _ => by kernel_rfl) rfl fun hok => ?_
  clear hok
  conv => whnf
  refine acall.pure _ (h1) rfl rfl fun _ => ?_
  conv => whnf
  refine acall.pure _ (hkw) rfl rfl fun _ => ?_
  conv => whnf
  refine acall.pure _ (hu) rfl rfl fun _ => ?_
  conv => whnf
  refine ⟨by simp only [size_add, z1, z2, z3]; omega, ?_⟩
  conv => whnf
  refine acall.pure _ (z_natural d) rfl rfl fun _ => ?_
  conv => whnf
  refine ⟨by simp only [size_add, z1, z2, z3]; omega, ?_⟩
  conv => whnf
  refine ⟨by simp only [size_add, z1, z2, z3]; omega, ?_⟩
  conv => whnf
  refine acall.pure _ (z_print word) rfl rfl fun _ => ?_
  conv => whnf
  refine ⟨by simp only [size_add, z1, z2, z3]; omega, ?_⟩
  conv => whnf
  refine csplit (fun g => ?_) (fun g => ?_)
  · conv => whnf
    refine ⟨by simp only [size_add, z1, z2, z3]; omega, ?_⟩
    conv => whnf
    refine acall.pure _ (z_natural from_) rfl rfl fun _ => ?_
    conv => whnf
    refine ⟨by simp only [size_add, z1, z2, z3]; omega, ?_⟩
    conv => whnf
    rw [show (from_ != 0) = true from from_pos g] at hX
    exact ⟨.inl (congrArg ts (ba_ext (by rw [hX]; simp [regB, prnB]))), trivial⟩
  · conv => whnf
    rw [show (from_ != 0) = false from from_zero hf.1 g] at hX
    exact ⟨.inl (congrArg ts (ba_ext (by rw [hX]; simp [regB, prnB]))), trivial⟩

set_option maxRecDepth 100000 in
theorem z_show3 {op d a b addr to_ word from_ : Int} (hr : rightB ⟨3, op, d, a, b, addr, to_, word, from_⟩ 9223372036854775807 9223372036854775807 = true) (hw : in64 word) :
    K 15 [(Ins.mk 3 op d a b addr to_ word from_).av] [] (.ret (.tr (ts (textB ⟨3, op, d, a, b, addr, to_, word, from_⟩)))) [] := by
  have h1 := z_right ⟨3, op, d, a, b, addr, to_, word, from_⟩ 9223372036854775807 9223372036854775807
  rw [hr] at h1
  obtain ⟨hk, hf, ho, hd, ha, hb, hm, ht, hwz⟩ := right_inv hr
  clear hr
  simp only at hk hf ho hd ha hb hm ht hwz
  have e : usedM 3 op = 18 := rfl
  rw [e] at ho hd ha hb hm ht hwz
  obtain rfl := ho.1 (by decide)
  have hd := hd.2 (by decide)
  obtain rfl := ha.1 (by decide)
  obtain rfl := hb.1 (by decide)
  have hm := hm.2 (by decide)
  obtain rfl := ht.1 (by decide)
  obtain rfl := hwz (by decide)
  have hkw := z_kindWord (k := 3) (by decide)
  have hlen := kword_len 3 (by decide)
  have hbw : bodyW ⟨3, 0, d, 0, 0, addr, 0, 0, from_⟩ = kword 3 :: [regB d, prnB addr] := by rw [bodyW_ne (show (1 : Int) ≤ 3 ∧ (3 : Int) < 11 by decide) (show (3 : Int) ≠ 2 by decide)]; rfl
  have hu : K 28 [.tr (tu 3)] [] (.ret (.tup [.tr (tb true), .tr (tb false), .tr (tb true), .tr (tb false)])) [] := z_uses 3
  have hX := text_data hbw
  simp only at hX
  generalize textB ⟨3, 0, d, 0, 0, addr, 0, 0, from_⟩ = X at hX ⊢
  clear hbw
  generalize kword 3 = Y at hkw hlen hX
  have z1 : (⟨#[32, 114]⟩ : ByteArray).size = 2 := rfl
  have z2 : (⟨#[32]⟩ : ByteArray).size = 1 := rfl
  have z3 : (⟨#[32, 64]⟩ : ByteArray).size = 2 := rfl
  have p2 := prn_len (n := d) (by omega) (by omega)
  have p16 := prn_len (n := addr) (by omega) (by omega)
  have pf := prn_len (n := from_) (by omega) (by omega)
  refine Ctr.of hT hmix Tryz.func15 rfl (fun _ _ => by kernel_rfl) rfl fun hok => ?_
  clear hok
  conv => whnf
  refine acall.pure _ (h1) rfl rfl fun _ => ?_
  conv => whnf
  refine acall.pure _ (hkw) rfl rfl fun _ => ?_
  conv => whnf
  refine acall.pure _ (hu) rfl rfl fun _ => ?_
  conv => whnf
  refine ⟨by simp only [size_add, z1, z2, z3]; omega, ?_⟩
  conv => whnf
  refine acall.pure _ (z_natural d) rfl rfl fun _ => ?_
  conv => whnf
  refine ⟨by simp only [size_add, z1, z2, z3]; omega, ?_⟩
  conv => whnf
  refine ⟨by simp only [size_add, z1, z2, z3]; omega, ?_⟩
  conv => whnf
  refine acall.pure _ (z_natural addr) rfl rfl fun _ => ?_
  conv => whnf
  refine ⟨by simp only [size_add, z1, z2, z3]; omega, ?_⟩
  conv => whnf
  refine csplit (fun g => ?_) (fun g => ?_)
  · conv => whnf
    refine ⟨by simp only [size_add, z1, z2, z3]; omega, ?_⟩
    conv => whnf
    refine acall.pure _ (z_natural from_) rfl rfl fun _ => ?_
    conv => whnf
    refine ⟨by simp only [size_add, z1, z2, z3]; omega, ?_⟩
    conv => whnf
    rw [show (from_ != 0) = true from from_pos g] at hX
    exact ⟨.inl (congrArg ts (ba_ext (by rw [hX]; simp [regB, prnB]))), trivial⟩
  · conv => whnf
    rw [show (from_ != 0) = false from from_zero hf.1 g] at hX
    exact ⟨.inl (congrArg ts (ba_ext (by rw [hX]; simp [regB, prnB]))), trivial⟩

set_option maxRecDepth 100000 in
theorem z_show4 {op d a b addr to_ word from_ : Int} (hr : rightB ⟨4, op, d, a, b, addr, to_, word, from_⟩ 9223372036854775807 9223372036854775807 = true) (hw : in64 word) :
    K 15 [(Ins.mk 4 op d a b addr to_ word from_).av] [] (.ret (.tr (ts (textB ⟨4, op, d, a, b, addr, to_, word, from_⟩)))) [] := by
  have h1 := z_right ⟨4, op, d, a, b, addr, to_, word, from_⟩ 9223372036854775807 9223372036854775807
  rw [hr] at h1
  obtain ⟨hk, hf, ho, hd, ha, hb, hm, ht, hwz⟩ := right_inv hr
  clear hr
  simp only at hk hf ho hd ha hb hm ht hwz
  have e : usedM 4 op = 20 := rfl
  rw [e] at ho hd ha hb hm ht hwz
  obtain rfl := ho.1 (by decide)
  obtain rfl := hd.1 (by decide)
  have ha := ha.2 (by decide)
  obtain rfl := hb.1 (by decide)
  have hm := hm.2 (by decide)
  obtain rfl := ht.1 (by decide)
  obtain rfl := hwz (by decide)
  have hkw := z_kindWord (k := 4) (by decide)
  have hlen := kword_len 4 (by decide)
  have hbw : bodyW ⟨4, 0, 0, a, 0, addr, 0, 0, from_⟩ = kword 4 :: [regB a, prnB addr] := by rw [bodyW_ne (show (1 : Int) ≤ 4 ∧ (4 : Int) < 11 by decide) (show (4 : Int) ≠ 2 by decide)]; rfl
  have hu : K 28 [.tr (tu 4)] [] (.ret (.tup [.tr (tb false), .tr (tb true), .tr (tb true), .tr (tb false)])) [] := z_uses 4
  have hX := text_data hbw
  simp only at hX
  generalize textB ⟨4, 0, 0, a, 0, addr, 0, 0, from_⟩ = X at hX ⊢
  clear hbw
  generalize kword 4 = Y at hkw hlen hX
  have z1 : (⟨#[32, 114]⟩ : ByteArray).size = 2 := rfl
  have z2 : (⟨#[32]⟩ : ByteArray).size = 1 := rfl
  have z3 : (⟨#[32, 64]⟩ : ByteArray).size = 2 := rfl
  have p4 := prn_len (n := a) (by omega) (by omega)
  have p16 := prn_len (n := addr) (by omega) (by omega)
  have pf := prn_len (n := from_) (by omega) (by omega)
  refine Ctr.of hT hmix Tryz.func15 rfl (fun _ _ => by kernel_rfl) rfl fun hok => ?_
  clear hok
  conv => whnf
  refine acall.pure _ (h1) rfl rfl fun _ => ?_
  conv => whnf
  refine acall.pure _ (hkw) rfl rfl fun _ => ?_
  conv => whnf
  refine acall.pure _ (hu) rfl rfl fun _ => ?_
  conv => whnf
  refine ⟨by simp only [size_add, z1, z2, z3]; omega, ?_⟩
  conv => whnf
  refine acall.pure _ (z_natural a) rfl rfl fun _ => ?_
  conv => whnf
  refine ⟨by simp only [size_add, z1, z2, z3]; omega, ?_⟩
  conv => whnf
  refine ⟨by simp only [size_add, z1, z2, z3]; omega, ?_⟩
  conv => whnf
  refine acall.pure _ (z_natural addr) rfl rfl fun _ => ?_
  conv => whnf
  refine ⟨by simp only [size_add, z1, z2, z3]; omega, ?_⟩
  conv => whnf
  refine csplit (fun g => ?_) (fun g => ?_)
  · conv => whnf
    refine ⟨by simp only [size_add, z1, z2, z3]; omega, ?_⟩
    conv => whnf
    refine acall.pure _ (z_natural from_) rfl rfl fun _ => ?_
    conv => whnf
    refine ⟨by simp only [size_add, z1, z2, z3]; omega, ?_⟩
    conv => whnf
    rw [show (from_ != 0) = true from from_pos g] at hX
    exact ⟨.inl (congrArg ts (ba_ext (by rw [hX]; simp [regB, prnB]))), trivial⟩
  · conv => whnf
    rw [show (from_ != 0) = false from from_zero hf.1 g] at hX
    exact ⟨.inl (congrArg ts (ba_ext (by rw [hX]; simp [regB, prnB]))), trivial⟩

set_option maxRecDepth 100000 in
theorem z_show5 {op d a b addr to_ word from_ : Int} (hr : rightB ⟨5, op, d, a, b, addr, to_, word, from_⟩ 9223372036854775807 9223372036854775807 = true) (hw : in64 word) :
    K 15 [(Ins.mk 5 op d a b addr to_ word from_).av] [] (.ret (.tr (ts (textB ⟨5, op, d, a, b, addr, to_, word, from_⟩)))) [] := by
  have h1 := z_right ⟨5, op, d, a, b, addr, to_, word, from_⟩ 9223372036854775807 9223372036854775807
  rw [hr] at h1
  obtain ⟨hk, hf, ho, hd, ha, hb, hm, ht, hwz⟩ := right_inv hr
  clear hr
  simp only at hk hf ho hd ha hb hm ht hwz
  have e : usedM 5 op = 18 := rfl
  rw [e] at ho hd ha hb hm ht hwz
  obtain rfl := ho.1 (by decide)
  have hd := hd.2 (by decide)
  obtain rfl := ha.1 (by decide)
  obtain rfl := hb.1 (by decide)
  have hm := hm.2 (by decide)
  obtain rfl := ht.1 (by decide)
  obtain rfl := hwz (by decide)
  have hkw := z_kindWord (k := 5) (by decide)
  have hlen := kword_len 5 (by decide)
  have hbw : bodyW ⟨5, 0, d, 0, 0, addr, 0, 0, from_⟩ = kword 5 :: [regB d, prnB addr] := by rw [bodyW_ne (show (1 : Int) ≤ 5 ∧ (5 : Int) < 11 by decide) (show (5 : Int) ≠ 2 by decide)]; rfl
  have hu : K 28 [.tr (tu 5)] [] (.ret (.tup [.tr (tb true), .tr (tb false), .tr (tb true), .tr (tb false)])) [] := z_uses 5
  have hX := text_data hbw
  simp only at hX
  generalize textB ⟨5, 0, d, 0, 0, addr, 0, 0, from_⟩ = X at hX ⊢
  clear hbw
  generalize kword 5 = Y at hkw hlen hX
  have z1 : (⟨#[32, 114]⟩ : ByteArray).size = 2 := rfl
  have z2 : (⟨#[32]⟩ : ByteArray).size = 1 := rfl
  have z3 : (⟨#[32, 64]⟩ : ByteArray).size = 2 := rfl
  have p2 := prn_len (n := d) (by omega) (by omega)
  have p16 := prn_len (n := addr) (by omega) (by omega)
  have pf := prn_len (n := from_) (by omega) (by omega)
  refine Ctr.of hT hmix Tryz.func15 rfl (fun _ _ => by kernel_rfl) rfl fun hok => ?_
  clear hok
  conv => whnf
  refine acall.pure _ (h1) rfl rfl fun _ => ?_
  conv => whnf
  refine acall.pure _ (hkw) rfl rfl fun _ => ?_
  conv => whnf
  refine acall.pure _ (hu) rfl rfl fun _ => ?_
  conv => whnf
  refine ⟨by simp only [size_add, z1, z2, z3]; omega, ?_⟩
  conv => whnf
  refine acall.pure _ (z_natural d) rfl rfl fun _ => ?_
  conv => whnf
  refine ⟨by simp only [size_add, z1, z2, z3]; omega, ?_⟩
  conv => whnf
  refine ⟨by simp only [size_add, z1, z2, z3]; omega, ?_⟩
  conv => whnf
  refine acall.pure _ (z_natural addr) rfl rfl fun _ => ?_
  conv => whnf
  refine ⟨by simp only [size_add, z1, z2, z3]; omega, ?_⟩
  conv => whnf
  refine csplit (fun g => ?_) (fun g => ?_)
  · conv => whnf
    refine ⟨by simp only [size_add, z1, z2, z3]; omega, ?_⟩
    conv => whnf
    refine acall.pure _ (z_natural from_) rfl rfl fun _ => ?_
    conv => whnf
    refine ⟨by simp only [size_add, z1, z2, z3]; omega, ?_⟩
    conv => whnf
    rw [show (from_ != 0) = true from from_pos g] at hX
    exact ⟨.inl (congrArg ts (ba_ext (by rw [hX]; simp [regB, prnB]))), trivial⟩
  · conv => whnf
    rw [show (from_ != 0) = false from from_zero hf.1 g] at hX
    exact ⟨.inl (congrArg ts (ba_ext (by rw [hX]; simp [regB, prnB]))), trivial⟩

set_option maxRecDepth 100000 in
theorem z_show6 {op d a b addr to_ word from_ : Int} (hr : rightB ⟨6, op, d, a, b, addr, to_, word, from_⟩ 9223372036854775807 9223372036854775807 = true) (hw : in64 word) :
    K 15 [(Ins.mk 6 op d a b addr to_ word from_).av] [] (.ret (.tr (ts (textB ⟨6, op, d, a, b, addr, to_, word, from_⟩)))) [] := by
  have h1 := z_right ⟨6, op, d, a, b, addr, to_, word, from_⟩ 9223372036854775807 9223372036854775807
  rw [hr] at h1
  obtain ⟨hk, hf, ho, hd, ha, hb, hm, ht, hwz⟩ := right_inv hr
  clear hr
  simp only at hk hf ho hd ha hb hm ht hwz
  have e : usedM 6 op = 0 := rfl
  rw [e] at ho hd ha hb hm ht hwz
  obtain rfl := ho.1 (by decide)
  obtain rfl := hd.1 (by decide)
  obtain rfl := ha.1 (by decide)
  obtain rfl := hb.1 (by decide)
  obtain rfl := hm.1 (by decide)
  obtain rfl := ht.1 (by decide)
  obtain rfl := hwz (by decide)
  have hkw := z_kindWord (k := 6) (by decide)
  have hlen := kword_len 6 (by decide)
  have hbw : bodyW ⟨6, 0, 0, 0, 0, 0, 0, 0, from_⟩ = kword 6 :: [] := by rw [bodyW_ne (show (1 : Int) ≤ 6 ∧ (6 : Int) < 11 by decide) (show (6 : Int) ≠ 2 by decide)]; rfl
  have hu : K 28 [.tr (tu 6)] [] (.ret (.tup [.tr (tb false), .tr (tb false), .tr (tb false), .tr (tb false)])) [] := z_uses 6
  have hX := text_data hbw
  simp only at hX
  generalize textB ⟨6, 0, 0, 0, 0, 0, 0, 0, from_⟩ = X at hX ⊢
  clear hbw
  generalize kword 6 = Y at hkw hlen hX
  have z1 : (⟨#[32, 114]⟩ : ByteArray).size = 2 := rfl
  have z2 : (⟨#[32]⟩ : ByteArray).size = 1 := rfl
  have z3 : (⟨#[32, 64]⟩ : ByteArray).size = 2 := rfl
  have pf := prn_len (n := from_) (by omega) (by omega)
  refine Ctr.of hT hmix Tryz.func15 rfl (fun _ _ => by kernel_rfl) rfl fun hok => ?_
  clear hok
  conv => whnf
  refine acall.pure _ (h1) rfl rfl fun _ => ?_
  conv => whnf
  refine acall.pure _ (hkw) rfl rfl fun _ => ?_
  conv => whnf
  refine acall.pure _ (hu) rfl rfl fun _ => ?_
  conv => whnf
  refine csplit (fun g => ?_) (fun g => ?_)
  · conv => whnf
    refine ⟨by simp only [size_add, z1, z2, z3]; omega, ?_⟩
    conv => whnf
    refine acall.pure _ (z_natural from_) rfl rfl fun _ => ?_
    conv => whnf
    refine ⟨by simp only [size_add, z1, z2, z3]; omega, ?_⟩
    conv => whnf
    rw [show (from_ != 0) = true from from_pos g] at hX
    exact ⟨.inl (congrArg ts (ba_ext (by rw [hX]; simp [regB, prnB]))), trivial⟩
  · conv => whnf
    rw [show (from_ != 0) = false from from_zero hf.1 g] at hX
    exact ⟨.inl (congrArg ts (ba_ext (by rw [hX]; simp [regB, prnB]))), trivial⟩

set_option maxRecDepth 100000 in
theorem z_show7 {op d a b addr to_ word from_ : Int} (hr : rightB ⟨7, op, d, a, b, addr, to_, word, from_⟩ 9223372036854775807 9223372036854775807 = true) (hw : in64 word) :
    K 15 [(Ins.mk 7 op d a b addr to_ word from_).av] [] (.ret (.tr (ts (textB ⟨7, op, d, a, b, addr, to_, word, from_⟩)))) [] := by
  have h1 := z_right ⟨7, op, d, a, b, addr, to_, word, from_⟩ 9223372036854775807 9223372036854775807
  rw [hr] at h1
  obtain ⟨hk, hf, ho, hd, ha, hb, hm, ht, hwz⟩ := right_inv hr
  clear hr
  simp only at hk hf ho hd ha hb hm ht hwz
  have e : usedM 7 op = 4 := rfl
  rw [e] at ho hd ha hb hm ht hwz
  obtain rfl := ho.1 (by decide)
  obtain rfl := hd.1 (by decide)
  have ha := ha.2 (by decide)
  obtain rfl := hb.1 (by decide)
  obtain rfl := hm.1 (by decide)
  obtain rfl := ht.1 (by decide)
  obtain rfl := hwz (by decide)
  have hkw := z_kindWord (k := 7) (by decide)
  have hlen := kword_len 7 (by decide)
  have hbw : bodyW ⟨7, 0, 0, a, 0, 0, 0, 0, from_⟩ = kword 7 :: [regB a] := by rw [bodyW_ne (show (1 : Int) ≤ 7 ∧ (7 : Int) < 11 by decide) (show (7 : Int) ≠ 2 by decide)]; rfl
  have hu : K 28 [.tr (tu 7)] [] (.ret (.tup [.tr (tb false), .tr (tb true), .tr (tb false), .tr (tb false)])) [] := z_uses 7
  have hX := text_data hbw
  simp only at hX
  generalize textB ⟨7, 0, 0, a, 0, 0, 0, 0, from_⟩ = X at hX ⊢
  clear hbw
  generalize kword 7 = Y at hkw hlen hX
  have z1 : (⟨#[32, 114]⟩ : ByteArray).size = 2 := rfl
  have z2 : (⟨#[32]⟩ : ByteArray).size = 1 := rfl
  have z3 : (⟨#[32, 64]⟩ : ByteArray).size = 2 := rfl
  have p4 := prn_len (n := a) (by omega) (by omega)
  have pf := prn_len (n := from_) (by omega) (by omega)
  refine Ctr.of hT hmix Tryz.func15 rfl (fun _ _ => by kernel_rfl) rfl fun hok => ?_
  clear hok
  conv => whnf
  refine acall.pure _ (h1) rfl rfl fun _ => ?_
  conv => whnf
  refine acall.pure _ (hkw) rfl rfl fun _ => ?_
  conv => whnf
  refine acall.pure _ (hu) rfl rfl fun _ => ?_
  conv => whnf
  refine ⟨by simp only [size_add, z1, z2, z3]; omega, ?_⟩
  conv => whnf
  refine acall.pure _ (z_natural a) rfl rfl fun _ => ?_
  conv => whnf
  refine ⟨by simp only [size_add, z1, z2, z3]; omega, ?_⟩
  conv => whnf
  refine csplit (fun g => ?_) (fun g => ?_)
  · conv => whnf
    refine ⟨by simp only [size_add, z1, z2, z3]; omega, ?_⟩
    conv => whnf
    refine acall.pure _ (z_natural from_) rfl rfl fun _ => ?_
    conv => whnf
    refine ⟨by simp only [size_add, z1, z2, z3]; omega, ?_⟩
    conv => whnf
    rw [show (from_ != 0) = true from from_pos g] at hX
    exact ⟨.inl (congrArg ts (ba_ext (by rw [hX]; simp [regB, prnB]))), trivial⟩
  · conv => whnf
    rw [show (from_ != 0) = false from from_zero hf.1 g] at hX
    exact ⟨.inl (congrArg ts (ba_ext (by rw [hX]; simp [regB, prnB]))), trivial⟩

set_option maxRecDepth 100000 in
theorem z_show8 {op d a b addr to_ word from_ : Int} (hr : rightB ⟨8, op, d, a, b, addr, to_, word, from_⟩ 9223372036854775807 9223372036854775807 = true) (hw : in64 word) :
    K 15 [(Ins.mk 8 op d a b addr to_ word from_).av] [] (.ret (.tr (ts (textB ⟨8, op, d, a, b, addr, to_, word, from_⟩)))) [] := by
  have h1 := z_right ⟨8, op, d, a, b, addr, to_, word, from_⟩ 9223372036854775807 9223372036854775807
  rw [hr] at h1
  obtain ⟨hk, hf, ho, hd, ha, hb, hm, ht, hwz⟩ := right_inv hr
  clear hr
  simp only at hk hf ho hd ha hb hm ht hwz
  have e : usedM 8 op = 32 := rfl
  rw [e] at ho hd ha hb hm ht hwz
  obtain rfl := ho.1 (by decide)
  obtain rfl := hd.1 (by decide)
  obtain rfl := ha.1 (by decide)
  obtain rfl := hb.1 (by decide)
  obtain rfl := hm.1 (by decide)
  have ht := ht.2 (by decide)
  obtain rfl := hwz (by decide)
  have hkw := z_kindWord (k := 8) (by decide)
  have hlen := kword_len 8 (by decide)
  have hbw : bodyW ⟨8, 0, 0, 0, 0, 0, to_, 0, from_⟩ = kword 8 :: [prnB to_] := by rw [bodyW_ne (show (1 : Int) ≤ 8 ∧ (8 : Int) < 11 by decide) (show (8 : Int) ≠ 2 by decide)]; rfl
  have hu : K 28 [.tr (tu 8)] [] (.ret (.tup [.tr (tb false), .tr (tb false), .tr (tb false), .tr (tb true)])) [] := z_uses 8
  have hX := text_data hbw
  simp only at hX
  generalize textB ⟨8, 0, 0, 0, 0, 0, to_, 0, from_⟩ = X at hX ⊢
  clear hbw
  generalize kword 8 = Y at hkw hlen hX
  have z1 : (⟨#[32, 114]⟩ : ByteArray).size = 2 := rfl
  have z2 : (⟨#[32]⟩ : ByteArray).size = 1 := rfl
  have z3 : (⟨#[32, 64]⟩ : ByteArray).size = 2 := rfl
  have p32 := prn_len (n := to_) (by omega) (by omega)
  have pf := prn_len (n := from_) (by omega) (by omega)
  refine Ctr.of hT hmix Tryz.func15 rfl (fun _ _ => by kernel_rfl) rfl fun hok => ?_
  clear hok
  conv => whnf
  refine acall.pure _ (h1) rfl rfl fun _ => ?_
  conv => whnf
  refine acall.pure _ (hkw) rfl rfl fun _ => ?_
  conv => whnf
  refine acall.pure _ (hu) rfl rfl fun _ => ?_
  conv => whnf
  refine ⟨by simp only [size_add, z1, z2, z3]; omega, ?_⟩
  conv => whnf
  refine acall.pure _ (z_natural to_) rfl rfl fun _ => ?_
  conv => whnf
  refine ⟨by simp only [size_add, z1, z2, z3]; omega, ?_⟩
  conv => whnf
  refine csplit (fun g => ?_) (fun g => ?_)
  · conv => whnf
    refine ⟨by simp only [size_add, z1, z2, z3]; omega, ?_⟩
    conv => whnf
    refine acall.pure _ (z_natural from_) rfl rfl fun _ => ?_
    conv => whnf
    refine ⟨by simp only [size_add, z1, z2, z3]; omega, ?_⟩
    conv => whnf
    rw [show (from_ != 0) = true from from_pos g] at hX
    exact ⟨.inl (congrArg ts (ba_ext (by rw [hX]; simp [regB, prnB]))), trivial⟩
  · conv => whnf
    rw [show (from_ != 0) = false from from_zero hf.1 g] at hX
    exact ⟨.inl (congrArg ts (ba_ext (by rw [hX]; simp [regB, prnB]))), trivial⟩

set_option maxRecDepth 100000 in
theorem z_show9 {op d a b addr to_ word from_ : Int} (hr : rightB ⟨9, op, d, a, b, addr, to_, word, from_⟩ 9223372036854775807 9223372036854775807 = true) (hw : in64 word) :
    K 15 [(Ins.mk 9 op d a b addr to_ word from_).av] [] (.ret (.tr (ts (textB ⟨9, op, d, a, b, addr, to_, word, from_⟩)))) [] := by
  have h1 := z_right ⟨9, op, d, a, b, addr, to_, word, from_⟩ 9223372036854775807 9223372036854775807
  rw [hr] at h1
  obtain ⟨hk, hf, ho, hd, ha, hb, hm, ht, hwz⟩ := right_inv hr
  clear hr
  simp only at hk hf ho hd ha hb hm ht hwz
  have e : usedM 9 op = 36 := rfl
  rw [e] at ho hd ha hb hm ht hwz
  obtain rfl := ho.1 (by decide)
  obtain rfl := hd.1 (by decide)
  have ha := ha.2 (by decide)
  obtain rfl := hb.1 (by decide)
  obtain rfl := hm.1 (by decide)
  have ht := ht.2 (by decide)
  obtain rfl := hwz (by decide)
  have hkw := z_kindWord (k := 9) (by decide)
  have hlen := kword_len 9 (by decide)
  have hbw : bodyW ⟨9, 0, 0, a, 0, 0, to_, 0, from_⟩ = kword 9 :: [regB a, prnB to_] := by rw [bodyW_ne (show (1 : Int) ≤ 9 ∧ (9 : Int) < 11 by decide) (show (9 : Int) ≠ 2 by decide)]; rfl
  have hu : K 28 [.tr (tu 9)] [] (.ret (.tup [.tr (tb false), .tr (tb true), .tr (tb false), .tr (tb true)])) [] := z_uses 9
  have hX := text_data hbw
  simp only at hX
  generalize textB ⟨9, 0, 0, a, 0, 0, to_, 0, from_⟩ = X at hX ⊢
  clear hbw
  generalize kword 9 = Y at hkw hlen hX
  have z1 : (⟨#[32, 114]⟩ : ByteArray).size = 2 := rfl
  have z2 : (⟨#[32]⟩ : ByteArray).size = 1 := rfl
  have z3 : (⟨#[32, 64]⟩ : ByteArray).size = 2 := rfl
  have p4 := prn_len (n := a) (by omega) (by omega)
  have p32 := prn_len (n := to_) (by omega) (by omega)
  have pf := prn_len (n := from_) (by omega) (by omega)
  refine Ctr.of hT hmix Tryz.func15 rfl (fun _ _ => by kernel_rfl) rfl fun hok => ?_
  clear hok
  conv => whnf
  refine acall.pure _ (h1) rfl rfl fun _ => ?_
  conv => whnf
  refine acall.pure _ (hkw) rfl rfl fun _ => ?_
  conv => whnf
  refine acall.pure _ (hu) rfl rfl fun _ => ?_
  conv => whnf
  refine ⟨by simp only [size_add, z1, z2, z3]; omega, ?_⟩
  conv => whnf
  refine acall.pure _ (z_natural a) rfl rfl fun _ => ?_
  conv => whnf
  refine ⟨by simp only [size_add, z1, z2, z3]; omega, ?_⟩
  conv => whnf
  refine ⟨by simp only [size_add, z1, z2, z3]; omega, ?_⟩
  conv => whnf
  refine acall.pure _ (z_natural to_) rfl rfl fun _ => ?_
  conv => whnf
  refine ⟨by simp only [size_add, z1, z2, z3]; omega, ?_⟩
  conv => whnf
  refine csplit (fun g => ?_) (fun g => ?_)
  · conv => whnf
    refine ⟨by simp only [size_add, z1, z2, z3]; omega, ?_⟩
    conv => whnf
    refine acall.pure _ (z_natural from_) rfl rfl fun _ => ?_
    conv => whnf
    refine ⟨by simp only [size_add, z1, z2, z3]; omega, ?_⟩
    conv => whnf
    rw [show (from_ != 0) = true from from_pos g] at hX
    exact ⟨.inl (congrArg ts (ba_ext (by rw [hX]; simp [regB, prnB]))), trivial⟩
  · conv => whnf
    rw [show (from_ != 0) = false from from_zero hf.1 g] at hX
    exact ⟨.inl (congrArg ts (ba_ext (by rw [hX]; simp [regB, prnB]))), trivial⟩

set_option maxRecDepth 100000 in
theorem z_show10 {op d a b addr to_ word from_ : Int} (hr : rightB ⟨10, op, d, a, b, addr, to_, word, from_⟩ 9223372036854775807 9223372036854775807 = true) (hw : in64 word) :
    K 15 [(Ins.mk 10 op d a b addr to_ word from_).av] [] (.ret (.tr (ts (textB ⟨10, op, d, a, b, addr, to_, word, from_⟩)))) [] := by
  have h1 := z_right ⟨10, op, d, a, b, addr, to_, word, from_⟩ 9223372036854775807 9223372036854775807
  rw [hr] at h1
  obtain ⟨hk, hf, ho, hd, ha, hb, hm, ht, hwz⟩ := right_inv hr
  clear hr
  simp only at hk hf ho hd ha hb hm ht hwz
  have e : usedM 10 op = 0 := rfl
  rw [e] at ho hd ha hb hm ht hwz
  obtain rfl := ho.1 (by decide)
  obtain rfl := hd.1 (by decide)
  obtain rfl := ha.1 (by decide)
  obtain rfl := hb.1 (by decide)
  obtain rfl := hm.1 (by decide)
  obtain rfl := ht.1 (by decide)
  obtain rfl := hwz (by decide)
  have hkw := z_kindWord (k := 10) (by decide)
  have hlen := kword_len 10 (by decide)
  have hbw : bodyW ⟨10, 0, 0, 0, 0, 0, 0, 0, from_⟩ = kword 10 :: [] := by rw [bodyW_ne (show (1 : Int) ≤ 10 ∧ (10 : Int) < 11 by decide) (show (10 : Int) ≠ 2 by decide)]; rfl
  have hu : K 28 [.tr (tu 10)] [] (.ret (.tup [.tr (tb false), .tr (tb false), .tr (tb false), .tr (tb false)])) [] := z_uses 10
  have hX := text_data hbw
  simp only at hX
  generalize textB ⟨10, 0, 0, 0, 0, 0, 0, 0, from_⟩ = X at hX ⊢
  clear hbw
  generalize kword 10 = Y at hkw hlen hX
  have z1 : (⟨#[32, 114]⟩ : ByteArray).size = 2 := rfl
  have z2 : (⟨#[32]⟩ : ByteArray).size = 1 := rfl
  have z3 : (⟨#[32, 64]⟩ : ByteArray).size = 2 := rfl
  have pf := prn_len (n := from_) (by omega) (by omega)
  refine Ctr.of hT hmix Tryz.func15 rfl (fun _ _ => by kernel_rfl) rfl fun hok => ?_
  clear hok
  conv => whnf
  refine acall.pure _ (h1) rfl rfl fun _ => ?_
  conv => whnf
  refine acall.pure _ (hkw) rfl rfl fun _ => ?_
  conv => whnf
  refine acall.pure _ (hu) rfl rfl fun _ => ?_
  conv => whnf
  refine csplit (fun g => ?_) (fun g => ?_)
  · conv => whnf
    refine ⟨by simp only [size_add, z1, z2, z3]; omega, ?_⟩
    conv => whnf
    refine acall.pure _ (z_natural from_) rfl rfl fun _ => ?_
    conv => whnf
    refine ⟨by simp only [size_add, z1, z2, z3]; omega, ?_⟩
    conv => whnf
    rw [show (from_ != 0) = true from from_pos g] at hX
    exact ⟨.inl (congrArg ts (ba_ext (by rw [hX]; simp [regB, prnB]))), trivial⟩
  · conv => whnf
    rw [show (from_ != 0) = false from from_zero hf.1 g] at hX
    exact ⟨.inl (congrArg ts (ba_ext (by rw [hX]; simp [regB, prnB]))), trivial⟩

set_option maxRecDepth 100000 in
theorem z_show2t {op d a b addr to_ word from_ : Int} (h2 : two op = true) (hr : rightB ⟨2, op, d, a, b, addr, to_, word, from_⟩ 9223372036854775807 9223372036854775807 = true) (hw : in64 word) :
    K 15 [(Ins.mk 2 op d a b addr to_ word from_).av] [] (.ret (.tr (ts (textB ⟨2, op, d, a, b, addr, to_, word, from_⟩)))) [] := by
  have h1 := z_right ⟨2, op, d, a, b, addr, to_, word, from_⟩ 9223372036854775807 9223372036854775807
  rw [hr] at h1
  obtain ⟨hk, hf, ho, hd, ha, hb, hm, ht, hwz⟩ := right_inv hr
  clear hr
  simp only at hk hf ho hd ha hb hm ht hwz
  have e : usedM 2 op = 15 := by unfold usedM; rw [h2]; rfl
  rw [e] at ho hd ha hb hm ht hwz
  have ho := ho.2 (by decide)
  have hd := hd.2 (by decide)
  have ha := ha.2 (by decide)
  have hb := hb.2 (by decide)
  obtain rfl := hm.1 (by decide)
  obtain rfl := ht.1 (by decide)
  obtain rfl := hwz (by decide)
  have hkw := z_kindWord (k := 2) (by decide)
  have how := z_opWord ho
  have hlen := opword_len op
  have hbw : bodyW ⟨2, op, d, a, b, 0, 0, 0, from_⟩ = opword op :: [regB d, regB a, regB b] := by rw [bodyW_two rfl, e]; rfl
  have htw := z_two op
  rw [h2] at htw
  have hu : K 28 [.tr (tu 2)] [] (.ret (.tup [.tr (tb true), .tr (tb true), .tr (tb false), .tr (tb false)])) [] := z_uses 2
  have hX := text_data hbw
  simp only at hX
  generalize textB ⟨2, op, d, a, b, 0, 0, 0, from_⟩ = X at hX ⊢
  clear hbw
  generalize opword op = Y at how hlen hX
  have z1 : (⟨#[32, 114]⟩ : ByteArray).size = 2 := rfl
  have z2 : (⟨#[32]⟩ : ByteArray).size = 1 := rfl
  have z3 : (⟨#[32, 64]⟩ : ByteArray).size = 2 := rfl
  have p2 := prn_len (n := d) (by omega) (by omega)
  have p4 := prn_len (n := a) (by omega) (by omega)
  have p8 := prn_len (n := b) (by omega) (by omega)
  have pf := prn_len (n := from_) (by omega) (by omega)
  refine Ctr.of hT hmix Tryz.func15 rfl (fun _ _ => by kernel_rfl) rfl fun hok => ?_
  clear hok
  conv => whnf
  refine acall.pure _ (h1) rfl rfl fun _ => ?_
  conv => whnf
  refine acall.pure _ (hkw) rfl rfl fun _ => ?_
  conv => whnf
  refine acall.pure _ (how) rfl rfl fun _ => ?_
  conv => whnf
  refine acall.pure _ (hu) rfl rfl fun _ => ?_
  conv => whnf
  refine ⟨by simp only [size_add, z1, z2, z3]; omega, ?_⟩
  conv => whnf
  refine acall.pure _ (z_natural d) rfl rfl fun _ => ?_
  conv => whnf
  refine ⟨by simp only [size_add, z1, z2, z3]; omega, ?_⟩
  conv => whnf
  refine ⟨by simp only [size_add, z1, z2, z3]; omega, ?_⟩
  conv => whnf
  refine acall.pure _ (z_natural a) rfl rfl fun _ => ?_
  conv => whnf
  refine ⟨by simp only [size_add, z1, z2, z3]; omega, ?_⟩
  conv => whnf
  refine acall.pure _ (htw) rfl rfl fun _ => ?_
  conv => whnf
  refine ⟨by simp only [size_add, z1, z2, z3]; omega, ?_⟩
  conv => whnf
  refine acall.pure _ (z_natural b) rfl rfl fun _ => ?_
  conv => whnf
  refine ⟨by simp only [size_add, z1, z2, z3]; omega, ?_⟩
  conv => whnf
  refine csplit (fun g => ?_) (fun g => ?_)
  · conv => whnf
    refine ⟨by simp only [size_add, z1, z2, z3]; omega, ?_⟩
    conv => whnf
    refine acall.pure _ (z_natural from_) rfl rfl fun _ => ?_
    conv => whnf
    refine ⟨by simp only [size_add, z1, z2, z3]; omega, ?_⟩
    conv => whnf
    rw [show (from_ != 0) = true from from_pos g] at hX
    exact ⟨.inl (congrArg ts (ba_ext (by rw [hX]; simp [regB, prnB]))), trivial⟩
  · conv => whnf
    rw [show (from_ != 0) = false from from_zero hf.1 g] at hX
    exact ⟨.inl (congrArg ts (ba_ext (by rw [hX]; simp [regB, prnB]))), trivial⟩

set_option maxRecDepth 100000 in
theorem z_show2f {op d a b addr to_ word from_ : Int} (h2 : two op = false) (hr : rightB ⟨2, op, d, a, b, addr, to_, word, from_⟩ 9223372036854775807 9223372036854775807 = true) (hw : in64 word) :
    K 15 [(Ins.mk 2 op d a b addr to_ word from_).av] [] (.ret (.tr (ts (textB ⟨2, op, d, a, b, addr, to_, word, from_⟩)))) [] := by
  have h1 := z_right ⟨2, op, d, a, b, addr, to_, word, from_⟩ 9223372036854775807 9223372036854775807
  rw [hr] at h1
  obtain ⟨hk, hf, ho, hd, ha, hb, hm, ht, hwz⟩ := right_inv hr
  clear hr
  simp only at hk hf ho hd ha hb hm ht hwz
  have e : usedM 2 op = 7 := by unfold usedM; rw [h2]; rfl
  rw [e] at ho hd ha hb hm ht hwz
  have ho := ho.2 (by decide)
  have hd := hd.2 (by decide)
  have ha := ha.2 (by decide)
  obtain rfl := hb.1 (by decide)
  obtain rfl := hm.1 (by decide)
  obtain rfl := ht.1 (by decide)
  obtain rfl := hwz (by decide)
  have hkw := z_kindWord (k := 2) (by decide)
  have how := z_opWord ho
  have hlen := opword_len op
  have hbw : bodyW ⟨2, op, d, a, 0, 0, 0, 0, from_⟩ = opword op :: [regB d, regB a] := by rw [bodyW_two rfl, e]; rfl
  have htw := z_two op
  rw [h2] at htw
  have hu : K 28 [.tr (tu 2)] [] (.ret (.tup [.tr (tb true), .tr (tb true), .tr (tb false), .tr (tb false)])) [] := z_uses 2
  have hX := text_data hbw
  simp only at hX
  generalize textB ⟨2, op, d, a, 0, 0, 0, 0, from_⟩ = X at hX ⊢
  clear hbw
  generalize opword op = Y at how hlen hX
  have z1 : (⟨#[32, 114]⟩ : ByteArray).size = 2 := rfl
  have z2 : (⟨#[32]⟩ : ByteArray).size = 1 := rfl
  have z3 : (⟨#[32, 64]⟩ : ByteArray).size = 2 := rfl
  have p2 := prn_len (n := d) (by omega) (by omega)
  have p4 := prn_len (n := a) (by omega) (by omega)
  have pf := prn_len (n := from_) (by omega) (by omega)
  refine Ctr.of hT hmix Tryz.func15 rfl (fun _ _ => by kernel_rfl) rfl fun hok => ?_
  clear hok
  conv => whnf
  refine acall.pure _ (h1) rfl rfl fun _ => ?_
  conv => whnf
  refine acall.pure _ (hkw) rfl rfl fun _ => ?_
  conv => whnf
  refine acall.pure _ (how) rfl rfl fun _ => ?_
  conv => whnf
  refine acall.pure _ (hu) rfl rfl fun _ => ?_
  conv => whnf
  refine ⟨by simp only [size_add, z1, z2, z3]; omega, ?_⟩
  conv => whnf
  refine acall.pure _ (z_natural d) rfl rfl fun _ => ?_
  conv => whnf
  refine ⟨by simp only [size_add, z1, z2, z3]; omega, ?_⟩
  conv => whnf
  refine ⟨by simp only [size_add, z1, z2, z3]; omega, ?_⟩
  conv => whnf
  refine acall.pure _ (z_natural a) rfl rfl fun _ => ?_
  conv => whnf
  refine ⟨by simp only [size_add, z1, z2, z3]; omega, ?_⟩
  conv => whnf
  refine acall.pure _ (htw) rfl rfl fun _ => ?_
  conv => whnf
  refine csplit (fun g => ?_) (fun g => ?_)
  · conv => whnf
    refine ⟨by simp only [size_add, z1, z2, z3]; omega, ?_⟩
    conv => whnf
    refine acall.pure _ (z_natural from_) rfl rfl fun _ => ?_
    conv => whnf
    refine ⟨by simp only [size_add, z1, z2, z3]; omega, ?_⟩
    conv => whnf
    rw [show (from_ != 0) = true from from_pos g] at hX
    exact ⟨.inl (congrArg ts (ba_ext (by rw [hX]; simp [regB, prnB]))), trivial⟩
  · conv => whnf
    rw [show (from_ != 0) = false from from_zero hf.1 g] at hX
    exact ⟨.inl (congrArg ts (ba_ext (by rw [hX]; simp [regB, prnB]))), trivial⟩

theorem z_show (i : Ins) : K 15 [i.av] [] (.ret (.tr (ts (showB i)))) [] := by
  refine Ctr.okd (fun _ _ => by kernel_rfl) fun hok => ?_
  have hi := iok_of (i := i) fun t ht => ((hok _ (.head _)).agg (.tr t) (List.mem_map.2 ⟨t, ht, rfl⟩)).tr
  unfold showB
  cases hr : rightB i 9223372036854775807 9223372036854775807
  · have h1 := z_right i 9223372036854775807 9223372036854775807
    rw [hr] at h1
    clear hok hi hr
    refine Ctr.of hT hmix Tryz.func15 rfl (fun _ _ => by kernel_rfl) rfl fun hok => ?_
    clear hok
    obtain ⟨kind, op, d, a, b, addr, to_, word, from_⟩ := i
    conv => whnf
    refine acall.pure _ (h1) rfl rfl fun _ => ?_
    conv => whnf
    exact ⟨.inl rfl, trivial⟩
  · have hw := hi.word
    have hk := right_kind hr
    clear hok hi
    show K _ _ _ (.ret (.tr (ts (textB i)))) _
    obtain ⟨kind, op, d, a, b, addr, to_, word, from_⟩ := i
    simp only at hw hk
    have hc : kind = 1 ∨ kind = 2 ∨ kind = 3 ∨ kind = 4 ∨ kind = 5 ∨ kind = 6 ∨ kind = 7 ∨ kind = 8 ∨ kind = 9 ∨ kind = 10 := by omega
    clear hk
    rcases hc with rfl | rfl | rfl | rfl | rfl | rfl | rfl | rfl | rfl | rfl
    · exact z_show1 hr hw
    · cases h2 : two op
      · exact z_show2f h2 hr hw
      · exact z_show2t h2 hr hw
    · exact z_show3 hr hw
    · exact z_show4 hr hw
    · exact z_show5 hr hw
    · exact z_show6 hr hw
    · exact z_show7 hr hw
    · exact z_show8 hr hw
    · exact z_show9 hr hw
    · exact z_show10 hr hw
end Go.Proofs.YtffhoknkfohfgaaGreatDoor.am

namespace Go.Proofs.YtffhoknkfohfgaaGreatDoor.am
open Go Go.Proofs
theorem within_mono {all n u m m' : Int} (h : withinB all n u m = true) (hm : m ≤ m') : withinB all n u m' = true := by
  unfold withinB at h ⊢
  simp only [Bool.or_eq_true, Bool.and_eq_true, beq_iff_eq, bne_iff_ne, ne_eq, decide_eq_true_eq, ge_iff_le] at h ⊢
  rcases h with h | ⟨h1, h2⟩
  · exact .inl h
  · exact .inr ⟨h1, by omega⟩
theorem right_mono {i : Ins} {c m c' m' : Int} (h : rightB i c m = true) (hc : c ≤ c') (hm : m ≤ m') : rightB i c' m' = true := by
  unfold rightB at h ⊢
  simp only [Bool.and_eq_true] at h ⊢
  obtain ⟨h0, ⟨⟨⟨⟨⟨ho, hd⟩, ha⟩, hb⟩, hmm⟩, ht⟩, hw⟩ := h
  exact ⟨h0, ⟨⟨⟨⟨⟨ho, hd⟩, ha⟩, hb⟩, within_mono hmm hm⟩, within_mono ht hc⟩, hw⟩
theorem z_printO0 (o : Ob) (h : (checkO o).1 ≠ 0) : K 17 [o.av] [] (.ret (.tup [.tr (ts ⟨#[]⟩), .tr (ti (checkO o).1)])) [] := by
  refine Ctr.new [] hT hmix Tryz.func17 rfl (fun _ _ => by kernel_rfl) rfl fun hok => ?_
  clear hok
  have hc := z_check o
  generalize checkO o = Q at hc h ⊢
  obtain ⟨memory, shared, locks, buffer, cores⟩ := o
  obtain ⟨q1, q2, q3⟩ := Q
  conv => whnf
  refine acall.pure _ (hc) rfl rfl fun _ => ?_
  conv => whnf
  refine csplit (fun h1 => ?_) (fun h1 => ?_)
  · conv => whnf
    exact ⟨[], rfl, rfl, (by repeat' (first | exact trivial | exact Or.inl (ti_succ (by assumption) (by assumption)) | exact Or.inl rfl | exact rfl | exact Nat.le_refl _ | apply And.intro))⟩
  · exact absurd (by simpa using h1) h
set_option maxRecDepth 100000 in
theorem z_printO (o : Ob) (h : (checkO o).1 = 0) : K 17 [o.av] [] (.ret (.tup [.tr (ts (prnO o)), .tr (ti 0)])) [] := by
  have hG := check_good h
  refine Ctr.new [] hT hmix Tryz.func17 rfl (fun _ _ => by kernel_rfl) rfl fun hok => ?_
  have hc := z_check o
  rw [checkO_zero h] at hc
  obtain ⟨memory, shared, locks, buffer, cores⟩ := o
  have hml : memory.length ≤ 9223372036854775807 := by have := hG.mem; simp only at this; omega
  have hcl8 : cores.length ≤ 8 := hG.cores
  have hcl8' : cores.length ≤ 9223372036854775807 := by omega
  have hm4 : memory.length ≤ 4096 := hG.mem
  obtain ⟨_, _, hcs⟩ := ((hok.slot 0 rfl).agg _ (.tail _ (.tail _ (.tail _ (.tail _ (.head _)))))).tr.lst
  obtain ⟨_, _, hms⟩ := ((hok.slot 0 rfl).agg _ (.head _)).tr.lst
  have hs := ((hok.slot 0 rfl).agg (.tr (ti shared)) (.tail _ (.head _))).tr.i64
  have hlo := ((hok.slot 0 rfl).agg (.tr (ti locks)) (.tail _ (.tail _ (.head _)))).tr.i64
  have hbu := ((hok.slot 0 rfl).agg (.tr (ti buffer)) (.tail _ (.tail _ (.tail _ (.head _))))).tr.i64
  clear hok
  generalize hE : prnL ⟨memory, shared, locks, buffer, cores⟩ = E
  have hEo : prnO ⟨memory, shared, locks, buffer, cores⟩ = ⟨E.toArray⟩ := by rw [← hE]; rfl
  rw [hEo]
  clear hEo
  conv => whnf
  refine acall.pure _ (hc) rfl rfl fun _ => ?_
  conv => whnf
  refine acall.pure _ (z_natural shared) rfl rfl ?_
  conv => whnf
  have z1 : (⟨#[111, 98, 106, 101, 99, 116, 32]⟩ : ByteArray).size = 7 := rfl
  have z2 : (⟨#[32]⟩ : ByteArray).size = 1 := rfl
  have z3 : (⟨#[10, 109, 101, 109, 111, 114, 121]⟩ : ByteArray).size = 7 := rfl
  have z4 : (⟨#[10]⟩ : ByteArray).size = 1 := rfl
  have z5 : (⟨#[99, 111, 114, 101, 32]⟩ : ByteArray).size = 5 := rfl
  have p1 := prn_len hs.1 hs.2
  have p2 := prn_len hlo.1 hlo.2
  have p3 := prn_len hbu.1 hbu.2
  refine ⟨by rw [z1]; omega, ?_⟩
  conv => whnf
  refine ⟨by simp only [size_add, z1, z2]; omega, ?_⟩
  conv => whnf
  refine acall.pure _ (z_natural locks) rfl rfl ?_
  conv => whnf
  refine ⟨by simp only [size_add, z1, z2]; omega, ?_⟩
  conv => whnf
  refine ⟨by simp only [size_add, z1, z2]; omega, ?_⟩
  conv => whnf
  refine acall.pure _ (z_natural buffer) rfl rfl ?_
  conv => whnf
  refine ⟨by simp only [size_add, z1, z2]; omega, ?_⟩
  conv => whnf
  refine ⟨by simp only [size_add, z1, z2, z3]; omega, ?_⟩
  conv => whnf
  refine ⟨by simp only [size_add, z1, z2, z3]; omega, ?_⟩
  conv => whnf
  refine ⟨by kernel_rfl, fun _ => ?_⟩
  conv => whnf
  refine LoopL.by (fun x : List UInt8 × Nat => ⟨[(1, .ptr 0 0), (7, .sl 1 x.1.length), (8, .tr (ti x.2))], [(0, .cells 29 [.tr (intsT memory), .tr (ti shared), .tr (ti locks), .tr (ti buffer), .tr (coresT cores)]), (1, bytB x.1)], 10⟩)
    (fun x => x.2 ≤ memory.length ∧ E = x.1 ++ ((memory.drop x.2).flatMap memP ++ ([10] ++ cores.flatMap coreP)) ∧ x.1.length ≤ 100 + 22 * x.2) (fun x => memory.length - x.2)
    ((headP ⟨memory, shared, locks, buffer, cores⟩).data.toList, 0) [0, 31] [] (Sub.mk' rfl ⟨⟨rfl, rfl⟩, ⟨rfl, (dat_len (headP ⟨memory, shared, locks, buffer, cores⟩)).symm⟩, .inl rfl, trivial⟩ (by repeat' (first | exact trivial | exact Or.inl (ti_succ (by assumption) (by assumption)) | exact Or.inl rfl | exact rfl | exact Nat.le_refl _ | apply And.intro)) rfl rfl) ⟨Nat.zero_le _, ?_, ?_⟩ ?_
  · rw [← hE]; simp only [prnL, List.append_assoc, List.drop_zero]
  · simp only [dat_len, headP, size_add, z1, z2, z3]; omega
  rintro ⟨l, i⟩ ⟨hi, hf, hlen⟩ -
  simp only at hi hf hlen
  conv => whnf
  refine csplit (fun hlt => ?_) (fun hge => ?_)
  · have hlt : i < memory.length := by simpa using hlt
    conv => whnf
    refine ⟨rfl, by omega, by simpa using hlt, fun row hrow => ?_⟩
    obtain ⟨x, hx, rfl⟩ := map_get hrow
    replace hx : memory[i]? = some x := hx
    have hxr := ((hms _ (List.mem_of_getElem? hrow)).2 (ti x) (.head _)).i64
    have px := prn_len hxr.1 hxr.2
    rw [drop_cons hx] at hf
    conv => whnf
    refine acall.pure _ (z_print x) rfl rfl fun _ => ?_
    conv => whnf
    refine ⟨by simp only [z2]; omega, ?_⟩
    conv => whnf
    refine ⟨rfl, rfl, rfl, by simp [brows], by simp only [size_add, z2]; omega, ?_⟩
    conv => whnf
    refine ⟨(l ++ memP x, i + 1), [0, 23], [], Sub.mk' rfl ⟨⟨rfl, rfl⟩, ⟨rfl, len_add _ _⟩, .inl (ti_succ hlt hml), trivial⟩ ⟨⟨rfl, .inl rfl, .inl rfl, .inl rfl, .inl rfl, .inl rfl, trivial⟩, ⟨rfl, rfl, rfl, take_app _ _⟩, trivial⟩ rfl rfl, ⟨by omega, ?_, ?_⟩, by simp only; omega⟩
    · rw [hf]; simp only [List.flatMap_cons, List.append_assoc]
    · simp only [memP, List.length_append, dat_len, size_add, z2]; omega
  have hge : memory.length ≤ i := by simpa using hge
  rw [List.drop_eq_nil_of_le hge] at hf
  conv => whnf
  refine ⟨fun _ => ?_, fun h => absurd rfl h⟩
  conv => whnf
  refine ⟨rfl, rfl, rfl, by simp [brows], by simp; omega, fun q hq => by simp at hq; subst hq; simp, ?_⟩
  conv => whnf
  refine LoopL.by (fun x : List UInt8 × Nat => ⟨[(1, .ptr 0 0), (7, .sl 1 x.1.length), (9, .tr (ti x.2))], [(0, .cells 29 [.tr (intsT memory), .tr (ti shared), .tr (ti locks), .tr (ti buffer), .tr (coresT cores)]), (1, bytB x.1)], 10⟩)
    (fun x => x.2 ≤ cores.length ∧ E = x.1 ++ (cores.drop x.2).flatMap coreP ∧ x.1.length ≤ 91000 + 1910000 * x.2) (fun x => cores.length - x.2)
    (l ++ [10], 0) [0, 17] [] (Sub.mk' rfl ⟨⟨rfl, rfl⟩, ⟨rfl, by simp⟩, .inl rfl, trivial⟩ ⟨⟨rfl, .inl rfl, .inl rfl, .inl rfl, .inl rfl, .inl rfl, trivial⟩, ⟨rfl, rfl, rfl, app_take l _ _ rfl⟩, trivial⟩ rfl rfl) ⟨Nat.zero_le _, ?_, ?_⟩ ?_
  · rw [hf]; simp
  · simp only [List.length_append, List.length_cons, List.length_nil]; omega
  clear hf hlen
  rintro ⟨l, k⟩ ⟨hk, hf, hlen⟩ -
  simp only at hk hf hlen
  conv => whnf
  refine csplit (fun hlt => ?_) (fun hge => ?_)
  · have hlt : k < cores.length := by simpa using hlt
    conv => whnf
    refine ⟨rfl, by omega, by simpa using hlt, fun row hrow => ?_⟩
    have hrowc := hrow
    obtain ⟨c, hd, rfl⟩ := map_get hrow
    replace hd : cores[k]? = some c := hd
    replace hrowc : (cores.map Cor.cells)[k]? = some c.cells := hrowc
    rw [drop_cons hd] at hf
    obtain ⟨_, hcl0, hci⟩ := ((hcs _ (List.mem_of_getElem? hrow)).2 (codeT c.code) (.tail _ (.head _))).lst
    have hmem := List.mem_of_getElem? hd
    have hnl := name_le (hG.name c hmem)
    have hcd := hG.code c hmem
    have hrt := hG.right c hmem
    obtain ⟨cn, cc⟩ := c
    simp only at hnl hcd hrt
    rw [List.length_map] at hcl0
    have hcl : cc.length ≤ 9223372036854775807 := hcl0
    clear hcl0
    conv => whnf
    refine ⟨by simp only [z5]; omega, ?_⟩
    conv => whnf
    refine ⟨by simp only [size_add, z5, z4]; omega, ?_⟩
    conv => whnf
    refine ⟨rfl, rfl, rfl, by simp [brows], by simp only [size_add, z5, z4]; omega, ?_⟩
    conv => whnf
    refine LoopL.by (fun x : List UInt8 × Nat => ⟨[(1, .ptr 0 0), (7, .sl 1 x.1.length), (9, .tr (ti k)), (10, .tr (ti x.2))],
        [(0, .cells 29 [.tr (intsT memory), .tr (ti shared), .tr (ti locks), .tr (ti buffer), .tr (coresT cores)]), (1, bytB x.1)], 10⟩)
      (fun x => x.2 ≤ cc.length ∧ E = x.1 ++ ((cc.drop x.2).flatMap insP ++ (cores.drop (k + 1)).flatMap coreP) ∧ x.1.length ≤ 91038 + 1910000 * k + 116 * x.2) (fun x => cc.length - x.2)
      (l ++ ((⟨#[99, 111, 114, 101, 32]⟩ : ByteArray) ++ cn ++ (⟨#[10]⟩ : ByteArray)).data.toList, 0) [0, 24] [] (Sub.mk' rfl ⟨⟨rfl, rfl⟩, ⟨rfl, len_add _ _⟩, .inl rfl, .inl rfl, trivial⟩ ⟨⟨rfl, .inl rfl, .inl rfl, .inl rfl, .inl rfl, .inl rfl, trivial⟩, ⟨rfl, rfl, rfl, take_app _ _⟩, trivial⟩ rfl rfl) ⟨Nat.zero_le _, ?_, ?_⟩ ?_
    · rw [hf]; simp only [List.flatMap_cons, coreP, List.append_assoc, List.drop_zero]
    · simp only [List.length_append, dat_len, size_add, z4, z5]; omega
    clear hf hlen
    rintro ⟨l, j⟩ ⟨hj, hf, hlen⟩ -
    simp only at hj hf hlen
    conv => whnf
    refine ⟨rfl, by omega, (show (k : Int) < ((cores.map Cor.cells).length : Int) by rw [List.length_map]; omega), fun row hr => ?_⟩
    cases hrowc.symm.trans hr
    conv => whnf
    refine csplit (fun hlt2 => ?_) (fun hge2 => ?_)
    · have hlt2 : j < cc.length := by simpa using hlt2
      conv => whnf
      refine ⟨rfl, by omega, (show (k : Int) < ((cores.map Cor.cells).length : Int) by rw [List.length_map]; omega), fun row hr => ?_⟩
      cases hrowc.symm.trans hr
      conv => whnf
      refine ⟨rfl, by omega, by simpa using hlt2, fun row hrow => ?_⟩
      obtain ⟨i, hx, rfl⟩ := map_get hrow
      replace hx : cc[j]? = some i := hx
      have hmi := List.mem_of_getElem? hx
      have hik := right_kind (hrt i hmi)
      have hi := iok_of (i := i) (hci _ (List.mem_of_getElem? hrow)).2
      have htl := text_len hi hik
      rw [drop_cons hx] at hf
      have hT := z_show i
      rw [show showB i = textB i by unfold showB; rw [right_mono (hrt i hmi) (by omega) (by omega)]; rfl] at hT
      obtain ⟨i1, i2, i3, i4, i5, i6, i7, i8, i9⟩ := i
      generalize hX : textB ⟨i1, i2, i3, i4, i5, i6, i7, i8, i9⟩ = X at hT htl
      have hXP : insP ⟨i1, i2, i3, i4, i5, i6, i7, i8, i9⟩ = (X ++ (⟨#[10]⟩ : ByteArray)).data.toList := by unfold insP; rw [hX]
      clear hX
      conv => whnf
      refine acall.pure _ (hT) rfl rfl fun _ => ?_
      conv => whnf
      refine ⟨by simp only [z4]; omega, ?_⟩
      conv => whnf
      refine ⟨rfl, rfl, rfl, by simp [brows], by simp only [size_add, z4]; omega, ?_⟩
      conv => whnf
      have hl2 : (l ++ (X ++ (⟨#[10]⟩ : ByteArray)).data.toList).length ≤ 91038 + 1910000 * k + 116 * (j + 1) := by simp only [List.length_append, dat_len, size_add, z4]; omega
      refine csplit (fun hbig => ?_) (fun hsm => ?_)
      · exfalso
        have := of_decide_eq_true hbig
        simp only [size_add, z4] at this
        omega
      conv => whnf
      refine ⟨(l ++ (X ++ (⟨#[10]⟩ : ByteArray)).data.toList, j + 1), [0, 31], [], Sub.mk' rfl ⟨⟨rfl, rfl⟩, ⟨rfl, len_add _ _⟩, .inl rfl, .inl (ti_succ hlt2 hcl), trivial⟩ ⟨⟨rfl, .inl rfl, .inl rfl, .inl rfl, .inl rfl, .inl rfl, trivial⟩, ⟨rfl, rfl, rfl, take_app _ _⟩, trivial⟩ rfl rfl, ⟨by omega, ?_, hl2⟩, by simp only; omega⟩
      rw [hf]; simp only [List.flatMap_cons, hXP, List.append_assoc]
    have hge2 : cc.length ≤ j := by simpa using hge2
    rw [List.drop_eq_nil_of_le hge2] at hf
    conv => whnf
    refine ⟨fun _ => ?_, fun h => absurd rfl h⟩
    conv => whnf
    refine ⟨(l, k + 1), [0, 1], [], Sub.mk' rfl ⟨⟨rfl, rfl⟩, ⟨rfl, rfl⟩, .inl (ti_succ hlt hcl8'), trivial⟩ (by repeat' (first | exact trivial | exact Or.inl (ti_succ (by assumption) (by assumption)) | exact Or.inl rfl | exact rfl | exact Nat.le_refl _ | apply And.intro)) rfl rfl, ⟨by omega, ?_, ?_⟩, by simp only; omega⟩
    · rw [hf]; simp
    · simp only; omega
  have hge : cores.length ≤ k := by simpa using hge
  rw [List.drop_eq_nil_of_le hge] at hf
  obtain rfl : E = l := by rw [hf]; simp
  conv => whnf
  refine ⟨fun _ => ?_, fun h => absurd rfl h⟩
  conv => whnf
  refine csplit (fun hbig => ?_) (fun hsm => ?_)
  · exfalso
    have := of_decide_eq_true hbig
    simp only at this
    omega
  conv => whnf
  rw [srcRows_bytes (h := 1) (l := E) (e := 5) ?hm rfl]
  case hm => rfl
  conv => whnf
  refine ⟨E, rfl, by omega, ?_⟩
  conv => whnf
  exact ⟨[], rfl, rfl, (by repeat' (first | exact trivial | exact Or.inl (ti_succ (by assumption) (by assumption)) | exact Or.inl rfl | exact rfl | exact Nat.le_refl _ | apply And.intro))⟩
end Go.Proofs.YtffhoknkfohfgaaGreatDoor.am
