/- Plain: an object's text is read as that object. Plain: an object's bytes are read as that object, and are few. Contract of the reference's Same, of an object and itself. Contract of target.Same, of an object and itself. -/
import Derived.Test.YtffhoknkfohfgaaGreatDoorV11
set_option linter.all false

namespace Go.Proofs.YtffhoknkfohfgaaGreatDoor.am
open Go Go.Proofs
theorem okw_field {i : Ins} {u : Int} {w : ByteArray} (h1 : u ≠ 1) (h : fieldW i u = some w) : okw w := by
  unfold fieldW at h
  rw [show (u == 1) = false from beq_eq_false_iff_ne.2 h1] at h
  cases e2 : (u == 2) <;> rw [e2] at h
  · cases e3 : (u == 4) <;> rw [e3] at h
    · cases e4 : (u == 8) <;> rw [e4] at h
      · cases e5 : (u == 16) <;> rw [e5] at h
        · cases e6 : (u == 32) <;> rw [e6] at h
          · cases e7 : (u == 64) <;> rw [e7] at h
            · cases h
            · cases h; exact okw_prn _
          · cases h; exact okw_prn _
        · cases h; exact okw_prn _
      · cases h; exact okw_reg _
    · cases h; exact okw_reg _
  · cases h; exact okw_reg _
theorem op_right {i : Ins} {code mem : Int} (hR : RightF i code mem) (h2 : i.kind = 2) : 1 ≤ i.op ∧ i.op ≤ 18 := by
  refine hR.op.2 ?_
  rw [h2]
  unfold usedM
  generalize two i.op = t
  cases t <;> decide
theorem okw_used {i : Ins} {m : Int} {l : List Int} {w : ByteArray} (h : w ∈ l.filterMap fun u => bif skip m u then none else fieldW i u) : okw w := by
  obtain ⟨u, _, hu⟩ := List.mem_filterMap.1 h
  by_cases h1 : u = 1
  · rw [h1, show skip m 1 = true by unfold skip; simp] at hu; cases hu
  · cases hs : skip m u
    · rw [hs] at hu; exact okw_field h1 hu
    · rw [hs] at hu; cases hu
theorem body_cons {i : Ins} {code mem : Int} (hR : RightF i code mem) : ∃ w r, bodyW i = w :: r ∧ okw w ∧ (∀ x ∈ r, okw x) ∧ seq w coreW = false := by
  by_cases h2 : i.kind = 2
  · refine ⟨_, _, bodyW_two h2, okw_opword (op_right hR h2), fun x hx => okw_used hx, ?_⟩
    rcases op_cases (op_right hR h2) with h | h | h | h | h | h | h | h | h | h | h | h | h | h | h | h | h | h <;> (rw [h]; exact Bool.eq_false_iff.2 fun h => absurd (seq_ba.1 h) (by decide))
  · refine ⟨_, _, bodyW_ne hR.kind h2, okw_kword hR.kind, fun x hx => ?_, ?_⟩
    · rw [← used_words hR.kind h2] at hx
      exact okw_used hx
    · have hk := hR.kind
      have hc : i.kind = 1 ∨ i.kind = 3 ∨ i.kind = 4 ∨ i.kind = 5 ∨ i.kind = 6 ∨ i.kind = 7 ∨ i.kind = 8 ∨ i.kind = 9 ∨ i.kind = 10 := by omega
      rcases hc with h | h | h | h | h | h | h | h | h <;> (rw [h]; exact Bool.eq_false_iff.2 fun h => absurd (seq_ba.1 h) (by decide))
theorem words_eq (i : Ins) : wordsOf i = bodyW i ++ (bif i.from_ != 0 then [atB i.from_] else []) := rfl
theorem instr_fwd {code mem : Int} (hc : code ≤ 9223372036854775807) (hm9 : mem ≤ 9223372036854775807) {i : Ins} (hr : rightB i code mem = true) (hw : in64 i.word) : instrL (wordsOf i) = (i, true) := by
  have hG := instrG_fwd hc hm9 hr hw
  have hR := right_inv hr
  obtain ⟨w, r, hb, hw1, hr1, _⟩ := body_cons hR
  rw [words_eq]
  by_cases h0 : i.from_ = 0
  · rw [show (i.from_ != 0) = false by rw [h0]; rfl, cond_false, List.append_nil]
    have hp : prefB (lastS (bodyW i)) aS = false := by
      cases hp : prefB (lastS (bodyW i)) aS
      · rfl
      · exfalso
        have hne : bodyW i ≠ [] := by rw [hb]; simp
        have hl : lastS (bodyW i) ∈ bodyW i := by
          unfold lastS
          rw [List.getLast?_eq_some_getLast hne]
          exact List.getLast_mem hne
        have hok : okw (lastS (bodyW i)) := by
          rw [hb] at hl ⊢
          rcases List.mem_cons.1 hl with e | hl
          · rw [e]; exact hw1
          · exact hr1 _ hl
        exact (hok 64 (by rw [pref_cons hp]; exact .head _)).2.2 rfl
    unfold instrL
    rw [hp, Bool.and_false, cond_false]
    rw [h0] at hG
    exact hG
  · rw [show (i.from_ != 0) = true by simpa using h0, cond_true]
    have el : lastS (bodyW i ++ [atB i.from_]) = atB i.from_ := by unfold lastS; simp
    have hp := tl_cons 64 (prnB i.from_)
    have hl : decide (((bodyW i ++ [atB i.from_]).length : Int) > 1) = true := decide_eq_true (by rw [hb]; simp; omega)
    have e1 : prefB (atB i.from_) aS = true := hp.1
    have e2 : tlS (atB i.from_) = prnB i.from_ := hp.2
    unfold instrL
    rw [el, hl, e1, e2, num_prn hR.from_.1 (by have := hR.from_.2; omega), List.dropLast_concat]
    show (bif !true || i.from_ == 0 then (zeroI, false) else instrG { zeroI with from_ := i.from_ } (bodyW i)) = _
    rw [show (i.from_ == 0) = false from beq_eq_false_iff_ne.2 h0]
    exact hG
/-! lines -/
theorem jn_free {c : UInt8} (hc : c ≠ 32) : ∀ ws : List (List UInt8), (∀ w ∈ ws, c ∉ w) → c ∉ jn ws
  | [], _ => by simp [jn]
  | w :: ws, h => by
    rw [jn_cons, List.mem_append, not_or]
    refine ⟨h w (.head _), ?_⟩
    rw [List.mem_flatMap]
    rintro ⟨v, hv, hm⟩
    rcases List.mem_cons.1 hm with e | hm
    · exact hc e
    · exact h v (.tail _ hv) hm
theorem as_mk (ws : List ByteArray) : ws = (ws.map (·.data.toList)).map mkB := by
  apply map_data_inj
  simp [Function.comp_def, mkB_data]
def free (s : ByteArray) : Prop := 32 ∉ s.data.toList ∧ 10 ∉ s.data.toList
theorem okw.free {s : ByteArray} (h : okw s) : free s := ⟨fun hc => (h _ hc).1 rfl, fun hc => (h _ hc).2.1 rfl⟩
theorem split_join {ws : List ByteArray} (h0 : ws ≠ []) (h : ∀ w ∈ ws, free w) : splitBl (joinB ws) = ws ∧ 10 ∉ (joinB ws).data.toList := by
  obtain ⟨l, rfl⟩ : ∃ l : List (List UInt8), ws = l.map mkB := ⟨_, as_mk ws⟩
  have hl : ∀ x ∈ l, free (mkB x) := fun x hx => h _ (List.mem_map.2 ⟨x, hx, rfl⟩)
  rw [joinB_mk, mkB_data]
  refine ⟨split_jn (fun e => h0 (by rw [e]; rfl)) fun x hx => ?_, jn_free (by decide) _ fun x hx => ?_⟩
  · have := (hl x hx).1; rwa [mkB_data] at this
  · have := (hl x hx).2; rwa [mkB_data] at this
theorem free_at (n : Int) : free (atB n) := by
  have e : (atB n).data.toList = 64 :: ws.prn n := by simp [atB, prnB]
  have hp := okw_prn n
  unfold free
  rw [e]
  refine ⟨fun h => ?_, fun h => ?_⟩
  · rcases List.mem_cons.1 h with h | h
    · exact absurd h (by decide)
    · exact (hp 32 (by rw [prn_data]; exact h)).1 rfl
  · rcases List.mem_cons.1 h with h | h
    · exact absurd h (by decide)
    · exact (hp 10 (by rw [prn_data]; exact h)).2.1 rfl
theorem words_free {i : Ins} {code mem : Int} (hR : RightF i code mem) : wordsOf i ≠ [] ∧ ∀ w ∈ wordsOf i, free w := by
  obtain ⟨w, r, hb, hw1, hr1, _⟩ := body_cons hR
  rw [words_eq, hb]
  refine ⟨by simp, fun x hx => ?_⟩
  rcases List.mem_append.1 hx with hx | hx
  · rcases List.mem_cons.1 hx with rfl | hx
    · exact hw1.free
    · exact (hr1 x hx).free
  · cases h : (i.from_ != 0)
    · rw [h] at hx; cases hx
    · rw [h] at hx
      obtain rfl := List.mem_singleton.1 hx
      exact free_at _
theorem isCore_ne {w : ByteArray} {r : List ByteArray} (h : seq w coreW = false) : isCore (w :: r) = none := by
  match r with
  | [] => rfl
  | [a] => show (bif seq w coreW then some a else none) = none; rw [h]; rfl
  | _ :: _ :: _ => rfl
theorem text_split {i : Ins} {code mem : Int} (hR : RightF i code mem) : splitBl (textB i) = wordsOf i ∧ 10 ∉ (textB i).data.toList := by
  obtain ⟨h1, h2⟩ := words_free hR
  exact split_join h1 h2
theorem further_ins {code mem : Int} (hc : code ≤ 9223372036854775807) (hm9 : mem ≤ 9223372036854775807) {i : Ins} (hr : rightB i code mem = true) (hw : in64 i.word) (cs : List Cor) (n : ByteArray) (c0 : List Ins) :
    furtherS (cs ++ [⟨n, c0⟩]) (mkB (textB i).data.toList) = some (cs ++ [⟨n, c0 ++ [i]⟩]) := by
  have hR := right_inv hr
  rw [mkB_of]
  unfold furtherS instrS
  rw [(text_split hR).1, instr_fwd hc hm9 hr hw]
  obtain ⟨w, r, hb, _, _, hcw⟩ := body_cons hR
  rw [show isCore (wordsOf i) = none by rw [words_eq, hb]; exact isCore_ne hcw]
  show (bif !true || ((cs ++ [(⟨n, c0⟩ : Cor)]).length : Int) == 0 then none else some (addI (cs ++ [⟨n, c0⟩]) i)) = _
  rw [show (((cs ++ [(⟨n, c0⟩ : Cor)]).length : Int) == 0) = false from beq_eq_false_iff_ne.2 (by simp; omega), addI_snoc]; rfl
def textLn (i : Ins) : List UInt8 := (textB i).data.toList
def coreLn (n : ByteArray) : List UInt8 := jn [coreW.data.toList, n.data.toList]
def coreLns (c : Cor) : List (List UInt8) := coreLn c.name :: c.code.map textLn
def headLn (o : Ob) : List UInt8 := jn [objW.data.toList, ws.prn o.shared, ws.prn o.locks, ws.prn o.buffer]
def memLn (o : Ob) : List UInt8 := jn (memW.data.toList :: o.memory.map ws.prn)
def linesOf (o : Ob) : List (List UInt8) := headLn o :: memLn o :: o.cores.flatMap coreLns
theorem runC_code {code mem : Int} (hc : code ≤ 9223372036854775807) (hm9 : mem ≤ 9223372036854775807) (rest : List (List UInt8)) (cs : List Cor) (n : ByteArray) : ∀ (l c0 : List Ins), (∀ i ∈ l, rightB i code mem = true ∧ in64 i.word) →
    runC (l.map textLn ++ rest) (cs ++ [⟨n, c0⟩]) = runC rest (cs ++ [⟨n, c0 ++ l⟩])
  | [], c0, _ => by rw [List.append_nil]; rfl
  | i :: l, c0, h => by
    obtain ⟨h1, h2⟩ := h i (.head _)
    show (match furtherS (cs ++ [⟨n, c0⟩]) (mkB (textLn i)) with | none => none | some cs' => runC (l.map textLn ++ rest) cs') = _
    rw [show furtherS (cs ++ [⟨n, c0⟩]) (mkB (textLn i)) = _ from further_ins hc hm9 h1 h2 cs n c0]
    show runC (l.map textLn ++ rest) (cs ++ [⟨n, c0 ++ [i]⟩]) = _
    rw [runC_code hc hm9 rest cs n l _ fun x hx => h x (.tail _ hx), List.append_assoc]; rfl
theorem letB_okc {c : UInt8} (h : (!letB c.toNat && !digB c.toNat) = false) : okc c := by
  refine ⟨?_, ?_, ?_⟩ <;> (rintro rfl; revert h; decide)
theorem chars_all {s : ByteArray} : ∀ (n i : Nat), s.size - i = n → i ≤ s.size → charsB s (s.size - i) = true → ∀ c ∈ s.data.toList.drop i, okc c
  | 0, i, hn, hi, _, c, hc => by rw [ws.drop_end s i (by omega)] at hc; cases hc
  | n + 1, i, hn, hi, h, c, hc => by
    have hlt : i < s.size := by omega
    rw [charsB_at (b := s[i]) (by simp [hlt]) hlt] at h
    rw [ws.drop_at s i hlt] at hc
    cases hb : (!letB s[i].toNat && !digB s[i].toNat)
    · rw [hb] at h
      rcases List.mem_cons.1 hc with rfl | hc
      · exact letB_okc hb
      · exact chars_all n (i + 1) (by omega) (by omega) h c hc
    · rw [hb] at h; cases h
theorem okw_name {s : ByteArray} (h : nameB s = true) : okw s := by
  unfold nameB at h
  cases hb : (decide ((s.size : Int) < 1) || decide ((s.size : Int) > 32) || digB (chI s 0) || wordB s)
  · rw [hb] at h
    intro c hc
    exact chars_all s.size 0 (by omega) (Nat.zero_le _) h c (by rwa [List.drop_zero])
  · rw [hb] at h; cases h
theorem free_core : free coreW := by unfold free; decide
theorem free_obj : free objW := by unfold free; decide
theorem free_mem : free memW := by unfold free; decide
theorem jn_split {ws : List ByteArray} (h0 : ws ≠ []) (h : ∀ w ∈ ws, free w) : splitBl (mkB (jn (ws.map (·.data.toList)))) = ws ∧ 10 ∉ jn (ws.map (·.data.toList)) := by
  have := split_join h0 h
  have e : joinB ws = mkB (jn (ws.map (·.data.toList))) := by rw [← joinB_mk, ← as_mk]
  rw [e, mkB_data] at this
  exact this
theorem further_core {n : ByteArray} (h : nameB n = true) (cs : List Cor) : furtherS cs (mkB (coreLn n)) = some (cs ++ [newC n]) := by
  have hs := (jn_split (ws := [coreW, n]) (by simp) (fun w hw => by
    simp only [List.mem_cons, List.not_mem_nil, or_false] at hw
    rcases hw with rfl | rfl
    · exact free_core
    · exact (okw_name h).free)).1
  unfold furtherS
  rw [show splitBl (mkB (coreLn n)) = [coreW, n] from hs, show isCore [coreW, n] = some n from by unfold isCore; simp only [seq_ba.2 rfl, cond_true]]
theorem runC_cores {mem : Int} (hm9 : mem ≤ 9223372036854775807) : ∀ (l cs : List Cor), (∀ c ∈ l, nameB c.name = true ∧ c.code.length ≤ 16384 ∧ ∀ i ∈ c.code, rightB i c.code.length mem = true ∧ in64 i.word) → runC (l.flatMap coreLns) cs = some (cs ++ l)
  | [], cs, _ => by rw [List.append_nil]; rfl
  | c :: l, cs, h => by
    obtain ⟨h1, h2, h3⟩ := h c (.head _)
    rw [List.flatMap_cons]
    show (match furtherS cs (mkB (coreLn c.name)) with | none => none | some cs' => runC (c.code.map textLn ++ l.flatMap coreLns) cs') = _
    rw [further_core h1]
    show runC (c.code.map textLn ++ l.flatMap coreLns) (cs ++ [⟨c.name, []⟩]) = _
    rw [runC_code (by omega) hm9 _ cs c.name c.code [] h3, List.nil_append, runC_cores hm9 l _ fun x hx => h x (.tail _ hx), List.append_assoc]; rfl
theorem memG_fwd : ∀ {l : List Int}, (∀ w ∈ l, in64 w) → memG (l.map prnB) = some l
  | [], _ => rfl
  | w :: l, h => by
    show (bif (prsB (prnB w)).2.1 != 0 then none else (memG (l.map prnB)).map fun l => (prsB (prnB w)).1 :: l) = _
    rw [prs_prnB (h w (.head _)), memG_fwd fun x hx => h x (.tail _ hx)]; rfl
theorem mem_fwd {o : Ob} (h : ∀ w ∈ o.memory, in64 w) : memL (splitBl (mkB (memLn o))) = some o.memory ∧ 10 ∉ memLn o := by
  have hs := jn_split (ws := memW :: o.memory.map prnB) (by simp) (fun w hw => by
    rcases List.mem_cons.1 hw with rfl | hw
    · exact free_mem
    · obtain ⟨x, _, rfl⟩ := List.mem_map.1 hw
      exact (okw_prn x).free)
  have e : (memW :: o.memory.map prnB).map (·.data.toList) = memW.data.toList :: o.memory.map ws.prn := by
    simp [Function.comp_def, prnB]
  rw [e] at hs
  refine ⟨?_, hs.2⟩
  rw [show splitBl (mkB (memLn o)) = _ from hs.1]
  show (bif seq memW memW then memG (o.memory.map prnB) else none) = _
  rw [seq_ba.2 rfl, memG_fwd h]; rfl
theorem head_fwd {o : Ob} (hG : Good o) : headL (splitBl (mkB (headLn o))) = some (o.shared, o.locks, o.buffer) ∧ 10 ∉ headLn o := by
  have hs := jn_split (ws := [objW, prnB o.shared, prnB o.locks, prnB o.buffer]) (by simp) (fun w hw => by
    simp only [List.mem_cons, List.not_mem_nil, or_false] at hw
    rcases hw with rfl | rfl | rfl | rfl
    · exact free_obj
    · exact (okw_prn _).free
    · exact (okw_prn _).free
    · exact (okw_prn _).free)
  have e : [objW, prnB o.shared, prnB o.locks, prnB o.buffer].map (·.data.toList) = [objW.data.toList, ws.prn o.shared, ws.prn o.locks, ws.prn o.buffer] := by simp [prnB]
  rw [e] at hs
  refine ⟨?_, hs.2⟩
  rw [show splitBl (mkB (headLn o)) = _ from hs.1]
  have g1 := hG.shared
  have g2 := hG.locks
  have g3 := hG.buffer
  show (bif seq objW objW && ((numS (prnB o.shared)).2 && ((numS (prnB o.locks)).2 && (numS (prnB o.buffer)).2)) then some ((numS (prnB o.shared)).1, (numS (prnB o.locks)).1, (numS (prnB o.buffer)).1) else none) = _
  rw [seq_ba.2 rfl, num_prn g1.1 (by omega), num_prn g2.1 (by omega), num_prn (by omega) (by omega)]; rfl
theorem runP_fwd {o : Ob} (hG : Good o) (hR : Rng o) : runP (linesOf o) = some o ∧ ∀ x ∈ linesOf o, 10 ∉ x := by
  have hm4 := hG.mem
  have hcs := runC_cores (mem := (o.memory.length : Int)) (by omega) o.cores [] fun c hc => ⟨hG.name c hc, (hG.code c hc).2, fun i hi => ⟨hG.right c hc i hi, hR.word c hc i hi⟩⟩
  obtain ⟨h1, f1⟩ := head_fwd hG
  obtain ⟨h2, f2⟩ := mem_fwd hR.mem
  constructor
  · unfold linesOf runP
    simp only [h1, h2, hcs, List.nil_append]
  · intro x hx
    rcases List.mem_cons.1 hx with rfl | hx
    · exact f1
    · rcases List.mem_cons.1 hx with rfl | hx
      · exact f2
      · obtain ⟨c, hc, hx⟩ := List.mem_flatMap.1 hx
        rcases List.mem_cons.1 hx with rfl | hx
        · exact (jn_split (ws := [coreW, c.name]) (by simp) (fun w hw => by
            simp only [List.mem_cons, List.not_mem_nil, or_false] at hw
            rcases hw with rfl | rfl
            · exact free_core
            · exact (okw_name (hG.name c hc)).free)).2
        · obtain ⟨i, hi, rfl⟩ := List.mem_map.1 hx
          exact (text_split (right_inv (hG.right c hc i hi))).2
/-! sizes -/
theorem iok_right {i : Ins} {code mem : Int} (hc : code ≤ 16384) (hm : mem ≤ 4096) (hR : RightF i code mem) (hw : in64 i.word) : IOk i := by
  have z : ∀ {P : Prop} {x b : Int}, (P → x = 0) ∧ (¬ P → 0 ≤ x ∧ x < b) → b ≤ 16384 → 0 ≤ x ∧ x ≤ 16384 := fun {P x b} h hb => by
    by_cases hp : P
    · have := h.1 hp; omega
    · have := h.2 hp; omega
  have hd := z hR.d (by decide)
  have ha := z hR.a (by decide)
  have hb := z hR.b (by decide)
  have h1 := z hR.addr (by omega)
  have h2 := z hR.to_ hc
  have hk := hR.kind
  have hf := hR.from_
  have ho : 0 ≤ i.op ∧ i.op ≤ 18 := by
    by_cases hp : band (usedM i.kind i.op) 1 = 0
    · have := hR.op.1 hp; omega
    · have := hR.op.2 hp; omega
  exact ⟨by omega, by omega, by omega, by omega, by omega, hw, by omega, by omega, by omega⟩
theorem insP_len {i : Ins} (hi : IOk i) (hk : 1 ≤ i.kind ∧ i.kind < 11) : (insP i).length ≤ 116 := by
  have := text_len hi hk
  unfold insP
  rw [dat_len, size_add]
  have : (⟨#[10]⟩ : ByteArray).size = 1 := rfl
  omega
theorem prnO_len {o : Ob} (hG : Good o) (hR : Rng o) : (prnO o).size ≤ 16777216 := by
  have hm4 := hG.mem
  have hc8 := hG.cores
  have e : (prnO o).size = (prnL o).length := by show (prnL o).toArray.size = _; simp
  rw [e]
  have h1 := flat_len memP 22 o.memory fun w hw => by
    have := prn_len (hR.mem w hw).1 (hR.mem w hw).2
    unfold memP
    rw [dat_len, size_add]
    have : (⟨#[32]⟩ : ByteArray).size = 1 := rfl
    omega
  have h2 := flat_len coreP 1900582 o.cores fun c hc => by
    have h3 := flat_len insP 116 c.code fun i hi => insP_len (iok_right (by have := (hG.code c hc).2; omega) (by omega) (right_inv (hG.right c hc i hi)) (hR.word c hc i hi)) (right_inv (hG.right c hc i hi)).kind
    have h4 := (hG.code c hc).2
    have h5 := name_le (hG.name c hc)
    unfold coreP
    rw [List.length_append, dat_len, size_add, size_add]
    have : (⟨#[99, 111, 114, 101, 32]⟩ : ByteArray).size = 5 := rfl
    have : (⟨#[10]⟩ : ByteArray).size = 1 := rfl
    omega
  have h3 : (headP o).data.toList.length ≤ 100 := by
    have g1 := hG.shared
    have g2 := hG.locks
    have g3 := hG.buffer
    have p1 := prn_len (n := o.shared) (by omega) (by omega)
    have p2 := prn_len (n := o.locks) (by omega) (by omega)
    have p3 := prn_len (n := o.buffer) (by omega) (by omega)
    have z1 : (⟨#[111, 98, 106, 101, 99, 116, 32]⟩ : ByteArray).size = 7 := rfl
    have z2 : (⟨#[32]⟩ : ByteArray).size = 1 := rfl
    have z3 : (⟨#[10, 109, 101, 109, 111, 114, 121]⟩ : ByteArray).size = 7 := rfl
    simp only [dat_len, headP, size_add, z1, z2, z3]; omega
  unfold prnL
  simp only [List.length_append, List.length_cons, List.length_nil]
  omega
/-- an object's text is read as that object -/
theorem parse_fwd {o : Ob} (h : (checkO o).1 = 0) (hR : Rng o) : parseS (prnO o) = (o, 0, 0) := by
  have hG := check_good h
  obtain ⟨h1, h2⟩ := runP_fwd hG hR
  have hs : (prnO o).data.toList = unl (linesOf o) ++ [] := by
    rw [List.append_nil, ← runP_back h1]
    simp [prnO]
  rcases parse_lines hs h2 (by simp) (prnO_len hG hR) with ⟨_, o', e1, e2⟩ | ⟨e1, _⟩
  · rw [h1] at e1
    cases e1
    rw [e2]
    rcases doneP_cases o with ⟨e, _⟩ | ⟨w, hw, e⟩
    · exact e
    · exfalso
      have : doneP o = (o, 0, 0) := by unfold doneP; rw [show ((checkO o).1 != 0) = false by rw [h]; rfl]; rfl
      rw [this] at e
      simp only [Prod.mk.injEq] at e
      exact hw e.2.1.symm
  · rcases e1 with e1 | e1
    · exact absurd rfl e1
    · rw [h1] at e1; cases e1
end Go.Proofs.YtffhoknkfohfgaaGreatDoor.am

namespace Go.Proofs.YtffhoknkfohfgaaGreatDoor.am
open Go Go.Proofs
theorem limT_ok {code mem : Int} (hc : code ≤ 16384) (hm : mem ≤ 4096) : LimOk limT code mem := ⟨by decide, by decide, by show mem ≤ 16384; omega, by show code ≤ 16384; omega, by decide, by decide, by decide, by decide⟩
theorem dec_enc {o : Ob} (h : (checkO o).1 = 0) (hR : Rng o) : decS (encB o) = (o, 0) := by
  have hG := check_good h
  have hm4 := hG.mem
  have he := ob_enc (L := limTT) hG hR (fun c hc => limT_ok (by have := (hG.code c hc).2; omega) (by omega)) []
  rw [List.append_nil] at he
  rcases decS_cases (encB o) with ⟨o', e1, _, e3⟩ | ⟨_, e⟩
  · rw [he] at e1
    cases e1
    exact e3
  · exact absurd h (e o he)
theorem vari_one {n : Nat} (h : n < 128) (f : Nat) : (vari (f + 1) n).length = 1 := by rw [vari_lt h]; rfl
theorem nu1 {x : Int} (h : 0 ≤ x ∧ x < 128) : (nuB x).length = 1 := by
  rw [nuB_nat h.1 (by omega)]
  exact vari_one (by omega) 8
theorem nu2 {x : Int} (h : 0 ≤ x ∧ x < 16384) : (nuB x).length ≤ 2 := by
  rw [nuB_nat h.1 (by omega)]
  by_cases h1 : x.toNat < 128
  · rw [vari_one h1 8]; omega
  · rw [vari_ge (by omega), List.length_cons, vari_one (by omega) 7]; omega
theorem fieldE_zero (i : Ins) : fieldE i 0 = [] := rfl
theorem insE_len {i : Ins} {code mem : Int} (hR : RightF i code mem) : (insE i).length ≤ 24 := by
  have hk := hR.kind
  have h1 := nu1 (x := i.kind) (by omega)
  have h2 := nu2 (x := i.from_) (by have := hR.from_; omega)
  have h3 : (fieldsE i).length ≤ 20 := by
    have z : ∀ {P : Prop} {x : Int}, (P → x = 0) ∧ (¬ P → 0 ≤ x ∧ x < 16) → 0 ≤ x ∧ x < 128 := fun {P x} h => by
      by_cases hp : P
      · have := h.1 hp; omega
      · have := h.2 hp; omega
    by_cases hk2 : i.kind = 2
    · have ho := nu1 (x := i.op) (by have := op_right hR hk2; omega)
      have hd := nu1 (z hR.d)
      have ha := nu1 (z hR.a)
      have hb := nu1 (z hR.b)
      have e1 : fieldE i 1 = nuB i.op := rfl
      have e2 : fieldE i 2 = nuB i.d := rfl
      have e4 : fieldE i 4 = nuB i.a := rfl
      have e8 : fieldE i 8 = nuB i.b := rfl
      unfold fieldsE
      rw [hk2]
      cases two i.op
      · show ([1, 2, 4].flatMap (fieldE i)).length ≤ 20
        simp [e1, e2, e4, ho, hd, ha]
      · show ([1, 2, 4, 8].flatMap (fieldE i)).length ≤ 20
        simp [e1, e2, e4, e8, ho, hd, ha, hb]
    · unfold fieldsE
      rw [show (i.kind == 2) = false from beq_eq_false_iff_ne.2 hk2, Bool.false_and, cond_false]
      have f := fun u => fieldE_len i u
      have f2 := f 2
      have f4 := f 4
      have f16 := f 16
      have f32 := f 32
      have f64 := f 64
      have hc : i.kind = 1 ∨ i.kind = 3 ∨ i.kind = 4 ∨ i.kind = 5 ∨ i.kind = 6 ∨ i.kind = 7 ∨ i.kind = 8 ∨ i.kind = 9 ∨ i.kind = 10 := by omega
      rcases hc with h | h | h | h | h | h | h | h | h <;> rw [h]
      · show ([2, 64, 0, 0].flatMap (fieldE i)).length ≤ 20
        simp [fieldE_zero]; omega
      · show ([2, 16, 0, 0].flatMap (fieldE i)).length ≤ 20
        simp [fieldE_zero]; omega
      · show ([4, 16, 0, 0].flatMap (fieldE i)).length ≤ 20
        simp [fieldE_zero]; omega
      · show ([2, 16, 0, 0].flatMap (fieldE i)).length ≤ 20
        simp [fieldE_zero]; omega
      · show ([0, 0, 0, 0].flatMap (fieldE i)).length ≤ 20
        simp [fieldE_zero]
      · show ([4, 0, 0, 0].flatMap (fieldE i)).length ≤ 20
        simp [fieldE_zero]; omega
      · show ([32, 0, 0, 0].flatMap (fieldE i)).length ≤ 20
        simp [fieldE_zero]; omega
      · show ([4, 32, 0, 0].flatMap (fieldE i)).length ≤ 20
        simp [fieldE_zero]; omega
      · show ([0, 0, 0, 0].flatMap (fieldE i)).length ≤ 20
        simp [fieldE_zero]
  unfold insE
  simp only [List.length_append]
  omega
theorem encB_len {o : Ob} (hG : Good o) : (encB o).length ≤ 4194304 := by
  have hm4 := hG.mem
  have hc8 := hG.cores
  have h1 := flat_len wrdB 10 o.memory fun w _ => wrdB_len w
  have h2 := flat_len coreE 393300 o.cores fun c hc => by
    have h3 := flat_len insE 24 c.code fun i hi => insE_len (right_inv (hG.right c hc i hi))
    have h4 := (hG.code c hc).2
    have h5 := name_le (hG.name c hc)
    have h6 := nuB_len c.name.size
    have h7 := nuB_len c.code.length
    unfold coreE
    simp only [List.length_append, dat_len]
    omega
  have g1 := nuB_len o.shared
  have g2 := nuB_len o.locks
  have g3 := nuB_len o.buffer
  have g4 := nuB_len o.memory.length
  have g5 := nuB_len o.cores.length
  unfold encB headE
  simp only [List.length_append, magicL, List.length_cons, List.length_nil]
  omega
end Go.Proofs.YtffhoknkfohfgaaGreatDoor.am

namespace Go.Proofs.YtffhoknkfohfgaaGreatDoor.am
open Go Go.Proofs
set_option maxRecDepth 100000 in
set_option maxHeartbeats 2000000 in
theorem k_same2 (o : Ob) : K 12 [o.av, o.av] [] (.ret (.tr (tb true))) [] := by
  refine Ctr.of hT hmix Tryz.func12 rfl (fun _ _ => by kernel_rfl) rfl fun hok => ?_
  obtain ⟨_, hcl0, hcs⟩ := ((hok.slot 0 rfl).agg _ (.tail _ (.tail _ (.tail _ (.tail _ (.head _)))))).tr.lst
  obtain ⟨_, hml0, _⟩ := ((hok.slot 0 rfl).agg _ (.head _)).tr.lst
  rw [List.length_map] at hcl0 hml0
  clear hok
  obtain ⟨memory, shared, locks, buffer, cores⟩ := o
  have hcl : cores.length ≤ 9223372036854775807 := hcl0
  have hml : memory.length ≤ 9223372036854775807 := hml0
  clear hcl0 hml0
  conv => whnf
  (repeat' (refine csplit (fun h => absurd h (by simp)) (fun _ => ?_); conv => whnf))
  refine LoopL.by (fun i : Nat => ⟨[(2, .ptr 0 0), (3, .ptr 1 0), (5, .tr (ti i))], [(0, obB (.tr (intsT memory)) shared locks buffer (.tr (coresT cores))), (1, obB (.tr (intsT memory)) shared locks buffer (.tr (coresT cores)))], 10⟩) (fun i => i ≤ memory.length) (fun i => memory.length - i) 0 [0, 1] []
    (Sub.mk' rfl ⟨⟨rfl, rfl⟩, ⟨rfl, rfl⟩, .inl rfl, trivial⟩ (by repeat' (first | exact trivial | exact Or.inl (ti_succ (by assumption) (by assumption)) | exact Or.inl rfl | exact rfl | exact Nat.le_refl _ | apply And.intro)) rfl rfl) (Nat.zero_le _) ?_
  rintro i hi -
  conv => whnf
  refine csplit (fun hlt => ?_) (fun hge => ?_)
  · have hlt : i < memory.length := by have := of_decide_eq_true hlt; rw [List.length_map] at this; omega
    obtain ⟨d, hd⟩ : ∃ d, memory[i]? = some d := ⟨memory[i], by simp [hlt]⟩
    have hrow : (memory.map irow)[i]? = some (irow d) := by rw [List.getElem?_map, hd]; rfl
    conv => whnf
    refine ⟨rfl, (show (0 : Int) ≤ i by omega), (show (i : Int) < (List.map irow memory).length by rw [List.length_map]; omega), fun row hr => ?_⟩
    cases hrow.symm.trans hr
    conv => whnf
    refine ⟨rfl, (show (0 : Int) ≤ i by omega), (show (i : Int) < (List.map irow memory).length by rw [List.length_map]; omega), fun row hr => ?_⟩
    cases hrow.symm.trans hr
    conv => whnf
    refine ⟨by kernel_rfl, fun _ => ?_⟩
    conv => whnf
    refine csplit (fun h => absurd h (by simp)) (fun _ => ?_)
    conv => whnf
    exact ⟨i + 1, [0, 1], [], Sub.mk' rfl ⟨⟨rfl, rfl⟩, ⟨rfl, rfl⟩, .inl (ti_succ hlt hml), trivial⟩ (by repeat' (first | exact trivial | exact Or.inl (ti_succ (by assumption) (by assumption)) | exact Or.inl rfl | exact rfl | exact Nat.le_refl _ | apply And.intro)) rfl rfl, hlt, by omega⟩
  conv => whnf
  refine ⟨fun _ => ?_, fun h => absurd rfl h⟩
  conv => whnf
  refine LoopL.by (fun i : Nat => ⟨[(2, .ptr 0 0), (3, .ptr 1 0), (6, .tr (ti i))], [(0, obB (.tr (intsT memory)) shared locks buffer (.tr (coresT cores))), (1, obB (.tr (intsT memory)) shared locks buffer (.tr (coresT cores)))], 10⟩) (fun i => i ≤ cores.length) (fun i => cores.length - i) 0 [0, 1] []
    (Sub.mk' rfl ⟨⟨rfl, rfl⟩, ⟨rfl, rfl⟩, .inl rfl, trivial⟩ (by repeat' (first | exact trivial | exact Or.inl (ti_succ (by assumption) (by assumption)) | exact Or.inl rfl | exact rfl | exact Nat.le_refl _ | apply And.intro)) rfl rfl) (Nat.zero_le _) ?_
  rintro i hi -
  conv => whnf
  refine csplit (fun hlt => ?_) (fun hge => ?_)
  · have hlt : i < cores.length := by have := of_decide_eq_true hlt; rw [List.length_map] at this; omega
    obtain ⟨c, hd⟩ : ∃ c, cores[i]? = some c := ⟨cores[i], by simp [hlt]⟩
    have hrow : (cores.map Cor.cells)[i]? = some c.cells := by rw [List.getElem?_map, hd]; rfl
    have hc4 := ((hcs _ (List.mem_of_getElem? hrow)).2 (codeT c.code) (.tail _ (.head _))).lst.2.1
    rw [List.length_map] at hc4
    obtain ⟨cn, cc⟩ := c
    have hcc : cc.length ≤ 9223372036854775807 := hc4
    conv => whnf
    refine ⟨rfl, (show (0 : Int) ≤ i by omega), (show (i : Int) < (List.map Cor.cells cores).length by rw [List.length_map]; omega), fun row hr => ?_⟩
    cases hrow.symm.trans hr
    conv => whnf
    refine ⟨rfl, (show (0 : Int) ≤ i by omega), (show (i : Int) < (List.map Cor.cells cores).length by rw [List.length_map]; omega), fun row hr => ?_⟩
    cases hrow.symm.trans hr
    conv => whnf
    iterate 4 (refine csplit (fun h => absurd h (by simp)) (fun _ => ?_); conv => whnf)
    refine ⟨rfl, (show (0 : Int) ≤ i by omega), (show (i : Int) < (List.map Cor.cells cores).length by rw [List.length_map]; omega), fun row hr => ?_⟩
    cases hrow.symm.trans hr
    conv => whnf
    iterate 7 (refine csplit (fun h => absurd h (by simp)) (fun _ => ?_); conv => whnf)
    refine ⟨rfl, (show (0 : Int) ≤ i by omega), (show (i : Int) < (List.map Cor.cells cores).length by rw [List.length_map]; omega), fun row hr => ?_⟩
    cases hrow.symm.trans hr
    conv => whnf
    iterate 5 (refine csplit (fun h => absurd h (by simp)) (fun _ => ?_); conv => whnf)
    refine ⟨by kernel_rfl, fun _ => ?_⟩
    conv => whnf
    (repeat' (refine csplit (fun h => absurd h (by simp)) (fun _ => ?_); conv => whnf))
    refine LoopL.by (fun k : Nat => ⟨[(2, .ptr 0 0), (3, .ptr 1 0), (6, .tr (ti i)), (7, .tr (ti k))], [(0, obB (.tr (intsT memory)) shared locks buffer (.tr (coresT cores))), (1, obB (.tr (intsT memory)) shared locks buffer (.tr (coresT cores)))], 10⟩) (fun k => k ≤ cc.length) (fun k => cc.length - k) 0 [0, 1] []
      (Sub.mk' rfl ⟨⟨rfl, rfl⟩, ⟨rfl, rfl⟩, .inl rfl, .inl rfl, trivial⟩ (by repeat' (first | exact trivial | exact Or.inl (ti_succ (by assumption) (by assumption)) | exact Or.inl rfl | exact rfl | exact Nat.le_refl _ | apply And.intro)) rfl rfl) (Nat.zero_le _) ?_
    rintro k hk -
    conv => whnf
    refine ⟨rfl, (show (0 : Int) ≤ i by omega), (show (i : Int) < (List.map Cor.cells cores).length by rw [List.length_map]; omega), fun row hr => ?_⟩; cases hrow.symm.trans hr; conv => whnf
    refine csplit (fun hlt2 => ?_) (fun hge2 => ?_)
    · have hlt2 : k < cc.length := by have := of_decide_eq_true hlt2; rw [List.length_map] at this; replace this : (k : Int) < cc.length := this; omega
      obtain ⟨x, hx⟩ : ∃ x, cc[k]? = some x := ⟨cc[k], by simp [hlt2]⟩
      have hrowx : (cc.map Ins.cells)[k]? = some x.cells := by rw [List.getElem?_map, hx]; rfl
      conv => whnf
      refine ⟨rfl, (show (0 : Int) ≤ i by omega), (show (i : Int) < (List.map Cor.cells cores).length by rw [List.length_map]; omega), fun row hr => ?_⟩; cases hrow.symm.trans hr; conv => whnf
      refine ⟨rfl, (show (0 : Int) ≤ k by omega), (show (k : Int) < (List.map Ins.cells cc).length by rw [List.length_map]; omega), fun row hr => ?_⟩; cases hrowx.symm.trans hr; conv => whnf
      refine ⟨rfl, (show (0 : Int) ≤ i by omega), (show (i : Int) < (List.map Cor.cells cores).length by rw [List.length_map]; omega), fun row hr => ?_⟩; cases hrow.symm.trans hr; conv => whnf
      refine ⟨rfl, (show (0 : Int) ≤ k by omega), (show (k : Int) < (List.map Ins.cells cc).length by rw [List.length_map]; omega), fun row hr => ?_⟩; cases hrowx.symm.trans hr; conv => whnf
      refine ⟨by kernel_rfl, fun _ => ?_⟩
      conv => whnf
      refine csplit (fun h => absurd h (by simp)) (fun _ => ?_)
      conv => whnf
      exact ⟨k + 1, [0, 1], [], Sub.mk' rfl ⟨⟨rfl, rfl⟩, ⟨rfl, rfl⟩, .inl rfl, .inl (ti_succ hlt2 hcc), trivial⟩ (by repeat' (first | exact trivial | exact Or.inl (ti_succ (by assumption) (by assumption)) | exact Or.inl rfl | exact rfl | exact Nat.le_refl _ | apply And.intro)) rfl rfl, hlt2, by omega⟩
    · conv => whnf
      refine ⟨fun _ => ?_, fun h => absurd rfl h⟩
      conv => whnf
      exact ⟨i + 1, [0, 1], [], Sub.mk' rfl ⟨⟨rfl, rfl⟩, ⟨rfl, rfl⟩, .inl (ti_succ hlt hcl), trivial⟩ (by repeat' (first | exact trivial | exact Or.inl (ti_succ (by assumption) (by assumption)) | exact Or.inl rfl | exact rfl | exact Nat.le_refl _ | apply And.intro)) rfl rfl, hlt, by omega⟩
  · conv => whnf
    refine ⟨fun _ => ?_, fun h => absurd rfl h⟩
    conv => whnf
    exact ⟨.inl rfl, trivial⟩
end Go.Proofs.YtffhoknkfohfgaaGreatDoor.am

namespace Go.Proofs.YtffhoknkfohfgaaGreatDoor.am
open Go Go.Proofs
set_option maxRecDepth 100000 in
theorem k_eqI (m : List Int) : K 48 [.tr (intsT m), .tr (intsT m)] [] (.ret (.tr (tb true))) [] := by
  refine Ctr.of hT hmix Tryz.func48 rfl (fun _ _ => by kernel_rfl) rfl fun hok => ?_
  obtain ⟨_, hml0, _⟩ := (hok.slot 0 rfl).tr.lst
  rw [List.length_map] at hml0
  have hml : m.length ≤ 9223372036854775807 := hml0
  clear hok hml0
  conv => whnf
  refine csplit (fun h => absurd h (by simp)) (fun _ => ?_)
  conv => whnf
  refine LoopL.by (fun i : Nat => ⟨[(0, .tr (intsT m)), (1, .tr (intsT m)), (12, .tr (ti ((m.map irow).length : Int))), (13, .tr (ti i))], [], 10⟩) (fun i => i ≤ m.length) (fun i => m.length - i) 0 [] []
    (Sub.mk' rfl ⟨.inl rfl, .inl rfl, .inl rfl, .inl rfl, trivial⟩ trivial rfl rfl) (Nat.zero_le _) ?_
  rintro i hi -
  conv => whnf
  refine csplit (fun hlt => ?_) (fun hge => ?_)
  · have hlt : i < m.length := by have := of_decide_eq_true hlt; rw [List.length_map] at this; omega
    obtain ⟨d, hd⟩ : ∃ d, m[i]? = some d := ⟨m[i], by simp [hlt]⟩
    have hrow : (m.map irow)[i]? = some (irow d) := by rw [List.getElem?_map, hd]; rfl
    conv => whnf
    refine ⟨rfl, (show (0 : Int) ≤ i by omega), (show (i : Int) < (List.map irow m).length by rw [List.length_map]; omega), fun row hr => ?_⟩
    cases hrow.symm.trans hr
    conv => whnf
    refine ⟨rfl, (show (0 : Int) ≤ i by omega), (show (i : Int) < (List.map irow m).length by rw [List.length_map]; omega), fun row hr => ?_⟩
    cases hrow.symm.trans hr
    conv => whnf
    refine ⟨by kernel_rfl, fun _ => ?_⟩
    conv => whnf
    refine csplit (fun h => absurd h (by simp)) (fun _ => ?_)
    conv => whnf
    exact ⟨i + 1, [], [], Sub.mk' rfl ⟨.inl rfl, .inl rfl, .inl rfl, .inl (ti_succ hlt hml), trivial⟩ trivial rfl rfl, hlt, by omega⟩
  conv => whnf
  refine ⟨fun _ => ?_, fun h => absurd rfl h⟩
  conv => whnf
  exact ⟨.inl rfl, trivial⟩
set_option maxRecDepth 100000 in
theorem k_eqN (m : List Ins) : K 51 [.tr (codeT m), .tr (codeT m)] [] (.ret (.tr (tb true))) [] := by
  refine Ctr.of hT hmix Tryz.func51 rfl (fun _ _ => by kernel_rfl) rfl fun hok => ?_
  obtain ⟨_, hml0, _⟩ := (hok.slot 0 rfl).tr.lst
  rw [List.length_map] at hml0
  have hml : m.length ≤ 9223372036854775807 := hml0
  clear hok hml0
  conv => whnf
  refine csplit (fun h => absurd h (by simp)) (fun _ => ?_)
  conv => whnf
  refine LoopL.by (fun i : Nat => ⟨[(0, .tr (codeT m)), (1, .tr (codeT m)), (12, .tr (ti ((m.map Ins.cells).length : Int))), (13, .tr (ti i))], [], 10⟩) (fun i => i ≤ m.length) (fun i => m.length - i) 0 [] []
    (Sub.mk' rfl ⟨.inl rfl, .inl rfl, .inl rfl, .inl rfl, trivial⟩ trivial rfl rfl) (Nat.zero_le _) ?_
  rintro i hi -
  conv => whnf
  refine csplit (fun hlt => ?_) (fun hge => ?_)
  · have hlt : i < m.length := by have := of_decide_eq_true hlt; rw [List.length_map] at this; replace this : (i : Int) < m.length := this; omega
    obtain ⟨d, hd⟩ : ∃ d, m[i]? = some d := ⟨m[i], by simp [hlt]⟩
    have hrow : (m.map Ins.cells)[i]? = some d.cells := by rw [List.getElem?_map, hd]; rfl
    conv => whnf
    refine ⟨rfl, (show (0 : Int) ≤ i by omega), (show (i : Int) < (List.map Ins.cells m).length by rw [List.length_map]; omega), fun row hr => ?_⟩
    cases hrow.symm.trans hr
    conv => whnf
    refine ⟨rfl, (show (0 : Int) ≤ i by omega), (show (i : Int) < (List.map Ins.cells m).length by rw [List.length_map]; omega), fun row hr => ?_⟩
    cases hrow.symm.trans hr
    conv => whnf
    refine ⟨by kernel_rfl, fun _ => ?_⟩
    conv => whnf
    refine csplit (fun h => absurd h (by simp)) (fun _ => ?_)
    conv => whnf
    exact ⟨i + 1, [], [], Sub.mk' rfl ⟨.inl rfl, .inl rfl, .inl rfl, .inl (ti_succ hlt hml), trivial⟩ trivial rfl rfl, hlt, by omega⟩
  conv => whnf
  refine ⟨fun _ => ?_, fun h => absurd rfl h⟩
  conv => whnf
  exact ⟨.inl rfl, trivial⟩
theorem k_same1 (n : ByteArray) (c : List Ins) : K 50 [.agg [.tr (ts n), .tr (codeT c)], .agg [.tr (ts n), .tr (codeT c)]] [] (.ret (.tr (tb true))) [] := by
  refine Ctr.of hT hmix Tryz.func50 rfl (fun _ _ => by kernel_rfl) rfl fun hok => ?_
  clear hok
  conv => whnf
  (repeat' (first | (refine csplit (fun h => ?_) (fun h => absurd h (by simp)); conv => whnf) | (refine acall.pure _ (k_eqN c) rfl rfl fun _ => ?_; conv => whnf)))
  exact ⟨.inl rfl, trivial⟩
set_option maxRecDepth 100000 in
theorem k_eqC (m : List Cor) : K 49 [.tr (coresT m), .tr (coresT m), .fn 50 []] [] (.ret (.tr (tb true))) [] := by
  refine Ctr.of hT hmix Tryz.func49 rfl (fun _ _ => by kernel_rfl) rfl fun hok => ?_
  obtain ⟨_, hml0, _⟩ := (hok.slot 0 rfl).tr.lst
  rw [List.length_map] at hml0
  have hml : m.length ≤ 9223372036854775807 := hml0
  clear hok hml0
  conv => whnf
  refine csplit (fun h => absurd h (by simp)) (fun _ => ?_)
  conv => whnf
  refine LoopL.by (fun i : Nat => ⟨[(0, .tr (coresT m)), (1, .tr (coresT m)), (2, .fn 50 []), (15, .tr (coresT m)), (16, .tr (ti ((m.map Cor.cells).length : Int))), (17, .tr (ti i))], [], 10⟩) (fun i => i ≤ m.length) (fun i => m.length - i) 0 [] []
    (Sub.mk' rfl (by repeat' (first | exact trivial | exact Or.inl (ti_succ (by assumption) (by assumption)) | exact Or.inl rfl | exact rfl | exact Nat.le_refl _ | apply And.intro)) trivial rfl rfl) (Nat.zero_le _) ?_
  rintro i hi -
  conv => whnf
  refine csplit (fun hlt => ?_) (fun hge => ?_)
  · have hlt : i < m.length := by have := of_decide_eq_true hlt; rw [List.length_map] at this; replace this : (i : Int) < m.length := this; omega
    obtain ⟨d, hd⟩ : ∃ d, m[i]? = some d := ⟨m[i], by simp [hlt]⟩
    have hrow : (m.map Cor.cells)[i]? = some d.cells := by rw [List.getElem?_map, hd]; rfl
    obtain ⟨cn, cc⟩ := d
    conv => whnf
    refine ⟨rfl, (show (0 : Int) ≤ i by omega), (show (i : Int) < (List.map Cor.cells m).length by rw [List.length_map]; omega), fun row hr => ?_⟩
    cases hrow.symm.trans hr
    conv => whnf
    refine ⟨rfl, (show (0 : Int) ≤ i by omega), (show (i : Int) < (List.map Cor.cells m).length by rw [List.length_map]; omega), fun row hr => ?_⟩
    cases hrow.symm.trans hr
    conv => whnf
    refine acall.pure _ (k_same1 cn cc) rfl rfl fun _ => ?_
    conv => whnf
    exact ⟨i + 1, [], [], Sub.mk' rfl (by repeat' (first | exact trivial | exact Or.inl (ti_succ (by assumption) (by assumption)) | exact Or.inl rfl | exact rfl | exact Nat.le_refl _ | apply And.intro)) trivial rfl rfl, hlt, by omega⟩
  conv => whnf
  refine ⟨fun _ => ?_, fun h => absurd rfl h⟩
  conv => whnf
  exact ⟨.inl rfl, trivial⟩
theorem k_tsame (o : Ob) : K 21 [o.av, o.av] [] (.ret (.tr (tb true))) [] := by
  refine Ctr.of hT hmix Tryz.func21 rfl (fun _ _ => by kernel_rfl) rfl fun hok => ?_
  clear hok
  obtain ⟨memory, shared, locks, buffer, cores⟩ := o
  conv => whnf
  refine acall.pure _ (k_eqI memory) rfl rfl fun _ => ?_
  conv => whnf
  iterate 3 (refine csplit (fun h => ?_) (fun h => absurd h (by simp)); conv => whnf)
  refine acall.gen [] [] _ _ _ _ (k_eqC cores) rfl rfl rfl rfl (by repeat' (first | exact trivial | exact Or.inl (ti_succ (by assumption) (by assumption)) | exact Or.inl rfl | exact rfl | exact Nat.le_refl _ | apply And.intro)) (by repeat' (first | exact trivial | exact Or.inl (ti_succ (by assumption) (by assumption)) | exact Or.inl rfl | exact rfl | exact Nat.le_refl _ | apply And.intro)) rfl rfl fun _ => ?_
  conv => whnf
  exact ⟨.inl rfl, trivial⟩
end Go.Proofs.YtffhoknkfohfgaaGreatDoor.am
