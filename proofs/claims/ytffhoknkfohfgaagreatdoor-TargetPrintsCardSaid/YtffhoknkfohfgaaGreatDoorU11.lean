/- Contract of target.Print. The fixed run that each law begins with: its numbers. Contract of begins. Contract of the reference's Copy. Contract of target.Decode. Plain: what the reader of bytes reads. Plain: Decode by what it reads. Plain: texts by their lines and words. Plain: an instruction's line, there and back. Plain: right instructions as the reference asks it. Contracts of the reference (seat of Rights): the shape of objects, right objects. -/
import Derived.Test.YtffhoknkfohfgaaGreatDoorU10
import Derived.Test.YtffhoknkfohfgaaGreatDoorU6
import Derived.Test.YtffhoknkfohfgaaGreatDoorU7
import Derived.Test.YtffhoknkfohfgaaGreatDoorU9
import Derived.Test.YtffhoknkfohfgaaGreatDoorU4
set_option linter.all false

namespace Go.Proofs.YtffhoknkfohfgaaGreatDoor.am
open Go Go.Proofs
def headP (o : Ob) : ByteArray := (⟨#[111, 98, 106, 101, 99, 116, 32]⟩ : ByteArray) ++ prnB o.shared ++ (⟨#[32]⟩ : ByteArray) ++ prnB o.locks ++ (⟨#[32]⟩ : ByteArray) ++ prnB o.buffer ++ (⟨#[10, 109, 101, 109, 111, 114, 121]⟩ : ByteArray)
def memP (w : Int) : List UInt8 := ((⟨#[32]⟩ : ByteArray) ++ prnB w).data.toList
def insP (i : Ins) : List UInt8 := (textB i ++ (⟨#[10]⟩ : ByteArray)).data.toList
def coreP (c : Cor) : List UInt8 := ((⟨#[99, 111, 114, 101, 32]⟩ : ByteArray) ++ c.name ++ (⟨#[10]⟩ : ByteArray)).data.toList ++ c.code.flatMap insP
def prnL (o : Ob) : List UInt8 := (headP o).data.toList ++ o.memory.flatMap memP ++ [10] ++ o.cores.flatMap coreP
def prnO (o : Ob) : ByteArray := ⟨(prnL o).toArray⟩
theorem len_add (l : List UInt8) (s : ByteArray) : l.length + s.size = (l ++ s.data.toList).length := by simp
theorem tail_len2 (n : Nat) (sep : List UInt8) : ∀ r : List (List UInt8), (∀ x ∈ r, x.length ≤ n) → (Lib.joinTail sep r).length ≤ r.length * (sep.length + n)
  | [], _ => by simp [Lib.joinTail]
  | x :: r, h => by
    have h1 := h x (by simp)
    have h2 := tail_len2 n sep r fun y hy => h y (by simp [hy])
    unfold Lib.joinTail at h2 ⊢
    simp only [List.map_cons, List.flatten_cons, List.length_append, List.length_cons]
    rw [Nat.succ_mul]
    omega
theorem joinL_le2 {n : Nat} {l : List ByteArray} (h : ∀ x ∈ l, x.size ≤ n) : (joinL l).length ≤ l.length * (n + 1) := by
  cases l with
  | nil => simp [joinL, Lib.join]
  | cons x r =>
    unfold joinL
    rw [List.map_cons, Lib.join_cons, List.length_append]
    have h1 := h x (by simp)
    have h2 := tail_len2 n [32] (r.map (·.data.toList)) (fun y hy => by
      simp only [List.mem_map] at hy
      obtain ⟨z, hz, rfl⟩ := hy
      have := h z (by simp [hz])
      have e : z.data.toList.length = z.size := by simp
      omega)
    have e : x.data.toList.length = x.size := by simp
    simp only [List.length_map, List.length_cons, List.length_nil] at h2
    rw [List.length_cons, Nat.succ_mul]
    have : r.length * (0 + 1 + n) = r.length * (n + 1) := by rw [show 0 + 1 + n = n + 1 by omega]
    omega
theorem kword_len (k : Int) (hk : 1 ≤ k ∧ k < 11) : (kword k).size ≤ 22 := by
  have hc : k = 1 ∨ k = 2 ∨ k = 3 ∨ k = 4 ∨ k = 5 ∨ k = 6 ∨ k = 7 ∨ k = 8 ∨ k = 9 ∨ k = 10 := by omega
  rcases hc with h | h | h | h | h | h | h | h | h | h <;> (rw [h]; decide)
theorem reg22 {n : Int} (h : -9223372036854775808 ≤ n ∧ n ≤ 9223372036854775807) : (regB n).size ≤ 22 := by
  have := prn_len h.1 h.2
  show (⟨#[114]⟩ ++ prnB n : ByteArray).size ≤ 22
  rw [size_add]
  have : (⟨#[114]⟩ : ByteArray).size = 1 := rfl
  omega
theorem at22 {n : Int} (h : -9223372036854775808 ≤ n ∧ n ≤ 9223372036854775807) : (atB n).size ≤ 22 := by
  have := prn_len h.1 h.2
  show (⟨#[64]⟩ ++ prnB n : ByteArray).size ≤ 22
  rw [size_add]
  have : (⟨#[64]⟩ : ByteArray).size = 1 := rfl
  omega
theorem field22 {i : Ins} (hi : IOk i) (u : Int) (x : ByteArray) (h : fieldW i u = some x) : x.size ≤ 22 := by
  unfold fieldW at h
  have h5 := opword_len i.op
  have ha := prn_len hi.addr.1 hi.addr.2
  have ht := prn_len hi.to_.1 hi.to_.2
  have hw := prn_len hi.word.1 hi.word.2
  cases e1 : (u == 1) <;> rw [e1] at h
  · cases e2 : (u == 2) <;> rw [e2] at h
    · cases e3 : (u == 4) <;> rw [e3] at h
      · cases e4 : (u == 8) <;> rw [e4] at h
        · cases e5 : (u == 16) <;> rw [e5] at h
          · cases e6 : (u == 32) <;> rw [e6] at h
            · cases e7 : (u == 64) <;> rw [e7] at h
              · cases h
              · cases h; omega
            · cases h; omega
          · cases h; omega
        · cases h; exact reg22 hi.b
      · cases h; exact reg22 hi.a
    · cases h; exact reg22 hi.d
  · cases h; omega
theorem fieldsW_le {i : Ins} (hi : IOk i) : ∀ x ∈ fieldsW i, x.size ≤ 22 := by
  intro x hx
  unfold fieldsW at hx
  cases e : (i.kind == 2 && !two i.op) <;> rw [e] at hx
  · obtain ⟨u, _, hu⟩ := List.mem_filterMap.1 hx
    exact field22 hi u x hu
  · have h5 := opword_len i.op
    simp only [cond_true, List.mem_cons, List.not_mem_nil, or_false] at hx
    rcases hx with rfl | rfl | rfl
    · omega
    · exact reg22 hi.d
    · exact reg22 hi.a
theorem wordsOf_le {i : Ins} (hi : IOk i) (hk : 1 ≤ i.kind ∧ i.kind < 11) : ∀ x ∈ wordsOf i, x.size ≤ 22 := by
  intro x hx
  unfold wordsOf at hx
  simp only [List.mem_append] at hx
  rcases hx with (hx | hx) | hx
  · cases e : seq (kword i.kind) ⟨#[]⟩ <;> rw [e] at hx
    · simp only [cond_false, List.mem_singleton] at hx; subst hx; exact kword_len _ hk
    · cases hx
  · exact fieldsW_le hi x hx
  · cases e : (i.from_ != 0) <;> rw [e] at hx
    · cases hx
    · simp only [cond_true, List.mem_singleton] at hx; subst hx; exact at22 hi.from_
theorem one_le (b : Bool) (x : ByteArray) : (bif b then [] else [x]).length ≤ 1 := by cases b <;> simp
theorem one_le' (b : Bool) (x : ByteArray) : (bif b then [x] else []).length ≤ 1 := by cases b <;> simp
theorem wordsOf_len {i : Ins} (hk : 1 ≤ i.kind ∧ i.kind < 11) : (wordsOf i).length ≤ 5 := by
  have h1 := one_le (seq (kword i.kind) ⟨#[]⟩) (kword i.kind)
  have h3 := one_le' (i.from_ != 0) (atB i.from_)
  unfold wordsOf
  simp only [List.length_append]
  have hc : i.kind = 1 ∨ i.kind = 2 ∨ i.kind = 3 ∨ i.kind = 4 ∨ i.kind = 5 ∨ i.kind = 6 ∨ i.kind = 7 ∨ i.kind = 8 ∨ i.kind = 9 ∨ i.kind = 10 := by omega
  by_cases h2 : i.kind = 2
  · rw [h2]
    have e : seq (kword 2) ⟨#[]⟩ = true := by kernel_rfl
    rw [e]
    have hf : (fieldsW i).length ≤ 4 := by
      unfold fieldsW
      rw [h2]
      cases (((2 : Int) == 2) && !two i.op)
      · exact Nat.le_trans (List.length_filterMap_le ..) (by decide)
      · simp
    show 0 + _ + _ ≤ 5
    omega
  · have hf : (fieldsW i).length ≤ 2 := by
      unfold fieldsW
      rw [show (i.kind == 2) = false from beq_eq_false_iff_ne.2 h2, Bool.false_and, cond_false]
      rcases hc with h | h | h | h | h | h | h | h | h | h
      · rw [h]; exact Nat.le_of_ble_eq_true rfl
      · exact absurd h h2
      all_goals (rw [h]; exact Nat.le_of_ble_eq_true rfl)
    omega
theorem text_len {i : Ins} (hi : IOk i) (hk : 1 ≤ i.kind ∧ i.kind < 11) : (textB i).size ≤ 115 := by
  have h1 := joinL_le2 (wordsOf_le hi hk)
  have h2 := wordsOf_len hk
  have e : (textB i).size = (joinL (wordsOf i)).length := rfl
  have : (wordsOf i).length * (22 + 1) ≤ 5 * 23 := Nat.mul_le_mul_right _ h2
  omega
theorem srcRows_bytes {m : Mem} {h e n : Nat} {l : List UInt8} (hm : m h = some (.vec e 1 1 (brows l))) (hn : n = l.length) : srcRows 1 m (.sl h n) = some (brows l, [(h, .vec e 1 1 (brows l))]) := by
  subst hn
  show (match m h with | some (.vec e n' B rows) => bif Nat.beq 1 n' && Nat.ble l.length rows.length then some (rows.take l.length, [(h, Blk.vec e n' B rows)]) else none | _ => none) = _
  rw [hm]
  simp only [Nat.beq_refl, Bool.true_and]
  rw [show Nat.ble l.length (brows l).length = true from Nat.ble_eq_true_of_le (by simp [brows]), List.take_of_length_le (by simp [brows])]
  rfl
theorem k_printO0 (o : Ob) (h : (checkO o).1 ≠ 0) : K 16 [o.av] [] (.ret (.tup [.tr (ts ⟨#[]⟩), .tr (ti (checkO o).1)])) [] := by
  refine Ctr.new [] hT hmix Tryz.func16 rfl (fun _ _ => by kernel_rfl) rfl fun hok => ?_
  clear hok
  obtain ⟨memory, shared, locks, buffer, cores⟩ := o
  have hc := k_check ⟨memory, shared, locks, buffer, cores⟩
  generalize checkO ⟨memory, shared, locks, buffer, cores⟩ = R at hc h ⊢
  conv => whnf
  refine acall.pure _ (hc) rfl rfl fun _ => ?_
  conv => whnf
  refine csplit (fun h1 => ?_) (fun h1 => ?_)
  · conv => whnf
    exact ⟨[], rfl, rfl, (by repeat' (first | exact trivial | exact Or.inl (ti_succ (by assumption) (by assumption)) | exact Or.inl rfl | exact rfl | exact Nat.le_refl _ | apply And.intro))⟩
  · exact absurd (by simpa using h1) h
set_option maxRecDepth 100000 in
theorem k_printO (o : Ob) (h : (checkO o).1 = 0) : K 16 [o.av] [] (.ret (.tup [.tr (ts (prnO o)), .tr (ti 0)])) [] := by
  have hG := check_good h
  refine Ctr.new [] hT hmix Tryz.func16 rfl (fun _ _ => by kernel_rfl) rfl fun hok => ?_
  have hc := k_check o
  rw [checkO_zero h] at hc
  obtain ⟨memory, shared, locks, buffer, cores⟩ := o
  have hml : memory.length ≤ 9223372036854775807 := by have := hG.mem; simp only at this; omega
  have hcl8 : cores.length ≤ 8 := hG.cores
  have hcl8' : cores.length ≤ 9223372036854775807 := by omega
  have hm4 : memory.length ≤ 4096 := hG.mem
  obtain ⟨_, _, hcs⟩ := ((hok.slot 0 rfl).agg _ (.tail _ (.tail _ (.tail _ (.tail _ (.head _)))))).tr.lst
  obtain ⟨_, _, hms⟩ := ((hok.slot 0 rfl).agg _ (.head _)).tr.lst
  have hs := ((hok.slot 0 rfl).agg (.tr (ti shared)) (.tail _ (.head _))).tr.i64
  have hlo := ((hok.slot 0 rfl).agg (.tr (ti locks)) (.tail _ (.tail _ (.head _)))).tr.i64
  have hbu := ((hok.slot 0 rfl).agg (.tr (ti buffer)) (.tail _ (.tail _ (.tail _ (.head _))))).tr.i64
  clear hok
  generalize hE : prnL ⟨memory, shared, locks, buffer, cores⟩ = E
  have hEo : prnO ⟨memory, shared, locks, buffer, cores⟩ = ⟨E.toArray⟩ := by rw [← hE]; rfl
  rw [hEo]
  clear hEo
  conv => whnf
  refine acall.pure _ (hc) rfl rfl fun _ => ?_
  conv => whnf
  refine acall.pure _ (k_itoa shared) rfl rfl ?_
  conv => whnf
  have z1 : (⟨#[111, 98, 106, 101, 99, 116, 32]⟩ : ByteArray).size = 7 := rfl
  have z2 : (⟨#[32]⟩ : ByteArray).size = 1 := rfl
  have z3 : (⟨#[10, 109, 101, 109, 111, 114, 121]⟩ : ByteArray).size = 7 := rfl
  have z4 : (⟨#[10]⟩ : ByteArray).size = 1 := rfl
  have z5 : (⟨#[99, 111, 114, 101, 32]⟩ : ByteArray).size = 5 := rfl
  have p1 := prn_len hs.1 hs.2
  have p2 := prn_len hlo.1 hlo.2
  have p3 := prn_len hbu.1 hbu.2
  refine ⟨by rw [z1]; omega, ?_⟩
  conv => whnf
  refine ⟨by simp only [size_add, z1, z2]; omega, ?_⟩
  conv => whnf
  refine acall.pure _ (k_itoa locks) rfl rfl ?_
  conv => whnf
  refine ⟨by simp only [size_add, z1, z2]; omega, ?_⟩
  conv => whnf
  refine ⟨by simp only [size_add, z1, z2]; omega, ?_⟩
  conv => whnf
  refine acall.pure _ (k_itoa buffer) rfl rfl ?_
  conv => whnf
  refine ⟨by simp only [size_add, z1, z2]; omega, ?_⟩
  conv => whnf
  refine ⟨by simp only [size_add, z1, z2, z3]; omega, ?_⟩
  conv => whnf
  refine ⟨by simp only [size_add, z1, z2, z3]; omega, ?_⟩
  conv => whnf
  refine ⟨by kernel_rfl, fun _ => ?_⟩
  conv => whnf
  refine LoopL.by (fun x : List UInt8 × Nat => ⟨[(1, .ptr 0 0), (7, .sl 1 x.1.length), (41, .tr (intsT memory)), (42, .tr (ti memory.length)), (43, .tr (ti x.2))], [(0, .cells 29 [.tr (intsT memory), .tr (ti shared), .tr (ti locks), .tr (ti buffer), .tr (coresT cores)]), (1, bytB x.1)], 10⟩)
    (fun x => x.2 ≤ memory.length ∧ E = x.1 ++ ((memory.drop x.2).flatMap memP ++ ([10] ++ cores.flatMap coreP)) ∧ x.1.length ≤ 100 + 22 * x.2) (fun x => memory.length - x.2)
    ((headP ⟨memory, shared, locks, buffer, cores⟩).data.toList, 0) [0, 31] [] (Sub.mk' rfl ⟨⟨rfl, rfl⟩, ⟨rfl, (dat_len (headP ⟨memory, shared, locks, buffer, cores⟩)).symm⟩, .inl rfl, .inl (by simp), .inl rfl, trivial⟩ (by repeat' (first | exact trivial | exact Or.inl (ti_succ (by assumption) (by assumption)) | exact Or.inl rfl | exact rfl | exact Nat.le_refl _ | apply And.intro)) rfl rfl) ⟨Nat.zero_le _, ?_, ?_⟩ ?_
  · rw [← hE]; simp only [prnL, List.append_assoc, List.drop_zero]
  · simp only [dat_len, headP, size_add, z1, z2, z3]; omega
  rintro ⟨l, i⟩ ⟨hi, hf, hlen⟩ -
  simp only at hi hf hlen
  conv => whnf
  refine csplit (fun hlt => ?_) (fun hge => ?_)
  · have hlt : i < memory.length := by simpa using hlt
    conv => whnf
    refine ⟨rfl, by omega, by simpa using hlt, fun row hrow => ?_⟩
    obtain ⟨x, hx, rfl⟩ := map_get hrow
    replace hx : memory[i]? = some x := hx
    have hxr := ((hms _ (List.mem_of_getElem? hrow)).2 (ti x) (.head _)).i64
    have px := prn_len hxr.1 hxr.2
    rw [drop_cons hx] at hf
    conv => whnf
    refine acall.pure _ (k_print x) rfl rfl fun _ => ?_
    conv => whnf
    refine ⟨by simp only [z2]; omega, ?_⟩
    conv => whnf
    refine ⟨rfl, rfl, rfl, by simp [brows], by simp only [size_add, z2]; omega, ?_⟩
    conv => whnf
    refine ⟨(l ++ memP x, i + 1), [0, 18], [], Sub.mk' rfl ⟨⟨rfl, rfl⟩, ⟨rfl, len_add _ _⟩, .inl rfl, .inl rfl, .inl (ti_succ hlt hml), trivial⟩ ⟨⟨rfl, .inl rfl, .inl rfl, .inl rfl, .inl rfl, .inl rfl, trivial⟩, ⟨rfl, rfl, rfl, take_app _ _⟩, trivial⟩ rfl rfl, ⟨by omega, ?_, ?_⟩, by simp only; omega⟩
    · rw [hf]; simp only [List.flatMap_cons, List.append_assoc]
    · simp only [memP, List.length_append, dat_len, size_add, z2]; omega
  have hge : memory.length ≤ i := by simpa using hge
  rw [List.drop_eq_nil_of_le hge] at hf
  conv => whnf
  refine ⟨fun _ => ?_, fun h => absurd rfl h⟩
  conv => whnf
  refine ⟨rfl, rfl, rfl, by simp [brows], by simp; omega, fun q hq => by simp at hq; subst hq; simp, ?_⟩
  conv => whnf
  refine LoopL.by (fun x : List UInt8 × Nat => ⟨[(1, .ptr 0 0), (7, .sl 1 x.1.length), (57, .tr (coresT cores)), (58, .tr (ti cores.length)), (59, .tr (ti x.2))], [(0, .cells 29 [.tr (intsT memory), .tr (ti shared), .tr (ti locks), .tr (ti buffer), .tr (coresT cores)]), (1, bytB x.1)], 10⟩)
    (fun x => x.2 ≤ cores.length ∧ E = x.1 ++ (cores.drop x.2).flatMap coreP ∧ x.1.length ≤ 91000 + 1910000 * x.2) (fun x => cores.length - x.2)
    (l ++ [10], 0) [0, 13] [] (Sub.mk' rfl ⟨⟨rfl, rfl⟩, ⟨rfl, by simp⟩, .inl rfl, .inl (by simp), .inl rfl, trivial⟩ ⟨⟨rfl, .inl rfl, .inl rfl, .inl rfl, .inl rfl, .inl rfl, trivial⟩, ⟨rfl, rfl, rfl, app_take l _ _ rfl⟩, trivial⟩ rfl rfl) ⟨Nat.zero_le _, ?_, ?_⟩ ?_
  · rw [hf]; simp
  · simp only [List.length_append, List.length_cons, List.length_nil]; omega
  clear hf hlen
  rintro ⟨l, k⟩ ⟨hk, hf, hlen⟩ -
  simp only at hk hf hlen
  conv => whnf
  refine csplit (fun hlt => ?_) (fun hge => ?_)
  · have hlt : k < cores.length := by simpa using hlt
    conv => whnf
    refine ⟨rfl, by omega, by simpa using hlt, fun row hrow => ?_⟩
    obtain ⟨c, hd, rfl⟩ := map_get hrow
    replace hd : cores[k]? = some c := hd
    rw [drop_cons hd] at hf
    obtain ⟨_, hcl0, hci⟩ := ((hcs _ (List.mem_of_getElem? hrow)).2 (codeT c.code) (.tail _ (.head _))).lst
    have hmem := List.mem_of_getElem? hd
    have hnl := name_le (hG.name c hmem)
    have hcd := hG.code c hmem
    have hrt := hG.right c hmem
    obtain ⟨cn, cc⟩ := c
    simp only at hnl hcd hrt
    rw [List.length_map] at hcl0
    have hcl : cc.length ≤ 9223372036854775807 := hcl0
    clear hcl0
    conv => whnf
    refine ⟨by simp only [z5]; omega, ?_⟩
    conv => whnf
    refine ⟨by simp only [size_add, z5, z4]; omega, ?_⟩
    conv => whnf
    refine ⟨rfl, rfl, rfl, by simp [brows], by simp only [size_add, z5, z4]; omega, ?_⟩
    conv => whnf
    refine LoopL.by (fun x : List UInt8 × Nat => ⟨[(1, .ptr 0 0), (7, .sl 1 x.1.length), (57, .tr (coresT cores)), (58, .tr (ti cores.length)), (59, .tr (ti k)), (70, .tr (codeT cc)), (71, .tr (ti cc.length)), (72, .tr (ti x.2))],
        [(0, .cells 29 [.tr (intsT memory), .tr (ti shared), .tr (ti locks), .tr (ti buffer), .tr (coresT cores)]), (1, bytB x.1)], 10⟩)
      (fun x => x.2 ≤ cc.length ∧ E = x.1 ++ ((cc.drop x.2).flatMap insP ++ (cores.drop (k + 1)).flatMap coreP) ∧ x.1.length ≤ 91038 + 1910000 * k + 116 * x.2) (fun x => cc.length - x.2)
      (l ++ ((⟨#[99, 111, 114, 101, 32]⟩ : ByteArray) ++ cn ++ (⟨#[10]⟩ : ByteArray)).data.toList, 0) [0, 20] [] (Sub.mk' rfl ⟨⟨rfl, rfl⟩, ⟨rfl, len_add _ _⟩, .inl rfl, .inl rfl, .inl rfl, .inl rfl, .inl (by simp), .inl rfl, trivial⟩ ⟨⟨rfl, .inl rfl, .inl rfl, .inl rfl, .inl rfl, .inl rfl, trivial⟩, ⟨rfl, rfl, rfl, take_app _ _⟩, trivial⟩ rfl rfl) ⟨Nat.zero_le _, ?_, ?_⟩ ?_
    · rw [hf]; simp only [List.flatMap_cons, coreP, List.append_assoc, List.drop_zero]
    · simp only [List.length_append, dat_len, size_add, z4, z5]; omega
    clear hf hlen
    rintro ⟨l, j⟩ ⟨hj, hf, hlen⟩ -
    simp only at hj hf hlen
    conv => whnf
    refine csplit (fun hlt2 => ?_) (fun hge2 => ?_)
    · have hlt2 : j < cc.length := by simpa using hlt2
      conv => whnf
      refine ⟨rfl, by omega, by simpa using hlt2, fun row hrow => ?_⟩
      obtain ⟨i, hx, rfl⟩ := map_get hrow
      replace hx : cc[j]? = some i := hx
      have hmi := List.mem_of_getElem? hx
      have hik := right_kind (hrt i hmi)
      have hi := iok_of (i := i) (hci _ (List.mem_of_getElem? hrow)).2
      have htl := text_len hi hik
      rw [drop_cons hx] at hf
      have hT := k_text i
      obtain ⟨i1, i2, i3, i4, i5, i6, i7, i8, i9⟩ := i
      generalize hX : textB ⟨i1, i2, i3, i4, i5, i6, i7, i8, i9⟩ = X at hT htl
      have hXP : insP ⟨i1, i2, i3, i4, i5, i6, i7, i8, i9⟩ = (X ++ (⟨#[10]⟩ : ByteArray)).data.toList := by unfold insP; rw [hX]
      clear hX
      conv => whnf
      refine acall.pure _ (hT) rfl rfl fun _ => ?_
      conv => whnf
      refine ⟨by simp only [z4]; omega, ?_⟩
      conv => whnf
      refine ⟨rfl, rfl, rfl, by simp [brows], by simp only [size_add, z4]; omega, ?_⟩
      conv => whnf
      have hl2 : (l ++ (X ++ (⟨#[10]⟩ : ByteArray)).data.toList).length ≤ 91038 + 1910000 * k + 116 * (j + 1) := by simp only [List.length_append, dat_len, size_add, z4]; omega
      refine csplit (fun hbig => ?_) (fun hsm => ?_)
      · exfalso
        have := of_decide_eq_true hbig
        simp only [size_add, z4] at this
        omega
      conv => whnf
      refine ⟨(l ++ (X ++ (⟨#[10]⟩ : ByteArray)).data.toList, j + 1), [0, 19], [], Sub.mk' rfl ⟨⟨rfl, rfl⟩, ⟨rfl, len_add _ _⟩, .inl rfl, .inl rfl, .inl rfl, .inl rfl, .inl rfl, .inl (ti_succ hlt2 hcl), trivial⟩ ⟨⟨rfl, .inl rfl, .inl rfl, .inl rfl, .inl rfl, .inl rfl, trivial⟩, ⟨rfl, rfl, rfl, take_app _ _⟩, trivial⟩ rfl rfl, ⟨by omega, ?_, hl2⟩, by simp only; omega⟩
      rw [hf]; simp only [List.flatMap_cons, hXP, List.append_assoc]
    have hge2 : cc.length ≤ j := by simpa using hge2
    rw [List.drop_eq_nil_of_le hge2] at hf
    conv => whnf
    refine ⟨fun _ => ?_, fun h => absurd rfl h⟩
    conv => whnf
    refine ⟨(l, k + 1), [0, 1], [], Sub.mk' rfl ⟨⟨rfl, rfl⟩, ⟨rfl, rfl⟩, .inl rfl, .inl rfl, .inl (ti_succ hlt hcl8'), trivial⟩ (by repeat' (first | exact trivial | exact Or.inl (ti_succ (by assumption) (by assumption)) | exact Or.inl rfl | exact rfl | exact Nat.le_refl _ | apply And.intro)) rfl rfl, ⟨by omega, ?_, ?_⟩, by simp only; omega⟩
    · rw [hf]; simp
    · simp only; omega
  have hge : cores.length ≤ k := by simpa using hge
  rw [List.drop_eq_nil_of_le hge] at hf
  obtain rfl : E = l := by rw [hf]; simp
  conv => whnf
  refine ⟨fun _ => ?_, fun h => absurd rfl h⟩
  conv => whnf
  rw [srcRows_bytes (h := 1) (l := E) (e := 5) ?hm rfl]
  case hm => rfl
  conv => whnf
  refine ⟨E, rfl, by omega, ?_⟩
  conv => whnf
  exact ⟨[], rfl, rfl, (by repeat' (first | exact trivial | exact Or.inl (ti_succ (by assumption) (by assumption)) | exact Or.inl rfl | exact rfl | exact Nat.le_refl _ | apply And.intro))⟩
end Go.Proofs.YtffhoknkfohfgaaGreatDoor.am

namespace Go.Proofs.YtffhoknkfohfgaaGreatDoor.am
open Go Go.Proofs
def haltI : Ins := ⟨10, 0, 0, 0, 0, 0, 0, 0, 0⟩
def oB : Ob := ⟨[], 0, 0, 1, [⟨⟨#[65]⟩, [haltI]⟩]⟩
theorem oB_check : checkO oB = (0, 0, 0) := by kernel_rfl
theorem prn_small (n : Nat) (h : n < 10) : prnB n = ⟨#[UInt8.ofNat (48 + n)]⟩ := by
  unfold prnB ws.prn
  rw [if_neg (by omega), Int.toNat_natCast, ws.dig_small h]
  rfl
def litP : ByteArray := ⟨#[111, 98, 106, 101, 99, 116, 32, 48, 32, 48, 32, 49, 10, 109, 101, 109, 111, 114, 121, 10, 99, 111, 114, 101, 32, 65, 10, 104, 97, 108, 116, 10]⟩
def litE : List UInt8 := [115, 116, 105, 108, 0, 0, 1, 0, 1, 1, 65, 1, 10, 0]
theorem oB_enc : encB oB = litE := by kernel_rfl
theorem oB_print : prnO oB = litP := by
  unfold prnO prnL headP
  rw [show prnB oB.shared = ⟨#[48]⟩ from prn_small 0 (by decide), show prnB oB.locks = ⟨#[48]⟩ from prn_small 0 (by decide), show prnB oB.buffer = ⟨#[49]⟩ from prn_small 1 (by decide)]
  kernel_rfl
def litT : ByteArray := ⟨#[111, 98, 106, 101, 99, 116, 32, 48, 32, 48, 32, 49, 10, 109, 101, 109, 111, 114, 121, 32, 55, 10, 99, 111, 114, 101, 32, 65, 10, 97, 100, 100, 32, 114, 50, 32, 114, 49, 32, 114, 48, 32, 64, 51, 10, 104, 97, 108, 116, 10]⟩
def oT : Ob := ⟨[7], 0, 0, 1, [⟨⟨#[65]⟩, [⟨2, 1, 2, 1, 0, 0, 0, 0, 3⟩, haltI]⟩]⟩
theorem oT_parse : parseS litT = (oT, 0, 0) := by kernel_rfl
/-! two lists that are one -/
def brow (b : UInt8) : List Tr := [.v (.int .u8 b.toNat)]
theorem brows_map (l : List UInt8) : brows l = l.map brow := rfl
theorem k_bytes (l : List UInt8) : K 20 [.tr (.lst 1 1 (l.map brow)), .tr (.lst 1 1 (l.map brow))] [] (.ret (.tr (tb true))) [] := by
  refine Ctr.of hT hmix Tryz.func20 rfl (fun _ _ => by kernel_rfl) rfl fun hok => ?_
  obtain ⟨_, hl, _⟩ := (hok.slot 0 rfl).tr.lst
  clear hok
  rw [List.length_map] at hl
  have hlm : ((l.map brow).length : Int) = l.length := by rw [List.length_map]
  conv => whnf
  refine csplit (fun h => absurd h (by simp)) (fun _ => ?_)
  conv => whnf
  refine LoopL.by (fun i : Nat => ⟨[(0, .tr (.lst 1 1 (l.map brow))), (1, .tr (.lst 1 1 (l.map brow))), (5, .tr (ti i))], [], 10⟩) (fun i => i ≤ l.length) (fun i => l.length - i) 0 [] [] (Sub.mk' rfl ⟨.inl rfl, .inl rfl, .inl rfl, trivial⟩ trivial rfl rfl) (Nat.zero_le _) ?_
  rintro i hi -
  conv => whnf
  refine csplit (fun hlt => ?_) (fun hge => ?_)
  · have hlt : i < l.length := by have := of_decide_eq_true hlt; rw [hlm] at this; omega
    obtain ⟨d, hd⟩ : ∃ d, l[i]? = some d := ⟨l[i], by simp [hlt]⟩
    have hrow : (l.map brow)[i]? = some (brow d) := by rw [List.getElem?_map, hd]; rfl
    conv => whnf
    refine ⟨rfl, (show (0 : Int) ≤ i by omega), (show (i : Int) < (l.map brow).length by rw [hlm]; omega), fun row hr => ?_⟩
    cases hrow.symm.trans hr
    conv => whnf
    refine ⟨rfl, (show (0 : Int) ≤ i by omega), (show (i : Int) < (l.map brow).length by rw [hlm]; omega), fun row hr => ?_⟩
    cases hrow.symm.trans hr
    conv => whnf
    refine ⟨by kernel_rfl, fun _ => ?_⟩
    conv => whnf
    refine csplit (fun h => absurd h (by simp)) (fun _ => ?_)
    conv => whnf
    exact ⟨i + 1, [], [], Sub.mk' rfl ⟨.inl rfl, .inl rfl, .inl (ti_succ hlt hl), trivial⟩ trivial rfl rfl, hlt, by omega⟩
  · conv => whnf
    refine ⟨fun _ => ?_, fun h => absurd rfl h⟩
    conv => whnf
    exact ⟨.inl rfl, trivial⟩
end Go.Proofs.YtffhoknkfohfgaaGreatDoor.am

namespace Go.Proofs.YtffhoknkfohfgaaGreatDoor.am
open Go Go.Proofs
theorem halt_leaf : leafR [haltI.cells] := ins_leaf haltI
set_option maxRecDepth 100000 in
theorem k_begins : K 13 [] [] (.ret (.tr (tb true))) [] := by
  refine Ctr.cut [2] hT hmix Tryz.func13 rfl (fun _ _ => by kernel_rfl) rfl fun hok => ?_
  clear hok
  have h0 : (checkO oB).1 = 0 := by rw [oB_check]
  have hp := k_printO oB h0
  have he := k_encode oB h0
  have hq := k_parseT litT oT_parse.symm rfl
  rw [oB_enc] at he
  obtain ⟨S, hS⟩ : ∃ S, S = prnO oB := ⟨_, rfl⟩
  rw [← hS] at hp
  rw [oB_print] at hS
  clear h0
  conv => whnf
  refine CutL.by (fun _ : Unit => ⟨[(1, .ptr 0 0)], [(0, obB (.tr (intsT [])) 0 0 1 (.tr (coresT oB.cores)))], 10⟩) (fun _ => True) ?_ ?_
  · conv => whnf
    refine ⟨(), [6], [], Sub.pk [4] ?_, trivial⟩
    conv => whnf
    refine ⟨rfl, rfl, by decide, halt_leaf, ?_⟩
    exact Sub0.mk' rfl ⟨⟨rfl, rfl⟩, trivial⟩ ⟨⟨rfl, .inr ⟨rfl, _, _, rfl⟩, .inl rfl, .inl rfl, .inl rfl, ⟨rfl, by decide, rfl⟩, trivial⟩, trivial⟩ rfl rfl
  · rintro - - -
    conv => whnf
    refine acall.pure _ (hp) rfl rfl fun _ => ?_
    conv => whnf
    refine acall.new [] [] _ _ _ _ he rfl rfl rfl rfl (by repeat' (first | exact trivial | exact Or.inl (ti_succ (by assumption) (by assumption)) | exact Or.inl rfl | exact rfl | exact Nat.le_refl _ | apply And.intro)) (by repeat' (first | exact trivial | exact Or.inl (ti_succ (by assumption) (by assumption)) | exact Or.inl rfl | exact rfl | exact Nat.le_refl _ | apply And.intro)) rfl rfl fun _ => ?_
    conv => whnf
    refine acall.pure _ (hq) rfl rfl fun _ => ?_
    conv => whnf
    refine csplit (fun h => ?_) (fun h => ?_)
    · conv => whnf
      refine acall.gen [] [18, 45] _ _ _ _ (k_bytes litE) rfl rfl rfl rfl ⟨⟨rfl, by decide, rfl⟩, ⟨rfl, by decide, rfl⟩, trivial⟩ trivial rfl rfl fun _ => ?_
      conv => whnf
      refine ⟨rfl, by decide, by decide, fun row hr => ?_⟩
      cases hr
      conv => whnf
      refine ⟨rfl, by decide, by decide, fun row hr => ?_⟩
      cases hr
      conv => whnf
      refine acall.pure _ (k_drains 7) rfl rfl fun _ => ?_
      conv => whnf
      exact ⟨.inl rfl, trivial⟩
    · rw [hS] at h
      exact absurd (show (litP.toList == litP.toList) = false from h) (by simp)
end Go.Proofs.YtffhoknkfohfgaaGreatDoor.am

namespace Go.Proofs.YtffhoknkfohfgaaGreatDoor.am
open Go Go.Proofs
theorem setC_snoc {a : List (List Tr)} {r : List Tr} {i j : Nat} {t : Tr} (h : a.length = i) : setC (a ++ [r]) (i + 0) j t = a ++ [r.set j t] := by
  subst h
  unfold setC
  rw [Nat.add_zero, List.getElem?_append_right (Nat.le_refl _), Nat.sub_self, List.set_append_right _ _ (Nat.le_refl _), Nat.sub_self]
  rfl
theorem code_leaf (cc : List Ins) : leafR (cc.map Ins.cells) := by
  intro row hr t ht
  obtain ⟨i, _, rfl⟩ := List.mem_map.1 hr
  exact ins_leaf i _ (.head _) t ht
set_option maxRecDepth 100000 in
/-- a copy is the same tree -/
theorem k_copy (o : Ob) : K 9 [o.av] [] (.ret o.av) [] := by
  refine Ctr.of hT hmix Tryz.func9 rfl (fun _ _ => by kernel_rfl) rfl fun hok => ?_
  obtain ⟨hB1, hcl0, hcs⟩ := ((hok.slot 0 rfl).agg _ (.tail _ (.tail _ (.tail _ (.tail _ (.head _)))))).tr.lst
  obtain ⟨hB2, hml0, _⟩ := ((hok.slot 0 rfl).agg _ (.head _)).tr.lst
  rw [List.length_map] at hcl0 hB1 hml0 hB2
  clear hok
  obtain ⟨memory, shared, locks, buffer, cores⟩ := o
  have hcl : cores.length ≤ 9223372036854775807 := hcl0
  have hB1 : cores.length * 40 ≤ 140737488351232 := hB1
  have hB2 : memory.length * 8 ≤ 140737488351232 := hB2
  clear hcl0 hml0
  conv => whnf
  refine ⟨rfl, rfl, rfl, Nat.le_refl _, (show (0 + (memory.map irow).length) * 8 ≤ _ by rw [List.length_map]; omega), fun q hq => by simp at hq, ?_⟩
  conv => whnf
  refine LoopL.by (fun k : Nat => ⟨[(1, .ptr 0 0), (2, .ptr 1 0), (3, .sl 3 k), (4, .tr (ti k))],
      [(0, .cells 29 [.sl 2 memory.length, .tr (ti shared), .tr (ti locks), .tr (ti buffer), .tr (coresT cores)]), (1, obB nilT 0 0 0 nilT), (2, memBk memory), (3, .own 2 40 ((cores.map Cor.cells).take k) [])], 10⟩)
    (fun k => k ≤ cores.length) (fun k => cores.length - k) 0 [0, 1, 5] [3]
    (Sub.mk' rfl ⟨⟨rfl, rfl⟩, ⟨rfl, rfl⟩, ⟨rfl, rfl, rfl, rfl⟩, .inl rfl, trivial⟩ ⟨⟨rfl, ⟨rfl, by simp⟩, .inl rfl, .inl rfl, .inl rfl, .inl rfl, trivial⟩, ⟨rfl, .inl rfl, .inl rfl, .inl rfl, .inl rfl, .inl rfl, trivial⟩, ⟨rfl, rfl, rfl, rfl⟩, ⟨rfl, rfl, rfl, by omega⟩, trivial⟩ rfl rfl) (Nat.zero_le _) ?_
  rintro k hk -
  conv => whnf
  refine csplit (fun hlt => ?_) (fun hge => ?_)
  · have hlt : k < cores.length := by have := of_decide_eq_true hlt; rw [List.length_map] at this; omega
    obtain ⟨c, hd⟩ : ∃ c, cores[k]? = some c := ⟨cores[k], by simp [hlt]⟩
    have hrow : (cores.map Cor.cells)[k]? = some c.cells := by rw [List.getElem?_map, hd]; rfl
    have hB4 := ((hcs _ (List.mem_of_getElem? hrow)).2 (codeT c.code) (.tail _ (.head _))).lst.1
    rw [List.length_map] at hB4
    obtain ⟨cn, cc⟩ := c
    have hB4 : cc.length * 64 ≤ 140737488351232 := hB4
    conv => whnf
    refine ⟨rfl, (show (0 : Int) ≤ k by omega), (show (k : Int) < (List.map Cor.cells cores).length by rw [List.length_map]; omega), fun row hr => ?_⟩
    cases hrow.symm.trans hr
    conv => whnf
    refine ⟨rfl, (show (0 : Int) ≤ k by omega), (show (k : Int) < (List.map Cor.cells cores).length by rw [List.length_map]; omega), fun row hr => ?_⟩
    cases hrow.symm.trans hr
    conv => whnf
    refine ⟨rfl, rfl, rfl, Nat.le_refl _, (show (0 + (cc.map Ins.cells).length) * 64 ≤ _ by rw [List.length_map]; omega), fun q hq => by simp at hq, ?_⟩
    conv => whnf
    refine ⟨by rw [List.length_take, List.length_map]; omega, rfl, Nat.le_refl _, (show (k + 1) * 40 ≤ 140737488351232 by omega), trivial, trivial, trivial, ?_⟩
    conv => whnf
    refine ⟨by kernel_rfl, fun _ => ?_⟩
    conv => whnf
    have hti : (List.take k (cores.map Cor.cells)).length = k := by rw [List.length_take, List.length_map]; omega
    refine ⟨k + 1, [0, 1, 2, 32], [], Sub.pk [32] ?_, hlt, by omega⟩
    conv => whnf
    refine ⟨rfl, rfl, (show 0 + (cc.map Ins.cells).length ≤ (List.take 0 [] ++ cc.map Ins.cells).length by simp), code_leaf cc, ?_⟩
    refine Sub0.mk' rfl ⟨⟨rfl, rfl⟩, ⟨rfl, rfl⟩, ⟨rfl, rfl⟩, .inl (ti_succ hlt hcl), trivial⟩ ⟨⟨rfl, ⟨rfl, rfl⟩, .inl rfl, .inl rfl, .inl rfl, .inl rfl, trivial⟩, ⟨rfl, .inl rfl, .inl rfl, .inl rfl, .inl rfl, .inl rfl, trivial⟩, ⟨rfl, rfl, rfl, rfl⟩, ⟨rfl, rfl, rfl, rfl, .inl ?_⟩, trivial⟩ rfl rfl
    rw [take_snoc (x := Cor.cells ⟨cn, cc⟩) hrow]
    refine (setC_snoc hti).trans ?_
    show _ ++ [[ts cn, Tr.lst 9 64 (List.take (0 + (cc.map Ins.cells).length) (cc.map Ins.cells))]] = _ ++ [[ts cn, codeT cc]]
    rw [List.take_of_length_le (l := cc.map Ins.cells) (by simp)]
  · have hge : cores.length ≤ k := by have := of_decide_eq_false hge; rw [List.length_map] at this; omega
    conv => whnf
    refine ⟨fun _ => ?_, fun h => absurd rfl h⟩
    conv => whnf
    obtain rfl : k = cores.length := by omega
    exact ⟨⟨⟨rfl, by simp, by rw [List.take_of_length_le (by simp)]⟩, .inl rfl, .inl rfl, .inl rfl, ⟨rfl, by simp, by rw [List.take_of_length_le (by simp), List.take_of_length_le (by simp)]⟩, trivial⟩, trivial⟩
end Go.Proofs.YtffhoknkfohfgaaGreatDoor.am

namespace Go.Proofs.YtffhoknkfohfgaaGreatDoor.am
open Go Go.Proofs
def memR : Nat → Rd → List Int → List Int × Rd
  | 0, r, acc => (acc, r)
  | n + 1, r, acc => bif r.bad then (acc, r) else memR n (wordR r).2 (acc ++ [(wordR r).1])
def codeR : Nat → Rd → List Ins → List Ins × Rd
  | 0, r, acc => (acc, r)
  | n + 1, r, acc => bif r.bad then (acc, r) else codeR n (insR r).2 (acc ++ [(insR r).1])
def coreR (r : Rd) : Cor × Rd :=
  (⟨(nameR r).1, (codeR (smallR 16384 (nameR r).2).1.toNat (smallR 16384 (nameR r).2).2 []).1⟩, (codeR (smallR 16384 (nameR r).2).1.toNat (smallR 16384 (nameR r).2).2 []).2)
def coresR : Nat → Rd → List Cor → List Cor × Rd
  | 0, r, acc => (acc, r)
  | n + 1, r, acc => bif r.bad then (acc, r) else coresR n (coreR r).2 (acc ++ [(coreR r).1])
def decH (r : Rd) : Ob × Rd :=
  let a := smallR 64 r
  let b := smallR 16 a.2
  let c := smallR 16 b.2
  let n := smallR 4096 c.2
  let m := memR n.1.toNat n.2 []
  let k := smallR 8 m.2
  let cs := coresR k.1.toNat k.2 []
  (⟨m.1, a.1, b.1, c.1, cs.1⟩, cs.2)
def decF (p : Ob × Rd) : Ob × Int := bif (checkO p.1).1 != 0 || p.2.bad || decide ((p.2.l.length : Int) > 0) then (emptyO, 162) else (p.1, 0)
def decS (l : List UInt8) : Ob × Int := bif decide ((l.length : Int) < 4) || !seq ⟨(l.take 4).toArray⟩ ⟨#[115, 116, 105, 108]⟩ then (emptyO, 162) else decF (decH ⟨l.drop 4, false⟩)
theorem memR_len : ∀ (n : Nat) (r : Rd) (acc : List Int), (memR n r acc).1.length ≤ acc.length + n
  | 0, _, _ => Nat.le_refl _
  | n + 1, r, acc => by
    unfold memR
    cases r.bad
    · have := memR_len n (wordR r).2 (acc ++ [(wordR r).1]); simp only [List.length_append, List.length_cons, List.length_nil] at this; simp only [cond_false]; omega
    · simp only [cond_true]; omega
abbrev codeBk (l : List Ins) : Blk := .vec 25 9 64 (l.map Ins.cells)
set_option maxRecDepth 100000 in
set_option maxHeartbeats 4000000 in
theorem k_decode (b : List UInt8) : K 22 [.tr (bytT b)] [] (.ret (.tup [(decS b).1.av, .tr (ti (decS b).2)])) [] := by
  refine Ctr.new [9,17,18] hT hmix Tryz.func22 rfl (fun _ _ => by kernel_rfl) rfl fun hok => ?_
  clear hok
  obtain ⟨R, hR⟩ : ∃ R, R = decS b := ⟨_, rfl⟩
  rw [← hR]
  unfold decS at hR
  have hbl := brows_len b
  conv => whnf
  have hgo : (decide ((b.length : Int) < 4) || !seq ⟨(b.take 4).toArray⟩ ⟨#[115, 116, 105, 108]⟩) = false → R = decF (decH ⟨b.drop 4, false⟩) := fun h => by rw [hR, h]; rfl
  have hno : (decide ((b.length : Int) < 4) || !seq ⟨(b.take 4).toArray⟩ ⟨#[115, 116, 105, 108]⟩) = true → R = (emptyO, 162) := fun h => by rw [hR, h]; rfl
  clear hR
  refine csplit (fun h1 => ?_) (fun h1 => ?_)
  · replace h1 : decide (((brows b).length : Int) < 4) = true := h1
    rw [hbl] at h1
    rw [hno (by rw [h1]; rfl)]
    conv => whnf
    exact ⟨[], rfl, rfl, (by repeat' (first | exact trivial | exact Or.inl rfl | exact Or.inr ⟨rfl, _, _, rfl⟩ | exact rfl | exact Nat.le_refl _ | apply And.intro))⟩
  replace h1 : decide (((brows b).length : Int) < 4) = false := h1
  rw [hbl] at h1
  have hb4 : 4 ≤ b.length := by have := of_decide_eq_false h1; omega
  conv => whnf
  refine ⟨rfl, by decide, (show (0 : Int) ≤ 4 by decide), (show (4 : Int) ≤ ((brows b).length : Int) by rw [hbl]; omega), ?_⟩
  conv => whnf
  refine ⟨b.take 4, by rw [brows_take]; rfl, by rw [List.length_take]; omega, ?_⟩
  conv => whnf
  refine csplit (fun h2 => ?_) (fun h2 => ?_)
  · replace h2 : (!seq ⟨(b.take 4).toArray⟩ ⟨#[115, 116, 105, 108]⟩) = true := h2
    rw [hno (by rw [h2, Bool.or_true])]
    conv => whnf
    exact ⟨[], rfl, rfl, (by repeat' (first | exact trivial | exact Or.inl rfl | exact Or.inr ⟨rfl, _, _, rfl⟩ | exact rfl | exact Nat.le_refl _ | apply And.intro))⟩
  replace h2 : (!seq ⟨(b.take 4).toArray⟩ ⟨#[115, 116, 105, 108]⟩) = false := h2
  replace hgo := hgo (by rw [h1, h2]; rfl)
  clear hno h1 h2
  unfold decH at hgo
  conv => whnf
  refine ⟨rfl, by decide, (show (4 : Int) ≤ ((brows b).length : Int) by rw [hbl]; omega), Int.le_refl _, ?_⟩
  have hd : List.drop (4 : Int).toNat (List.take ((brows b).length : Int).toNat (brows b)) = brows (b.drop 4) := by
    rw [Int.toNat_natCast, List.take_of_length_le (Nat.le_refl _), brows_drop]; rfl
  generalize b.drop 4 = l0 at hgo hd
  have ha := k_smallR ⟨l0, false⟩ 64 (by decide)
  generalize smallR 64 ⟨l0, false⟩ = Sa at ha hgo
  obtain ⟨na, la, ba⟩ := Sa
  have hb := k_smallR ⟨la, ba⟩ 16 (by decide)
  simp only at hgo
  generalize smallR 16 ⟨la, ba⟩ = Sb at hb hgo
  obtain ⟨nb, lb, bb⟩ := Sb
  have hc := k_smallR ⟨lb, bb⟩ 16 (by decide)
  simp only at hgo
  generalize smallR 16 ⟨lb, bb⟩ = Sc at hc hgo
  obtain ⟨nc, lc, bc⟩ := Sc
  have hn := k_smallR ⟨lc, bc⟩ 4096 (by decide)
  have hng := smallR_rng (most := 4096) (by decide) ⟨lc, bc⟩
  simp only at hgo
  generalize smallR 4096 ⟨lc, bc⟩ = Sn at hn hng hgo
  obtain ⟨nn, ln, bn⟩ := Sn
  simp only at hgo ha hb hc hn hng
  conv => whnf
  refine acall.gen [14] [] _ _ _ _ ha rfl rfl rfl rfl (by repeat' (first | exact trivial | exact Or.inl (ti_succ (by assumption) (by assumption)) | exact Or.inl rfl | exact rfl | exact Nat.le_refl _ | apply And.intro)) ⟨⟨rfl, .inl (congrArg (Tr.lst 1 1) hd), .inl rfl, trivial⟩, trivial⟩ rfl rfl fun _ => ?_
  conv => whnf
  refine acall.gen [14] [] _ _ _ _ (hb) rfl rfl rfl rfl (by repeat' (first | exact trivial | exact Or.inl (ti_succ (by assumption) (by assumption)) | exact Or.inl rfl | exact rfl | exact Nat.le_refl _ | apply And.intro)) (by repeat' (first | exact trivial | exact Or.inl (ti_succ (by assumption) (by assumption)) | exact Or.inl rfl | exact rfl | exact Nat.le_refl _ | apply And.intro)) rfl rfl fun _ => ?_
  conv => whnf
  refine acall.gen [14] [] _ _ _ _ (hc) rfl rfl rfl rfl (by repeat' (first | exact trivial | exact Or.inl (ti_succ (by assumption) (by assumption)) | exact Or.inl rfl | exact rfl | exact Nat.le_refl _ | apply And.intro)) (by repeat' (first | exact trivial | exact Or.inl (ti_succ (by assumption) (by assumption)) | exact Or.inl rfl | exact rfl | exact Nat.le_refl _ | apply And.intro)) rfl rfl fun _ => ?_
  conv => whnf
  have hM : ∀ M, memR nn.toNat ⟨ln, bn⟩ [] = M → R = decF ((⟨M.1, na, nb, nc, (coresR (smallR 8 M.2).1.toNat (smallR 8 M.2).2 []).1⟩, (coresR (smallR 8 M.2).1.toNat (smallR 8 M.2).2 []).2)) := fun M h => by rw [hgo, h]
  clear hgo
  have hN : ((nn.toNat : Nat) : Int) = nn := Int.toNat_of_nonneg hng.1
  refine CutL.by (fun x : Rd × List Int => ⟨[(2, .ptr 0 0), (4, .ptr 1 0), (5, .ptr 2 0)], [(0, obB nilT 0 0 0 nilT), (1, x.1.blk), (2, obB (.sl 3 x.2.length) na nb nc nilT), (3, memBk x.2)], 10⟩)
    (fun x => R = decF ((⟨x.2, na, nb, nc, (coresR (smallR 8 x.1).1.toNat (smallR 8 x.1).2 []).1⟩, (coresR (smallR 8 x.1).1.toNat (smallR 8 x.1).2 []).2)) ∧ x.2.length ≤ 4096) ?_ ?_
  · conv => whnf
    refine acall.gen [14] [] _ _ _ _ (hn) rfl rfl rfl rfl (by repeat' (first | exact trivial | exact Or.inl (ti_succ (by assumption) (by assumption)) | exact Or.inl rfl | exact rfl | exact Nat.le_refl _ | apply And.intro)) (by repeat' (first | exact trivial | exact Or.inl (ti_succ (by assumption) (by assumption)) | exact Or.inl rfl | exact rfl | exact Nat.le_refl _ | apply And.intro)) rfl rfl fun _ => ?_
    conv => whnf
    refine LoopL.by (fun x : Nat × Rd × List Int => ⟨[(2, .ptr 0 0), (4, .ptr 1 0), (5, .ptr 2 0), (6, .tr (ti x.1))], [(0, obB nilT 0 0 0 nilT), (1, x.2.1.blk), (2, obB (.sl 3 x.2.2.length) na nb nc nilT), (3, memBk x.2.2)], 10⟩)
      (fun x => (∀ M, memR x.1 x.2.1 x.2.2 = M → R = decF ((⟨M.1, na, nb, nc, (coresR (smallR 8 M.2).1.toNat (smallR 8 M.2).2 []).1⟩, (coresR (smallR 8 M.2).1.toNat (smallR 8 M.2).2 []).2))) ∧ x.2.2.length + x.1 ≤ 4096) (fun x => x.1) (nn.toNat, ⟨ln, bn⟩, []) [0, 14, 23] [3]
      (Sub.mk' rfl ⟨⟨rfl, rfl⟩, ⟨rfl, rfl⟩, ⟨rfl, rfl⟩, .inl (congrArg ti hN.symm), trivial⟩ ⟨⟨rfl, .inl rfl, .inl rfl, .inl rfl, .inl rfl, .inl rfl, trivial⟩, ⟨rfl, .inl rfl, .inl rfl, trivial⟩, ⟨rfl, ⟨rfl, rfl, rfl, rfl⟩, .inl rfl, .inl rfl, .inl rfl, .inl rfl, trivial⟩, ⟨rfl, _, _, _, rfl, by decide⟩, trivial⟩ rfl rfl) ⟨hM, by simp only [List.length_nil]; omega⟩ ?_
    clear hM ha hb hc hn hng hN hd
    rintro ⟨n, ⟨l, bd⟩, mem⟩ ⟨hM, hlen⟩ -
    simp only at hM hlen
    cases bd
    · cases n with
      | zero =>
        replace hM := hM _ rfl
        conv => whnf
        refine ⟨fun _ => ?_, fun h => absurd rfl h⟩
        conv => whnf
        exact ⟨(⟨l, false⟩, mem), [0, 1, 2, 3], [], Sub.mk' rfl (by repeat' (first | exact trivial | exact Or.inl (ti_succ (by assumption) (by assumption)) | exact Or.inl rfl | exact rfl | exact Nat.le_refl _ | apply And.intro)) (by repeat' (first | exact trivial | exact Or.inl (ti_succ (by assumption) (by assumption)) | exact Or.inl rfl | exact rfl | exact Nat.le_refl _ | apply And.intro)) rfl rfl, hM, by simp only; omega⟩
      | succ m =>
        have hw := k_wordR ⟨l, false⟩
        have hM : ∀ M, memR m (wordR ⟨l, false⟩).2 (mem ++ [(wordR ⟨l, false⟩).1]) = M → R = decF ((⟨M.1, na, nb, nc, (coresR (smallR 8 M.2).1.toNat (smallR 8 M.2).2 []).1⟩, (coresR (smallR 8 M.2).1.toNat (smallR 8 M.2).2 []).2)) := hM
        generalize wordR ⟨l, false⟩ = W at hw hM
        obtain ⟨w, l1, b1⟩ := W
        simp only at hw hM
        have hm1 : IntKind.i64.wrap (((m + 1 : Nat) : Int) - 1) = (m : Int) := by rw [w64 (by omega) (by omega)]; omega
        conv => whnf
        refine csplit (fun h1 => ?_) (fun h1 => ?_)
        · conv => whnf
          refine acall.gen [1] [] _ _ _ _ (hw) rfl rfl rfl rfl (by repeat' (first | exact trivial | exact Or.inl (ti_succ (by assumption) (by assumption)) | exact Or.inl rfl | exact rfl | exact Nat.le_refl _ | apply And.intro)) (by repeat' (first | exact trivial | exact Or.inl (ti_succ (by assumption) (by assumption)) | exact Or.inl rfl | exact rfl | exact Nat.le_refl _ | apply And.intro)) rfl rfl ?_
          conv => whnf
          refine ⟨rfl, rfl, rfl, by simp, by simp; omega, fun q hq => by simp at hq; subst hq; simp, ?_⟩
          conv => whnf
          refine ⟨by kernel_rfl, fun _ => ?_⟩
          conv => whnf
          refine ⟨(m, ⟨l1, b1⟩, mem ++ [w]), [0, 1, 2, 24], [], Sub.mk' rfl ⟨⟨rfl, rfl⟩, ⟨rfl, rfl⟩, ⟨rfl, rfl⟩, .inl (congrArg ti hm1), trivial⟩ ⟨⟨rfl, .inl rfl, .inl rfl, .inl rfl, .inl rfl, .inl rfl, trivial⟩, ⟨rfl, .inl rfl, .inl rfl, trivial⟩, ⟨rfl, ⟨rfl, by simp⟩, .inl rfl, .inl rfl, .inl rfl, .inl rfl, trivial⟩, ⟨rfl, rfl, rfl, by rw [List.take_of_length_le (by simp), List.map_append]; rfl⟩, trivial⟩ rfl rfl, ⟨hM, by simp only [List.length_append, List.length_cons, List.length_nil]; omega⟩, by simp only; omega⟩
        · exact absurd (of_decide_eq_false h1) (by simp only; omega)
    · have hM : R = decF ((⟨mem, na, nb, nc, (coresR (smallR 8 ⟨l, true⟩).1.toNat (smallR 8 ⟨l, true⟩).2 []).1⟩, (coresR (smallR 8 ⟨l, true⟩).1.toNat (smallR 8 ⟨l, true⟩).2 []).2)) := by
        have := hM (mem, ⟨l, true⟩) (by cases n <;> rfl)
        exact this
      conv => whnf
      refine csplit (fun h1 => ?_) (fun h1 => ?_)
      · conv => whnf
        refine ⟨fun _ => ?_, fun h => absurd rfl h⟩
        conv => whnf
        exact ⟨(⟨l, true⟩, mem), [0, 1, 2, 3], [], Sub.mk' rfl (by repeat' (first | exact trivial | exact Or.inl (ti_succ (by assumption) (by assumption)) | exact Or.inl rfl | exact rfl | exact Nat.le_refl _ | apply And.intro)) (by repeat' (first | exact trivial | exact Or.inl (ti_succ (by assumption) (by assumption)) | exact Or.inl rfl | exact rfl | exact Nat.le_refl _ | apply And.intro)) rfl rfl, hM, by simp only; omega⟩
      · conv => whnf
        refine ⟨fun _ => ?_, fun h => absurd rfl h⟩
        conv => whnf
        exact ⟨(⟨l, true⟩, mem), [0, 1, 2, 3], [], Sub.mk' rfl (by repeat' (first | exact trivial | exact Or.inl (ti_succ (by assumption) (by assumption)) | exact Or.inl rfl | exact rfl | exact Nat.le_refl _ | apply And.intro)) (by repeat' (first | exact trivial | exact Or.inl (ti_succ (by assumption) (by assumption)) | exact Or.inl rfl | exact rfl | exact Nat.le_refl _ | apply And.intro)) rfl rfl, hM, by simp only; omega⟩
  clear hM ha hb hc hn hng hN hd
  rintro ⟨⟨l, bd⟩, mem⟩ ⟨hM, hml⟩ -
  simp only at hM hml
  have hs := k_smallR ⟨l, bd⟩ 8 (by decide)
  have hsg := smallR_rng (most := 8) (by decide) ⟨l, bd⟩
  generalize smallR 8 ⟨l, bd⟩ = S at hs hsg hM
  obtain ⟨ns, ls, bs⟩ := S
  simp only at hs hsg hM
  have hC : ∀ C, coresR ns.toNat ⟨ls, bs⟩ [] = C → R = decF (⟨mem, na, nb, nc, C.1⟩, C.2) := fun C h => by rw [hM, h]
  clear hM
  have hN : ((ns.toNat : Nat) : Int) = ns := Int.toNat_of_nonneg hsg.1
  refine CutL.by (fun x : Rd × List Cor => ⟨[(2, .ptr 0 0), (4, .ptr 1 0), (5, .ptr 2 0)], [(0, obB nilT 0 0 0 nilT), (1, x.1.blk), (2, obB (.sl 3 mem.length) na nb nc (.sl 4 x.2.length)), (3, memBk mem), (4, coresBk x.2)], 10⟩)
    (fun x => R = decF (⟨mem, na, nb, nc, x.2⟩, x.1) ∧ x.2.length ≤ 8) ?_ ?_
  · conv => whnf
    refine acall.gen [1] [] _ _ _ _ (hs) rfl rfl rfl rfl (by repeat' (first | exact trivial | exact Or.inl (ti_succ (by assumption) (by assumption)) | exact Or.inl rfl | exact rfl | exact Nat.le_refl _ | apply And.intro)) (by repeat' (first | exact trivial | exact Or.inl (ti_succ (by assumption) (by assumption)) | exact Or.inl rfl | exact rfl | exact Nat.le_refl _ | apply And.intro)) rfl rfl fun _ => ?_
    conv => whnf
    refine LoopL.by (fun x : Nat × Rd × List Cor => ⟨[(2, .ptr 0 0), (4, .ptr 1 0), (5, .ptr 2 0), (7, .tr (ti x.1))], [(0, obB nilT 0 0 0 nilT), (1, x.2.1.blk), (2, obB (.sl 3 mem.length) na nb nc (.sl 4 x.2.2.length)), (3, memBk mem), (4, coresBk x.2.2)], 10⟩)
      (fun x => (∀ C, coresR x.1 x.2.1 x.2.2 = C → R = decF (⟨mem, na, nb, nc, C.1⟩, C.2)) ∧ x.2.2.length + x.1 ≤ 8) (fun x => x.1) (ns.toNat, ⟨ls, bs⟩, []) [0, 1, 2, 3] [4]
      (Sub.mk' rfl ⟨⟨rfl, rfl⟩, ⟨rfl, rfl⟩, ⟨rfl, rfl⟩, .inl (congrArg ti hN.symm), trivial⟩ ⟨⟨rfl, .inl rfl, .inl rfl, .inl rfl, .inl rfl, .inl rfl, trivial⟩, ⟨rfl, .inl rfl, .inl rfl, trivial⟩, ⟨rfl, ⟨rfl, rfl⟩, .inl rfl, .inl rfl, .inl rfl, ⟨rfl, rfl, rfl, rfl⟩, trivial⟩, ⟨rfl, rfl, rfl, rfl⟩, ⟨rfl, rfl, rfl, by decide⟩, trivial⟩ rfl rfl) ⟨hC, by simp only [List.length_nil]; omega⟩ ?_
    clear hC hs hsg hN
    rintro ⟨n, ⟨l, bd⟩, cs⟩ ⟨hC, hlen⟩ -
    simp only at hC hlen
    cases bd
    · cases n with
      | zero =>
        replace hC := hC _ rfl
        conv => whnf
        refine ⟨fun _ => ?_, fun h => absurd rfl h⟩
        conv => whnf
        exact ⟨(⟨l, false⟩, cs), [0, 1, 2, 3, 4], [], Sub.mk' rfl (by repeat' (first | exact trivial | exact Or.inl (ti_succ (by assumption) (by assumption)) | exact Or.inl rfl | exact rfl | exact Nat.le_refl _ | apply And.intro)) (by repeat' (first | exact trivial | exact Or.inl (ti_succ (by assumption) (by assumption)) | exact Or.inl rfl | exact rfl | exact Nat.le_refl _ | apply And.intro)) rfl rfl, hC, by simp only; omega⟩
      | succ m =>
        have hw := k_nameR ⟨l, false⟩
        have hC : ∀ C, coresR m (coreR ⟨l, false⟩).2 (cs ++ [(coreR ⟨l, false⟩).1]) = C → R = decF (⟨mem, na, nb, nc, C.1⟩, C.2) := hC
        unfold coreR at hC
        generalize nameR ⟨l, false⟩ = W at hw hC
        obtain ⟨nm, l1, b1⟩ := W
        simp only at hw hC
        have hq := k_smallR ⟨l1, b1⟩ 16384 (by decide)
        have hqg := smallR_rng (most := 16384) (by decide) ⟨l1, b1⟩
        generalize smallR 16384 ⟨l1, b1⟩ = Q at hq hqg hC
        obtain ⟨nq, l2, b2⟩ := Q
        simp only at hq hqg hC
        have hD : ∀ D, codeR nq.toNat ⟨l2, b2⟩ [] = D → ∀ C, coresR m D.2 (cs ++ [⟨nm, D.1⟩]) = C → R = decF (⟨mem, na, nb, nc, C.1⟩, C.2) := fun D hD C h => hC C (by rw [hD]; exact h)
        clear hC
        have hm1 : IntKind.i64.wrap (((m + 1 : Nat) : Int) - 1) = (m : Int) := by rw [w64 (by omega) (by omega)]; omega
        have hN : ((nq.toNat : Nat) : Int) = nq := Int.toNat_of_nonneg hqg.1
        conv => whnf
        refine csplit (fun h1 => ?_) (fun h1 => ?_)
        · conv => whnf
          refine acall.gen [1] [] _ _ _ _ (hw) rfl rfl rfl rfl (by repeat' (first | exact trivial | exact Or.inl (ti_succ (by assumption) (by assumption)) | exact Or.inl rfl | exact rfl | exact Nat.le_refl _ | apply And.intro)) (by repeat' (first | exact trivial | exact Or.inl (ti_succ (by assumption) (by assumption)) | exact Or.inl rfl | exact rfl | exact Nat.le_refl _ | apply And.intro)) rfl rfl fun _ => ?_
          conv => whnf
          refine CutL.by (fun x : Rd × List Ins => ⟨[(2, .ptr 0 0), (4, .ptr 1 0), (5, .ptr 2 0), (7, .tr (ti ((m + 1 : Nat) : Int))), (8, .ptr 5 0)], [(0, obB nilT 0 0 0 nilT), (1, x.1.blk), (2, obB (.sl 3 mem.length) na nb nc (.sl 4 cs.length)), (3, memBk mem), (4, coresBk cs), (5, .cells 63 [.tr (ts nm), .sl 6 x.2.length]), (6, codeBk x.2)], 10⟩)
            (fun x => (∀ C, coresR m x.1 (cs ++ [⟨nm, x.2⟩]) = C → R = decF (⟨mem, na, nb, nc, C.1⟩, C.2)) ∧ x.2.length ≤ 16384) ?_ ?_
          · conv => whnf
            refine acall.gen [1] [] _ _ _ _ (hq) rfl rfl rfl rfl (by repeat' (first | exact trivial | exact Or.inl (ti_succ (by assumption) (by assumption)) | exact Or.inl rfl | exact rfl | exact Nat.le_refl _ | apply And.intro)) (by repeat' (first | exact trivial | exact Or.inl (ti_succ (by assumption) (by assumption)) | exact Or.inl rfl | exact rfl | exact Nat.le_refl _ | apply And.intro)) rfl rfl fun _ => ?_
            conv => whnf
            refine LoopL.by (fun x : Nat × Rd × List Ins => ⟨[(2, .ptr 0 0), (4, .ptr 1 0), (5, .ptr 2 0), (7, .tr (ti ((m + 1 : Nat) : Int))), (8, .ptr 5 0), (9, .tr (ti x.1))], [(0, obB nilT 0 0 0 nilT), (1, x.2.1.blk), (2, obB (.sl 3 mem.length) na nb nc (.sl 4 cs.length)), (3, memBk mem), (4, coresBk cs), (5, .cells 63 [.tr (ts nm), .sl 6 x.2.2.length]), (6, codeBk x.2.2)], 10⟩)
              (fun x => (∀ D, codeR x.1 x.2.1 x.2.2 = D → ∀ C, coresR m D.2 (cs ++ [⟨nm, D.1⟩]) = C → R = decF (⟨mem, na, nb, nc, C.1⟩, C.2)) ∧ x.2.2.length + x.1 ≤ 16384) (fun x => x.1) (nq.toNat, ⟨l2, b2⟩, []) [0, 1, 2, 3, 4, 22] [6]
              (Sub.mk' rfl ⟨⟨rfl, rfl⟩, ⟨rfl, rfl⟩, ⟨rfl, rfl⟩, .inl rfl, ⟨rfl, rfl⟩, .inl (congrArg ti hN.symm), trivial⟩ ⟨⟨rfl, .inl rfl, .inl rfl, .inl rfl, .inl rfl, .inl rfl, trivial⟩, ⟨rfl, .inl rfl, .inl rfl, trivial⟩, ⟨rfl, ⟨rfl, rfl⟩, .inl rfl, .inl rfl, .inl rfl, ⟨rfl, rfl⟩, trivial⟩, ⟨rfl, rfl, rfl, rfl⟩, ⟨rfl, rfl, rfl, rfl, .inl rfl⟩, ⟨rfl, .inl rfl, ⟨rfl, rfl, rfl, rfl⟩, trivial⟩, ⟨rfl, _, _, _, rfl, by decide⟩, trivial⟩ rfl rfl) ⟨hD, by simp only [List.length_nil]; omega⟩ ?_
            clear hD hq hqg hN hw h1
            rintro ⟨n, ⟨l, bd⟩, cc⟩ ⟨hD, hcl⟩ -
            simp only at hD hcl
            cases bd
            · cases n with
              | zero =>
                replace hD := hD _ rfl
                conv => whnf
                refine ⟨fun _ => ?_, fun h => absurd rfl h⟩
                conv => whnf
                exact ⟨(⟨l, false⟩, cc), [0, 1, 2, 3, 4, 5, 6], [], Sub.mk' rfl (by repeat' (first | exact trivial | exact Or.inl (ti_succ (by assumption) (by assumption)) | exact Or.inl rfl | exact rfl | exact Nat.le_refl _ | apply And.intro)) (by repeat' (first | exact trivial | exact Or.inl (ti_succ (by assumption) (by assumption)) | exact Or.inl rfl | exact rfl | exact Nat.le_refl _ | apply And.intro)) rfl rfl, hD, by simp only; omega⟩
              | succ q =>
                have hi := k_insR ⟨l, false⟩
                have hD : ∀ D, codeR q (insR ⟨l, false⟩).2 (cc ++ [(insR ⟨l, false⟩).1]) = D → ∀ C, coresR m D.2 (cs ++ [⟨nm, D.1⟩]) = C → R = decF (⟨mem, na, nb, nc, C.1⟩, C.2) := hD
                generalize insR ⟨l, false⟩ = I at hi hD
                obtain ⟨⟨i1, i2, i3, i4, i5, i6, i7, i8, i9⟩, l3, b3⟩ := I
                simp only at hi hD
                have hq1 : IntKind.i64.wrap (((q + 1 : Nat) : Int) - 1) = (q : Int) := by rw [w64 (by omega) (by omega)]; omega
                conv => whnf
                refine csplit (fun h2 => ?_) (fun h2 => ?_)
                · conv => whnf
                  refine acall.gen [1] [] _ _ _ _ (hi) rfl rfl rfl rfl (by repeat' (first | exact trivial | exact Or.inl (ti_succ (by assumption) (by assumption)) | exact Or.inl rfl | exact rfl | exact Nat.le_refl _ | apply And.intro)) (by repeat' (first | exact trivial | exact Or.inl (ti_succ (by assumption) (by assumption)) | exact Or.inl rfl | exact rfl | exact Nat.le_refl _ | apply And.intro)) rfl rfl ?_
                  conv => whnf
                  refine ⟨rfl, rfl, rfl, by simp, by simp; omega, fun p hp => by simp at hp; subst hp; simp, ?_⟩
                  conv => whnf
                  refine ⟨by kernel_rfl, fun _ => ?_⟩
                  conv => whnf
                  refine ⟨(q, ⟨l3, b3⟩, cc ++ [⟨i1, i2, i3, i4, i5, i6, i7, i8, i9⟩]), [0, 1, 2, 3, 4, 5, 24], [], Sub.mk' rfl ⟨⟨rfl, rfl⟩, ⟨rfl, rfl⟩, ⟨rfl, rfl⟩, .inl rfl, ⟨rfl, rfl⟩, .inl (congrArg ti hq1), trivial⟩ ⟨⟨rfl, .inl rfl, .inl rfl, .inl rfl, .inl rfl, .inl rfl, trivial⟩, ⟨rfl, .inl rfl, .inl rfl, trivial⟩, ⟨rfl, ⟨rfl, rfl⟩, .inl rfl, .inl rfl, .inl rfl, ⟨rfl, rfl⟩, trivial⟩, ⟨rfl, rfl, rfl, rfl⟩, ⟨rfl, rfl, rfl, rfl, .inl rfl⟩, ⟨rfl, .inl rfl, ⟨rfl, by simp⟩, trivial⟩, ⟨rfl, rfl, rfl, ?_⟩, trivial⟩ rfl rfl, ⟨hD, by simp only [List.length_append, List.length_cons, List.length_nil]; omega⟩, by simp only; omega⟩
                  rw [List.take_of_length_le (by simp), List.map_append]; rfl
                · exact absurd (of_decide_eq_false h2) (by simp only; omega)
            · have hD := hD (cc, ⟨l, true⟩) (by cases n <;> rfl)
              simp only at hD
              conv => whnf
              refine csplit (fun h2 => ?_) (fun h2 => ?_)
              · conv => whnf
                refine ⟨fun _ => ?_, fun h => absurd rfl h⟩
                conv => whnf
                exact ⟨(⟨l, true⟩, cc), [0, 1, 2, 3, 4, 5, 6], [], Sub.mk' rfl (by repeat' (first | exact trivial | exact Or.inl (ti_succ (by assumption) (by assumption)) | exact Or.inl rfl | exact rfl | exact Nat.le_refl _ | apply And.intro)) (by repeat' (first | exact trivial | exact Or.inl (ti_succ (by assumption) (by assumption)) | exact Or.inl rfl | exact rfl | exact Nat.le_refl _ | apply And.intro)) rfl rfl, hD, by simp only; omega⟩
              · conv => whnf
                refine ⟨fun _ => ?_, fun h => absurd rfl h⟩
                conv => whnf
                exact ⟨(⟨l, true⟩, cc), [0, 1, 2, 3, 4, 5, 6], [], Sub.mk' rfl (by repeat' (first | exact trivial | exact Or.inl (ti_succ (by assumption) (by assumption)) | exact Or.inl rfl | exact rfl | exact Nat.le_refl _ | apply And.intro)) (by repeat' (first | exact trivial | exact Or.inl (ti_succ (by assumption) (by assumption)) | exact Or.inl rfl | exact rfl | exact Nat.le_refl _ | apply And.intro)) rfl rfl, hD, by simp only; omega⟩
          · rintro ⟨⟨l, bd⟩, cc⟩ ⟨hC, hcl⟩ -
            simp only at hC hcl
            conv => whnf
            refine ⟨by rw [List.length_map], rfl, Nat.le_refl _, (show (cs.length + 1) * 40 ≤ 140737488351232 by omega), trivial, trivial, trivial, ?_⟩
            conv => whnf
            refine ⟨(m, ⟨l, bd⟩, cs ++ [⟨nm, cc⟩]), [0, 1, 2, 3, 14], [], Sub.pk [14] ?_, ⟨hC, by simp only [List.length_append, List.length_cons, List.length_nil]; omega⟩, by simp only; omega⟩
            conv => whnf
            refine ⟨rfl, rfl, (show cc.length ≤ (cc.map Ins.cells).length by simp), code_leaf cc, ?_⟩
            refine Sub0.mk' rfl ⟨⟨rfl, rfl⟩, ⟨rfl, rfl⟩, ⟨rfl, rfl⟩, .inl (congrArg ti hm1), trivial⟩ ⟨⟨rfl, .inl rfl, .inl rfl, .inl rfl, .inl rfl, .inl rfl, trivial⟩, ⟨rfl, .inl rfl, .inl rfl, trivial⟩, ⟨rfl, ⟨rfl, rfl⟩, .inl rfl, .inl rfl, .inl rfl, ⟨rfl, by simp⟩, trivial⟩, ⟨rfl, rfl, rfl, rfl⟩, ⟨rfl, rfl, rfl, rfl, .inl ?_⟩, trivial⟩ rfl rfl
            refine (setC_snoc (i := cs.length) (by simp)).trans ?_
            show _ ++ [[ts nm, Tr.lst 9 64 (List.take cc.length (cc.map Ins.cells))]] = _
            rw [List.take_of_length_le (l := cc.map Ins.cells) (by simp), List.map_append]
            rfl
        · exact absurd (of_decide_eq_false h1) (by simp only; omega)
    · have hC : R = decF (⟨mem, na, nb, nc, cs⟩, ⟨l, true⟩) := by
        have := hC (cs, ⟨l, true⟩) (by cases n <;> rfl)
        exact this
      conv => whnf
      refine csplit (fun h1 => ?_) (fun h1 => ?_)
      · conv => whnf
        refine ⟨fun _ => ?_, fun h => absurd rfl h⟩
        conv => whnf
        exact ⟨(⟨l, true⟩, cs), [0, 1, 2, 3, 4], [], Sub.mk' rfl (by repeat' (first | exact trivial | exact Or.inl (ti_succ (by assumption) (by assumption)) | exact Or.inl rfl | exact rfl | exact Nat.le_refl _ | apply And.intro)) (by repeat' (first | exact trivial | exact Or.inl (ti_succ (by assumption) (by assumption)) | exact Or.inl rfl | exact rfl | exact Nat.le_refl _ | apply And.intro)) rfl rfl, hC, by simp only; omega⟩
      · conv => whnf
        refine ⟨fun _ => ?_, fun h => absurd rfl h⟩
        conv => whnf
        exact ⟨(⟨l, true⟩, cs), [0, 1, 2, 3, 4], [], Sub.mk' rfl (by repeat' (first | exact trivial | exact Or.inl (ti_succ (by assumption) (by assumption)) | exact Or.inl rfl | exact rfl | exact Nat.le_refl _ | apply And.intro)) (by repeat' (first | exact trivial | exact Or.inl (ti_succ (by assumption) (by assumption)) | exact Or.inl rfl | exact rfl | exact Nat.le_refl _ | apply And.intro)) rfl rfl, hC, by simp only; omega⟩
  clear hC hs hsg hN
  rintro ⟨⟨l, bd⟩, cs⟩ ⟨hC, hcl⟩ -
  simp only at hC hcl
  have hk := k_check ⟨mem, na, nb, nc, cs⟩
  unfold decF at hC
  generalize checkO ⟨mem, na, nb, nc, cs⟩ = Q at hk hC
  conv => whnf
  refine acall.gen [] [3, 4] _ _ _ _ hk rfl rfl rfl rfl ⟨⟨⟨rfl, by simp, by rw [List.take_of_length_le (by simp)]⟩, .inl rfl, .inl rfl, .inl rfl, ⟨rfl, by simp, by rw [List.take_of_length_le (by simp)]⟩, trivial⟩, trivial⟩ trivial rfl rfl fun _ => ?_
  have hll : decide (((brows l).length : Int) > 0) = decide ((l.length : Int) > 0) := by rw [brows_len]
  conv => whnf
  refine csplit (fun hq => ?_) (fun hq => ?_)
  · replace hq : (Q.1 != 0) = true := hq
    simp only [hq, Bool.true_or, cond_true] at hC
    rw [hC]
    conv => whnf
    exact ⟨[], rfl, rfl, (by repeat' (first | exact trivial | exact Or.inl rfl | exact Or.inr ⟨rfl, _, _, rfl⟩ | exact rfl | exact Nat.le_refl _ | apply And.intro))⟩
  replace hq : (Q.1 != 0) = false := hq
  simp only [hq, Bool.false_or] at hC
  cases bd
  · simp only [Bool.false_or] at hC
    conv => whnf
    refine csplit (fun hl => ?_) (fun hl => ?_)
    · replace hl : decide (((brows l).length : Int) > 0) = true := hl
      rw [hll] at hl
      simp only [hl, cond_true] at hC
      rw [hC]
      conv => whnf
      exact ⟨[], rfl, rfl, (by repeat' (first | exact trivial | exact Or.inl rfl | exact Or.inr ⟨rfl, _, _, rfl⟩ | exact rfl | exact Nat.le_refl _ | apply And.intro))⟩
    · replace hl : decide (((brows l).length : Int) > 0) = false := hl
      rw [hll] at hl
      simp only [hl, cond_false] at hC
      rw [hC]
      conv => whnf
      exact ⟨[], rfl, rfl, ⟨⟨⟨rfl, by simp, by rw [List.take_of_length_le (by simp)]⟩, .inl rfl, .inl rfl, .inl rfl, ⟨rfl, by simp, by rw [List.take_of_length_le (by simp)]⟩, trivial⟩, .inl rfl, trivial⟩, trivial⟩
  · simp only [Bool.true_or, cond_true] at hC
    rw [hC]
    conv => whnf
    exact ⟨[], rfl, rfl, (by repeat' (first | exact trivial | exact Or.inl rfl | exact Or.inr ⟨rfl, _, _, rfl⟩ | exact rfl | exact Nat.le_refl _ | apply And.intro))⟩
set_option maxRecDepth 100000 in
set_option maxHeartbeats 4000000 in
theorem k_decodeErr (b : List UInt8) (h0 : (decS b).2 ≠ 0) : K 22 [.tr (bytT b)] [] (.ret (.tup [.agg [nilT, .tr (ti 0), .tr (ti 0), .tr (ti 0), nilT], .tr (ti 162)])) [] := by
  refine Ctr.new [9,17,18] hT hmix Tryz.func22 rfl (fun _ _ => by kernel_rfl) rfl fun hok => ?_
  clear hok
  obtain ⟨R, hR⟩ : ∃ R, R = decS b := ⟨_, rfl⟩
  rw [← hR] at h0
  unfold decS at hR
  have hbl := brows_len b
  conv => whnf
  have hgo : (decide ((b.length : Int) < 4) || !seq ⟨(b.take 4).toArray⟩ ⟨#[115, 116, 105, 108]⟩) = false → R = decF (decH ⟨b.drop 4, false⟩) := fun h => by rw [hR, h]; rfl
  have hno : (decide ((b.length : Int) < 4) || !seq ⟨(b.take 4).toArray⟩ ⟨#[115, 116, 105, 108]⟩) = true → R = (emptyO, 162) := fun h => by rw [hR, h]; rfl
  clear hR
  refine csplit (fun h1 => ?_) (fun h1 => ?_)
  · replace h1 : decide (((brows b).length : Int) < 4) = true := h1
    rw [hbl] at h1
    conv => whnf
    exact ⟨[], rfl, rfl, (by repeat' (first | exact trivial | exact Or.inl rfl | exact Or.inr ⟨rfl, _, _, rfl⟩ | exact rfl | exact Nat.le_refl _ | apply And.intro))⟩
  replace h1 : decide (((brows b).length : Int) < 4) = false := h1
  rw [hbl] at h1
  have hb4 : 4 ≤ b.length := by have := of_decide_eq_false h1; omega
  conv => whnf
  refine ⟨rfl, by decide, (show (0 : Int) ≤ 4 by decide), (show (4 : Int) ≤ ((brows b).length : Int) by rw [hbl]; omega), ?_⟩
  conv => whnf
  refine ⟨b.take 4, by rw [brows_take]; rfl, by rw [List.length_take]; omega, ?_⟩
  conv => whnf
  refine csplit (fun h2 => ?_) (fun h2 => ?_)
  · replace h2 : (!seq ⟨(b.take 4).toArray⟩ ⟨#[115, 116, 105, 108]⟩) = true := h2
    conv => whnf
    exact ⟨[], rfl, rfl, (by repeat' (first | exact trivial | exact Or.inl rfl | exact Or.inr ⟨rfl, _, _, rfl⟩ | exact rfl | exact Nat.le_refl _ | apply And.intro))⟩
  replace h2 : (!seq ⟨(b.take 4).toArray⟩ ⟨#[115, 116, 105, 108]⟩) = false := h2
  replace hgo := hgo (by rw [h1, h2]; rfl)
  clear hno h1 h2
  unfold decH at hgo
  conv => whnf
  refine ⟨rfl, by decide, (show (4 : Int) ≤ ((brows b).length : Int) by rw [hbl]; omega), Int.le_refl _, ?_⟩
  have hd : List.drop (4 : Int).toNat (List.take ((brows b).length : Int).toNat (brows b)) = brows (b.drop 4) := by
    rw [Int.toNat_natCast, List.take_of_length_le (Nat.le_refl _), brows_drop]; rfl
  generalize b.drop 4 = l0 at hgo hd
  have ha := k_smallR ⟨l0, false⟩ 64 (by decide)
  generalize smallR 64 ⟨l0, false⟩ = Sa at ha hgo
  obtain ⟨na, la, ba⟩ := Sa
  have hb := k_smallR ⟨la, ba⟩ 16 (by decide)
  simp only at hgo
  generalize smallR 16 ⟨la, ba⟩ = Sb at hb hgo
  obtain ⟨nb, lb, bb⟩ := Sb
  have hc := k_smallR ⟨lb, bb⟩ 16 (by decide)
  simp only at hgo
  generalize smallR 16 ⟨lb, bb⟩ = Sc at hc hgo
  obtain ⟨nc, lc, bc⟩ := Sc
  have hn := k_smallR ⟨lc, bc⟩ 4096 (by decide)
  have hng := smallR_rng (most := 4096) (by decide) ⟨lc, bc⟩
  simp only at hgo
  generalize smallR 4096 ⟨lc, bc⟩ = Sn at hn hng hgo
  obtain ⟨nn, ln, bn⟩ := Sn
  simp only at hgo ha hb hc hn hng
  conv => whnf
  refine acall.gen [14] [] _ _ _ _ ha rfl rfl rfl rfl (by repeat' (first | exact trivial | exact Or.inl (ti_succ (by assumption) (by assumption)) | exact Or.inl rfl | exact rfl | exact Nat.le_refl _ | apply And.intro)) ⟨⟨rfl, .inl (congrArg (Tr.lst 1 1) hd), .inl rfl, trivial⟩, trivial⟩ rfl rfl fun _ => ?_
  conv => whnf
  refine acall.gen [14] [] _ _ _ _ (hb) rfl rfl rfl rfl (by repeat' (first | exact trivial | exact Or.inl (ti_succ (by assumption) (by assumption)) | exact Or.inl rfl | exact rfl | exact Nat.le_refl _ | apply And.intro)) (by repeat' (first | exact trivial | exact Or.inl (ti_succ (by assumption) (by assumption)) | exact Or.inl rfl | exact rfl | exact Nat.le_refl _ | apply And.intro)) rfl rfl fun _ => ?_
  conv => whnf
  refine acall.gen [14] [] _ _ _ _ (hc) rfl rfl rfl rfl (by repeat' (first | exact trivial | exact Or.inl (ti_succ (by assumption) (by assumption)) | exact Or.inl rfl | exact rfl | exact Nat.le_refl _ | apply And.intro)) (by repeat' (first | exact trivial | exact Or.inl (ti_succ (by assumption) (by assumption)) | exact Or.inl rfl | exact rfl | exact Nat.le_refl _ | apply And.intro)) rfl rfl fun _ => ?_
  conv => whnf
  have hM : ∀ M, memR nn.toNat ⟨ln, bn⟩ [] = M → R = decF ((⟨M.1, na, nb, nc, (coresR (smallR 8 M.2).1.toNat (smallR 8 M.2).2 []).1⟩, (coresR (smallR 8 M.2).1.toNat (smallR 8 M.2).2 []).2)) := fun M h => by rw [hgo, h]
  clear hgo
  have hN : ((nn.toNat : Nat) : Int) = nn := Int.toNat_of_nonneg hng.1
  refine CutL.by (fun x : Rd × List Int => ⟨[(2, .ptr 0 0), (4, .ptr 1 0), (5, .ptr 2 0)], [(0, obB nilT 0 0 0 nilT), (1, x.1.blk), (2, obB (.sl 3 x.2.length) na nb nc nilT), (3, memBk x.2)], 10⟩)
    (fun x => R = decF ((⟨x.2, na, nb, nc, (coresR (smallR 8 x.1).1.toNat (smallR 8 x.1).2 []).1⟩, (coresR (smallR 8 x.1).1.toNat (smallR 8 x.1).2 []).2)) ∧ x.2.length ≤ 4096) ?_ ?_
  · conv => whnf
    refine acall.gen [14] [] _ _ _ _ (hn) rfl rfl rfl rfl (by repeat' (first | exact trivial | exact Or.inl (ti_succ (by assumption) (by assumption)) | exact Or.inl rfl | exact rfl | exact Nat.le_refl _ | apply And.intro)) (by repeat' (first | exact trivial | exact Or.inl (ti_succ (by assumption) (by assumption)) | exact Or.inl rfl | exact rfl | exact Nat.le_refl _ | apply And.intro)) rfl rfl fun _ => ?_
    conv => whnf
    refine LoopL.by (fun x : Nat × Rd × List Int => ⟨[(2, .ptr 0 0), (4, .ptr 1 0), (5, .ptr 2 0), (6, .tr (ti x.1))], [(0, obB nilT 0 0 0 nilT), (1, x.2.1.blk), (2, obB (.sl 3 x.2.2.length) na nb nc nilT), (3, memBk x.2.2)], 10⟩)
      (fun x => (∀ M, memR x.1 x.2.1 x.2.2 = M → R = decF ((⟨M.1, na, nb, nc, (coresR (smallR 8 M.2).1.toNat (smallR 8 M.2).2 []).1⟩, (coresR (smallR 8 M.2).1.toNat (smallR 8 M.2).2 []).2))) ∧ x.2.2.length + x.1 ≤ 4096) (fun x => x.1) (nn.toNat, ⟨ln, bn⟩, []) [0, 14, 23] [3]
      (Sub.mk' rfl ⟨⟨rfl, rfl⟩, ⟨rfl, rfl⟩, ⟨rfl, rfl⟩, .inl (congrArg ti hN.symm), trivial⟩ ⟨⟨rfl, .inl rfl, .inl rfl, .inl rfl, .inl rfl, .inl rfl, trivial⟩, ⟨rfl, .inl rfl, .inl rfl, trivial⟩, ⟨rfl, ⟨rfl, rfl, rfl, rfl⟩, .inl rfl, .inl rfl, .inl rfl, .inl rfl, trivial⟩, ⟨rfl, _, _, _, rfl, by decide⟩, trivial⟩ rfl rfl) ⟨hM, by simp only [List.length_nil]; omega⟩ ?_
    clear hM ha hb hc hn hng hN hd
    rintro ⟨n, ⟨l, bd⟩, mem⟩ ⟨hM, hlen⟩ -
    simp only at hM hlen
    cases bd
    · cases n with
      | zero =>
        replace hM := hM _ rfl
        conv => whnf
        refine ⟨fun _ => ?_, fun h => absurd rfl h⟩
        conv => whnf
        exact ⟨(⟨l, false⟩, mem), [0, 1, 2, 3], [], Sub.mk' rfl (by repeat' (first | exact trivial | exact Or.inl (ti_succ (by assumption) (by assumption)) | exact Or.inl rfl | exact rfl | exact Nat.le_refl _ | apply And.intro)) (by repeat' (first | exact trivial | exact Or.inl (ti_succ (by assumption) (by assumption)) | exact Or.inl rfl | exact rfl | exact Nat.le_refl _ | apply And.intro)) rfl rfl, hM, by simp only; omega⟩
      | succ m =>
        have hw := k_wordR ⟨l, false⟩
        have hM : ∀ M, memR m (wordR ⟨l, false⟩).2 (mem ++ [(wordR ⟨l, false⟩).1]) = M → R = decF ((⟨M.1, na, nb, nc, (coresR (smallR 8 M.2).1.toNat (smallR 8 M.2).2 []).1⟩, (coresR (smallR 8 M.2).1.toNat (smallR 8 M.2).2 []).2)) := hM
        generalize wordR ⟨l, false⟩ = W at hw hM
        obtain ⟨w, l1, b1⟩ := W
        simp only at hw hM
        have hm1 : IntKind.i64.wrap (((m + 1 : Nat) : Int) - 1) = (m : Int) := by rw [w64 (by omega) (by omega)]; omega
        conv => whnf
        refine csplit (fun h1 => ?_) (fun h1 => ?_)
        · conv => whnf
          refine acall.gen [1] [] _ _ _ _ (hw) rfl rfl rfl rfl (by repeat' (first | exact trivial | exact Or.inl (ti_succ (by assumption) (by assumption)) | exact Or.inl rfl | exact rfl | exact Nat.le_refl _ | apply And.intro)) (by repeat' (first | exact trivial | exact Or.inl (ti_succ (by assumption) (by assumption)) | exact Or.inl rfl | exact rfl | exact Nat.le_refl _ | apply And.intro)) rfl rfl ?_
          conv => whnf
          refine ⟨rfl, rfl, rfl, by simp, by simp; omega, fun q hq => by simp at hq; subst hq; simp, ?_⟩
          conv => whnf
          refine ⟨by kernel_rfl, fun _ => ?_⟩
          conv => whnf
          refine ⟨(m, ⟨l1, b1⟩, mem ++ [w]), [0, 1, 2, 24], [], Sub.mk' rfl ⟨⟨rfl, rfl⟩, ⟨rfl, rfl⟩, ⟨rfl, rfl⟩, .inl (congrArg ti hm1), trivial⟩ ⟨⟨rfl, .inl rfl, .inl rfl, .inl rfl, .inl rfl, .inl rfl, trivial⟩, ⟨rfl, .inl rfl, .inl rfl, trivial⟩, ⟨rfl, ⟨rfl, by simp⟩, .inl rfl, .inl rfl, .inl rfl, .inl rfl, trivial⟩, ⟨rfl, rfl, rfl, by rw [List.take_of_length_le (by simp), List.map_append]; rfl⟩, trivial⟩ rfl rfl, ⟨hM, by simp only [List.length_append, List.length_cons, List.length_nil]; omega⟩, by simp only; omega⟩
        · exact absurd (of_decide_eq_false h1) (by simp only; omega)
    · have hM : R = decF ((⟨mem, na, nb, nc, (coresR (smallR 8 ⟨l, true⟩).1.toNat (smallR 8 ⟨l, true⟩).2 []).1⟩, (coresR (smallR 8 ⟨l, true⟩).1.toNat (smallR 8 ⟨l, true⟩).2 []).2)) := by
        have := hM (mem, ⟨l, true⟩) (by cases n <;> rfl)
        exact this
      conv => whnf
      refine csplit (fun h1 => ?_) (fun h1 => ?_)
      · conv => whnf
        refine ⟨fun _ => ?_, fun h => absurd rfl h⟩
        conv => whnf
        exact ⟨(⟨l, true⟩, mem), [0, 1, 2, 3], [], Sub.mk' rfl (by repeat' (first | exact trivial | exact Or.inl (ti_succ (by assumption) (by assumption)) | exact Or.inl rfl | exact rfl | exact Nat.le_refl _ | apply And.intro)) (by repeat' (first | exact trivial | exact Or.inl (ti_succ (by assumption) (by assumption)) | exact Or.inl rfl | exact rfl | exact Nat.le_refl _ | apply And.intro)) rfl rfl, hM, by simp only; omega⟩
      · conv => whnf
        refine ⟨fun _ => ?_, fun h => absurd rfl h⟩
        conv => whnf
        exact ⟨(⟨l, true⟩, mem), [0, 1, 2, 3], [], Sub.mk' rfl (by repeat' (first | exact trivial | exact Or.inl (ti_succ (by assumption) (by assumption)) | exact Or.inl rfl | exact rfl | exact Nat.le_refl _ | apply And.intro)) (by repeat' (first | exact trivial | exact Or.inl (ti_succ (by assumption) (by assumption)) | exact Or.inl rfl | exact rfl | exact Nat.le_refl _ | apply And.intro)) rfl rfl, hM, by simp only; omega⟩
  clear hM ha hb hc hn hng hN hd
  rintro ⟨⟨l, bd⟩, mem⟩ ⟨hM, hml⟩ -
  simp only at hM hml
  have hs := k_smallR ⟨l, bd⟩ 8 (by decide)
  have hsg := smallR_rng (most := 8) (by decide) ⟨l, bd⟩
  generalize smallR 8 ⟨l, bd⟩ = S at hs hsg hM
  obtain ⟨ns, ls, bs⟩ := S
  simp only at hs hsg hM
  have hC : ∀ C, coresR ns.toNat ⟨ls, bs⟩ [] = C → R = decF (⟨mem, na, nb, nc, C.1⟩, C.2) := fun C h => by rw [hM, h]
  clear hM
  have hN : ((ns.toNat : Nat) : Int) = ns := Int.toNat_of_nonneg hsg.1
  refine CutL.by (fun x : Rd × List Cor => ⟨[(2, .ptr 0 0), (4, .ptr 1 0), (5, .ptr 2 0)], [(0, obB nilT 0 0 0 nilT), (1, x.1.blk), (2, obB (.sl 3 mem.length) na nb nc (.sl 4 x.2.length)), (3, memBk mem), (4, coresBk x.2)], 10⟩)
    (fun x => R = decF (⟨mem, na, nb, nc, x.2⟩, x.1) ∧ x.2.length ≤ 8) ?_ ?_
  · conv => whnf
    refine acall.gen [1] [] _ _ _ _ (hs) rfl rfl rfl rfl (by repeat' (first | exact trivial | exact Or.inl (ti_succ (by assumption) (by assumption)) | exact Or.inl rfl | exact rfl | exact Nat.le_refl _ | apply And.intro)) (by repeat' (first | exact trivial | exact Or.inl (ti_succ (by assumption) (by assumption)) | exact Or.inl rfl | exact rfl | exact Nat.le_refl _ | apply And.intro)) rfl rfl fun _ => ?_
    conv => whnf
    refine LoopL.by (fun x : Nat × Rd × List Cor => ⟨[(2, .ptr 0 0), (4, .ptr 1 0), (5, .ptr 2 0), (7, .tr (ti x.1))], [(0, obB nilT 0 0 0 nilT), (1, x.2.1.blk), (2, obB (.sl 3 mem.length) na nb nc (.sl 4 x.2.2.length)), (3, memBk mem), (4, coresBk x.2.2)], 10⟩)
      (fun x => (∀ C, coresR x.1 x.2.1 x.2.2 = C → R = decF (⟨mem, na, nb, nc, C.1⟩, C.2)) ∧ x.2.2.length + x.1 ≤ 8) (fun x => x.1) (ns.toNat, ⟨ls, bs⟩, []) [0, 1, 2, 3] [4]
      (Sub.mk' rfl ⟨⟨rfl, rfl⟩, ⟨rfl, rfl⟩, ⟨rfl, rfl⟩, .inl (congrArg ti hN.symm), trivial⟩ ⟨⟨rfl, .inl rfl, .inl rfl, .inl rfl, .inl rfl, .inl rfl, trivial⟩, ⟨rfl, .inl rfl, .inl rfl, trivial⟩, ⟨rfl, ⟨rfl, rfl⟩, .inl rfl, .inl rfl, .inl rfl, ⟨rfl, rfl, rfl, rfl⟩, trivial⟩, ⟨rfl, rfl, rfl, rfl⟩, ⟨rfl, rfl, rfl, by decide⟩, trivial⟩ rfl rfl) ⟨hC, by simp only [List.length_nil]; omega⟩ ?_
    clear hC hs hsg hN
    rintro ⟨n, ⟨l, bd⟩, cs⟩ ⟨hC, hlen⟩ -
    simp only at hC hlen
    cases bd
    · cases n with
      | zero =>
        replace hC := hC _ rfl
        conv => whnf
        refine ⟨fun _ => ?_, fun h => absurd rfl h⟩
        conv => whnf
        exact ⟨(⟨l, false⟩, cs), [0, 1, 2, 3, 4], [], Sub.mk' rfl (by repeat' (first | exact trivial | exact Or.inl (ti_succ (by assumption) (by assumption)) | exact Or.inl rfl | exact rfl | exact Nat.le_refl _ | apply And.intro)) (by repeat' (first | exact trivial | exact Or.inl (ti_succ (by assumption) (by assumption)) | exact Or.inl rfl | exact rfl | exact Nat.le_refl _ | apply And.intro)) rfl rfl, hC, by simp only; omega⟩
      | succ m =>
        have hw := k_nameR ⟨l, false⟩
        have hC : ∀ C, coresR m (coreR ⟨l, false⟩).2 (cs ++ [(coreR ⟨l, false⟩).1]) = C → R = decF (⟨mem, na, nb, nc, C.1⟩, C.2) := hC
        unfold coreR at hC
        generalize nameR ⟨l, false⟩ = W at hw hC
        obtain ⟨nm, l1, b1⟩ := W
        simp only at hw hC
        have hq := k_smallR ⟨l1, b1⟩ 16384 (by decide)
        have hqg := smallR_rng (most := 16384) (by decide) ⟨l1, b1⟩
        generalize smallR 16384 ⟨l1, b1⟩ = Q at hq hqg hC
        obtain ⟨nq, l2, b2⟩ := Q
        simp only at hq hqg hC
        have hD : ∀ D, codeR nq.toNat ⟨l2, b2⟩ [] = D → ∀ C, coresR m D.2 (cs ++ [⟨nm, D.1⟩]) = C → R = decF (⟨mem, na, nb, nc, C.1⟩, C.2) := fun D hD C h => hC C (by rw [hD]; exact h)
        clear hC
        have hm1 : IntKind.i64.wrap (((m + 1 : Nat) : Int) - 1) = (m : Int) := by rw [w64 (by omega) (by omega)]; omega
        have hN : ((nq.toNat : Nat) : Int) = nq := Int.toNat_of_nonneg hqg.1
        conv => whnf
        refine csplit (fun h1 => ?_) (fun h1 => ?_)
        · conv => whnf
          refine acall.gen [1] [] _ _ _ _ (hw) rfl rfl rfl rfl (by repeat' (first | exact trivial | exact Or.inl (ti_succ (by assumption) (by assumption)) | exact Or.inl rfl | exact rfl | exact Nat.le_refl _ | apply And.intro)) (by repeat' (first | exact trivial | exact Or.inl (ti_succ (by assumption) (by assumption)) | exact Or.inl rfl | exact rfl | exact Nat.le_refl _ | apply And.intro)) rfl rfl fun _ => ?_
          conv => whnf
          refine CutL.by (fun x : Rd × List Ins => ⟨[(2, .ptr 0 0), (4, .ptr 1 0), (5, .ptr 2 0), (7, .tr (ti ((m + 1 : Nat) : Int))), (8, .ptr 5 0)], [(0, obB nilT 0 0 0 nilT), (1, x.1.blk), (2, obB (.sl 3 mem.length) na nb nc (.sl 4 cs.length)), (3, memBk mem), (4, coresBk cs), (5, .cells 63 [.tr (ts nm), .sl 6 x.2.length]), (6, codeBk x.2)], 10⟩)
            (fun x => (∀ C, coresR m x.1 (cs ++ [⟨nm, x.2⟩]) = C → R = decF (⟨mem, na, nb, nc, C.1⟩, C.2)) ∧ x.2.length ≤ 16384) ?_ ?_
          · conv => whnf
            refine acall.gen [1] [] _ _ _ _ (hq) rfl rfl rfl rfl (by repeat' (first | exact trivial | exact Or.inl (ti_succ (by assumption) (by assumption)) | exact Or.inl rfl | exact rfl | exact Nat.le_refl _ | apply And.intro)) (by repeat' (first | exact trivial | exact Or.inl (ti_succ (by assumption) (by assumption)) | exact Or.inl rfl | exact rfl | exact Nat.le_refl _ | apply And.intro)) rfl rfl fun _ => ?_
            conv => whnf
            refine LoopL.by (fun x : Nat × Rd × List Ins => ⟨[(2, .ptr 0 0), (4, .ptr 1 0), (5, .ptr 2 0), (7, .tr (ti ((m + 1 : Nat) : Int))), (8, .ptr 5 0), (9, .tr (ti x.1))], [(0, obB nilT 0 0 0 nilT), (1, x.2.1.blk), (2, obB (.sl 3 mem.length) na nb nc (.sl 4 cs.length)), (3, memBk mem), (4, coresBk cs), (5, .cells 63 [.tr (ts nm), .sl 6 x.2.2.length]), (6, codeBk x.2.2)], 10⟩)
              (fun x => (∀ D, codeR x.1 x.2.1 x.2.2 = D → ∀ C, coresR m D.2 (cs ++ [⟨nm, D.1⟩]) = C → R = decF (⟨mem, na, nb, nc, C.1⟩, C.2)) ∧ x.2.2.length + x.1 ≤ 16384) (fun x => x.1) (nq.toNat, ⟨l2, b2⟩, []) [0, 1, 2, 3, 4, 22] [6]
              (Sub.mk' rfl ⟨⟨rfl, rfl⟩, ⟨rfl, rfl⟩, ⟨rfl, rfl⟩, .inl rfl, ⟨rfl, rfl⟩, .inl (congrArg ti hN.symm), trivial⟩ ⟨⟨rfl, .inl rfl, .inl rfl, .inl rfl, .inl rfl, .inl rfl, trivial⟩, ⟨rfl, .inl rfl, .inl rfl, trivial⟩, ⟨rfl, ⟨rfl, rfl⟩, .inl rfl, .inl rfl, .inl rfl, ⟨rfl, rfl⟩, trivial⟩, ⟨rfl, rfl, rfl, rfl⟩, ⟨rfl, rfl, rfl, rfl, .inl rfl⟩, ⟨rfl, .inl rfl, ⟨rfl, rfl, rfl, rfl⟩, trivial⟩, ⟨rfl, _, _, _, rfl, by decide⟩, trivial⟩ rfl rfl) ⟨hD, by simp only [List.length_nil]; omega⟩ ?_
            clear hD hq hqg hN hw h1
            rintro ⟨n, ⟨l, bd⟩, cc⟩ ⟨hD, hcl⟩ -
            simp only at hD hcl
            cases bd
            · cases n with
              | zero =>
                replace hD := hD _ rfl
                conv => whnf
                refine ⟨fun _ => ?_, fun h => absurd rfl h⟩
                conv => whnf
                exact ⟨(⟨l, false⟩, cc), [0, 1, 2, 3, 4, 5, 6], [], Sub.mk' rfl (by repeat' (first | exact trivial | exact Or.inl (ti_succ (by assumption) (by assumption)) | exact Or.inl rfl | exact rfl | exact Nat.le_refl _ | apply And.intro)) (by repeat' (first | exact trivial | exact Or.inl (ti_succ (by assumption) (by assumption)) | exact Or.inl rfl | exact rfl | exact Nat.le_refl _ | apply And.intro)) rfl rfl, hD, by simp only; omega⟩
              | succ q =>
                have hi := k_insR ⟨l, false⟩
                have hD : ∀ D, codeR q (insR ⟨l, false⟩).2 (cc ++ [(insR ⟨l, false⟩).1]) = D → ∀ C, coresR m D.2 (cs ++ [⟨nm, D.1⟩]) = C → R = decF (⟨mem, na, nb, nc, C.1⟩, C.2) := hD
                generalize insR ⟨l, false⟩ = I at hi hD
                obtain ⟨⟨i1, i2, i3, i4, i5, i6, i7, i8, i9⟩, l3, b3⟩ := I
                simp only at hi hD
                have hq1 : IntKind.i64.wrap (((q + 1 : Nat) : Int) - 1) = (q : Int) := by rw [w64 (by omega) (by omega)]; omega
                conv => whnf
                refine csplit (fun h2 => ?_) (fun h2 => ?_)
                · conv => whnf
                  refine acall.gen [1] [] _ _ _ _ (hi) rfl rfl rfl rfl (by repeat' (first | exact trivial | exact Or.inl (ti_succ (by assumption) (by assumption)) | exact Or.inl rfl | exact rfl | exact Nat.le_refl _ | apply And.intro)) (by repeat' (first | exact trivial | exact Or.inl (ti_succ (by assumption) (by assumption)) | exact Or.inl rfl | exact rfl | exact Nat.le_refl _ | apply And.intro)) rfl rfl ?_
                  conv => whnf
                  refine ⟨rfl, rfl, rfl, by simp, by simp; omega, fun p hp => by simp at hp; subst hp; simp, ?_⟩
                  conv => whnf
                  refine ⟨by kernel_rfl, fun _ => ?_⟩
                  conv => whnf
                  refine ⟨(q, ⟨l3, b3⟩, cc ++ [⟨i1, i2, i3, i4, i5, i6, i7, i8, i9⟩]), [0, 1, 2, 3, 4, 5, 24], [], Sub.mk' rfl ⟨⟨rfl, rfl⟩, ⟨rfl, rfl⟩, ⟨rfl, rfl⟩, .inl rfl, ⟨rfl, rfl⟩, .inl (congrArg ti hq1), trivial⟩ ⟨⟨rfl, .inl rfl, .inl rfl, .inl rfl, .inl rfl, .inl rfl, trivial⟩, ⟨rfl, .inl rfl, .inl rfl, trivial⟩, ⟨rfl, ⟨rfl, rfl⟩, .inl rfl, .inl rfl, .inl rfl, ⟨rfl, rfl⟩, trivial⟩, ⟨rfl, rfl, rfl, rfl⟩, ⟨rfl, rfl, rfl, rfl, .inl rfl⟩, ⟨rfl, .inl rfl, ⟨rfl, by simp⟩, trivial⟩, ⟨rfl, rfl, rfl, ?_⟩, trivial⟩ rfl rfl, ⟨hD, by simp only [List.length_append, List.length_cons, List.length_nil]; omega⟩, by simp only; omega⟩
                  rw [List.take_of_length_le (by simp), List.map_append]; rfl
                · exact absurd (of_decide_eq_false h2) (by simp only; omega)
            · have hD := hD (cc, ⟨l, true⟩) (by cases n <;> rfl)
              simp only at hD
              conv => whnf
              refine csplit (fun h2 => ?_) (fun h2 => ?_)
              · conv => whnf
                refine ⟨fun _ => ?_, fun h => absurd rfl h⟩
                conv => whnf
                exact ⟨(⟨l, true⟩, cc), [0, 1, 2, 3, 4, 5, 6], [], Sub.mk' rfl (by repeat' (first | exact trivial | exact Or.inl (ti_succ (by assumption) (by assumption)) | exact Or.inl rfl | exact rfl | exact Nat.le_refl _ | apply And.intro)) (by repeat' (first | exact trivial | exact Or.inl (ti_succ (by assumption) (by assumption)) | exact Or.inl rfl | exact rfl | exact Nat.le_refl _ | apply And.intro)) rfl rfl, hD, by simp only; omega⟩
              · conv => whnf
                refine ⟨fun _ => ?_, fun h => absurd rfl h⟩
                conv => whnf
                exact ⟨(⟨l, true⟩, cc), [0, 1, 2, 3, 4, 5, 6], [], Sub.mk' rfl (by repeat' (first | exact trivial | exact Or.inl (ti_succ (by assumption) (by assumption)) | exact Or.inl rfl | exact rfl | exact Nat.le_refl _ | apply And.intro)) (by repeat' (first | exact trivial | exact Or.inl (ti_succ (by assumption) (by assumption)) | exact Or.inl rfl | exact rfl | exact Nat.le_refl _ | apply And.intro)) rfl rfl, hD, by simp only; omega⟩
          · rintro ⟨⟨l, bd⟩, cc⟩ ⟨hC, hcl⟩ -
            simp only at hC hcl
            conv => whnf
            refine ⟨by rw [List.length_map], rfl, Nat.le_refl _, (show (cs.length + 1) * 40 ≤ 140737488351232 by omega), trivial, trivial, trivial, ?_⟩
            conv => whnf
            refine ⟨(m, ⟨l, bd⟩, cs ++ [⟨nm, cc⟩]), [0, 1, 2, 3, 14], [], Sub.pk [14] ?_, ⟨hC, by simp only [List.length_append, List.length_cons, List.length_nil]; omega⟩, by simp only; omega⟩
            conv => whnf
            refine ⟨rfl, rfl, (show cc.length ≤ (cc.map Ins.cells).length by simp), code_leaf cc, ?_⟩
            refine Sub0.mk' rfl ⟨⟨rfl, rfl⟩, ⟨rfl, rfl⟩, ⟨rfl, rfl⟩, .inl (congrArg ti hm1), trivial⟩ ⟨⟨rfl, .inl rfl, .inl rfl, .inl rfl, .inl rfl, .inl rfl, trivial⟩, ⟨rfl, .inl rfl, .inl rfl, trivial⟩, ⟨rfl, ⟨rfl, rfl⟩, .inl rfl, .inl rfl, .inl rfl, ⟨rfl, by simp⟩, trivial⟩, ⟨rfl, rfl, rfl, rfl⟩, ⟨rfl, rfl, rfl, rfl, .inl ?_⟩, trivial⟩ rfl rfl
            refine (setC_snoc (i := cs.length) (by simp)).trans ?_
            show _ ++ [[ts nm, Tr.lst 9 64 (List.take cc.length (cc.map Ins.cells))]] = _
            rw [List.take_of_length_le (l := cc.map Ins.cells) (by simp), List.map_append]
            rfl
        · exact absurd (of_decide_eq_false h1) (by simp only; omega)
    · have hC : R = decF (⟨mem, na, nb, nc, cs⟩, ⟨l, true⟩) := by
        have := hC (cs, ⟨l, true⟩) (by cases n <;> rfl)
        exact this
      conv => whnf
      refine csplit (fun h1 => ?_) (fun h1 => ?_)
      · conv => whnf
        refine ⟨fun _ => ?_, fun h => absurd rfl h⟩
        conv => whnf
        exact ⟨(⟨l, true⟩, cs), [0, 1, 2, 3, 4], [], Sub.mk' rfl (by repeat' (first | exact trivial | exact Or.inl (ti_succ (by assumption) (by assumption)) | exact Or.inl rfl | exact rfl | exact Nat.le_refl _ | apply And.intro)) (by repeat' (first | exact trivial | exact Or.inl (ti_succ (by assumption) (by assumption)) | exact Or.inl rfl | exact rfl | exact Nat.le_refl _ | apply And.intro)) rfl rfl, hC, by simp only; omega⟩
      · conv => whnf
        refine ⟨fun _ => ?_, fun h => absurd rfl h⟩
        conv => whnf
        exact ⟨(⟨l, true⟩, cs), [0, 1, 2, 3, 4], [], Sub.mk' rfl (by repeat' (first | exact trivial | exact Or.inl (ti_succ (by assumption) (by assumption)) | exact Or.inl rfl | exact rfl | exact Nat.le_refl _ | apply And.intro)) (by repeat' (first | exact trivial | exact Or.inl (ti_succ (by assumption) (by assumption)) | exact Or.inl rfl | exact rfl | exact Nat.le_refl _ | apply And.intro)) rfl rfl, hC, by simp only; omega⟩
  clear hC hs hsg hN
  rintro ⟨⟨l, bd⟩, cs⟩ ⟨hC, hcl⟩ -
  simp only at hC hcl
  have hk := k_check ⟨mem, na, nb, nc, cs⟩
  unfold decF at hC
  generalize checkO ⟨mem, na, nb, nc, cs⟩ = Q at hk hC
  conv => whnf
  refine acall.gen [] [3, 4] _ _ _ _ hk rfl rfl rfl rfl ⟨⟨⟨rfl, by simp, by rw [List.take_of_length_le (by simp)]⟩, .inl rfl, .inl rfl, .inl rfl, ⟨rfl, by simp, by rw [List.take_of_length_le (by simp)]⟩, trivial⟩, trivial⟩ trivial rfl rfl fun _ => ?_
  have hll : decide (((brows l).length : Int) > 0) = decide ((l.length : Int) > 0) := by rw [brows_len]
  conv => whnf
  refine csplit (fun hq => ?_) (fun hq => ?_)
  · replace hq : (Q.1 != 0) = true := hq
    simp only [hq, Bool.true_or, cond_true] at hC
    conv => whnf
    exact ⟨[], rfl, rfl, (by repeat' (first | exact trivial | exact Or.inl rfl | exact Or.inr ⟨rfl, _, _, rfl⟩ | exact rfl | exact Nat.le_refl _ | apply And.intro))⟩
  replace hq : (Q.1 != 0) = false := hq
  simp only [hq, Bool.false_or] at hC
  cases bd
  · simp only [Bool.false_or] at hC
    conv => whnf
    refine csplit (fun hl => ?_) (fun hl => ?_)
    · replace hl : decide (((brows l).length : Int) > 0) = true := hl
      rw [hll] at hl
      simp only [hl, cond_true] at hC
      conv => whnf
      exact ⟨[], rfl, rfl, (by repeat' (first | exact trivial | exact Or.inl rfl | exact Or.inr ⟨rfl, _, _, rfl⟩ | exact rfl | exact Nat.le_refl _ | apply And.intro))⟩
    · replace hl : decide (((brows l).length : Int) > 0) = false := hl
      rw [hll] at hl
      simp only [hl, cond_false] at hC
      exact absurd (by rw [hC]) h0
  · simp only [Bool.true_or, cond_true] at hC
    conv => whnf
    exact ⟨[], rfl, rfl, (by repeat' (first | exact trivial | exact Or.inl rfl | exact Or.inr ⟨rfl, _, _, rfl⟩ | exact rfl | exact Nat.le_refl _ | apply And.intro))⟩
end Go.Proofs.YtffhoknkfohfgaaGreatDoor.am

namespace Go.Proofs.YtffhoknkfohfgaaGreatDoor.am
open Go Go.Proofs
theorem band127B : ((List.range 256).all fun k => decide (band (k : Nat) 127 = (k % 128 : Nat))) = true := by kernel_rfl
theorem band127 (k : Nat) (h : k < 256) : band (k : Nat) 127 = (k % 128 : Nat) := of_decide_eq_true (List.all_eq_true.1 band127B k (List.mem_range.2 h))
theorem pow128 (k : Nat) : 128 ^ k = 2 ^ (7 * k) := by rw [Nat.pow_mul]
theorem shlD_eq {c : UInt8} {k : Nat} (hk : k ≤ 9) (hc : k = 9 → c.toNat ≤ 1) : shlD c k = ((c.toNat % 128 * 128 ^ k : Nat) : Int) ∧ c.toNat % 128 * 128 ^ k < 18446744073709551616 := by
  have h8 := c.toNat_lt
  have hlt : c.toNat % 128 * 128 ^ k < 18446744073709551616 := by
    generalize c.toNat = x at hc h8
    rcases k9 hk with rfl | rfl | rfl | rfl | rfl | rfl | rfl | rfl | rfl | rfl <;> simp only [Nat.reducePow] <;> omega
  refine ⟨?_, hlt⟩
  unfold shlD
  rw [band127 c.toNat (by omega), u64_id (z := ((c.toNat % 128 : Nat) : Int)) (by omega) (by omega), w64 (by omega) (by omega), show min (7 * (k : Int)).toNat IntKind.u64.bits = 7 * k by show min (7 * (k : Int)).toNat 64 = _; omega]
  have e : (((c.toNat % 128 : Nat) : Int) * 2 ^ (7 * k)) = ((c.toNat % 128 * 128 ^ k : Nat) : Int) := by rw [pow128]; norm_cast
  rw [e, u64_id (by omega) (by omega)]
theorem orI_eq {a x k : Nat} (ha : a < 128 ^ k) (hx : x * 128 ^ k < 18446744073709551616) (hk : k ≤ 9) : orI (a : Int) ((x * 128 ^ k : Nat) : Int) = ((a + x * 128 ^ k : Nat) : Int) ∧ (x < 128 → a + x * 128 ^ k < 128 ^ (k + 1)) ∧ a + x * 128 ^ k < 18446744073709551616 := by
  have h1 : x < 128 → a + x * 128 ^ k < 128 ^ (k + 1) := fun h => by
    rw [Nat.pow_succ]
    have : x * 128 ^ k ≤ 127 * 128 ^ k := Nat.mul_le_mul_right _ (by omega)
    omega
  have hsum : a + x * 128 ^ k < 18446744073709551616 := by
    rcases k9 hk with rfl | rfl | rfl | rfl | rfl | rfl | rfl | rfl | rfl | rfl <;> simp only [Nat.reducePow] at ha hx ⊢ <;> omega
  refine ⟨?_, h1, hsum⟩
  unfold orI
  rw [show IntKind.u64.bits = 64 from rfl, ofInt_nat, ofInt_nat, BitVec.toNat_or, BitVec.toNat_ofNat, BitVec.toNat_ofNat, Nat.mod_eq_of_lt (by omega), Nat.mod_eq_of_lt hx]
  have e : a ||| x * 128 ^ k = a + x * 128 ^ k := by
    rw [pow128] at ha ⊢
    rw [← Nat.shiftLeft_eq, Nat.or_comm, ← Nat.shiftLeft_add_eq_or_of_lt ha, Nat.add_comm]
  rw [e, u64_id (by omega) (by omega)]
theorem numG_eq (l0 : List UInt8) : ∀ (f k a : Nat) (l : List UInt8), f + k = 10 → a < 128 ^ k → numG l0 f k a l = match nO f k a l with | none => (0, ⟨l0, true⟩) | some (m, r) => ((m : Int), ⟨r, false⟩)
  | 0, _, _, _, _, _ => rfl
  | _ + 1, _, _, [], _, _ => rfl
  | f + 1, k, a, c :: l, hk, ha => by
    unfold numG nO
    by_cases hb : (k = 9 ∧ 1 < c.toNat) ∨ (0 < k ∧ c.toNat = 0)
    · rw [if_pos hb]
      have e : ((((k : Int) == 9) && decide ((c.toNat : Int) > 1)) || (decide ((k : Int) > 0) && ((c.toNat : Int) == 0))) = true := by
        rcases hb with ⟨h1, h2⟩ | ⟨h1, h2⟩
        · rw [show ((k : Int) == 9) = true by rw [h1]; rfl, show decide ((c.toNat : Int) > 1) = true from decide_eq_true (by omega)]; rfl
        · rw [show decide ((k : Int) > 0) = true from decide_eq_true (by omega), show ((c.toNat : Int) == 0) = true by rw [h2]; rfl, Bool.and_self, Bool.or_true]
      rw [e]; rfl
    · rw [if_neg hb]
      have e : ((((k : Int) == 9) && decide ((c.toNat : Int) > 1)) || (decide ((k : Int) > 0) && ((c.toNat : Int) == 0))) = false := by
        rw [Bool.or_eq_false_iff, Bool.and_eq_false_iff, Bool.and_eq_false_iff]
        refine ⟨?_, ?_⟩
        · by_cases h : k = 9
          · exact .inr (decide_eq_false (by omega))
          · exact .inl (beq_eq_false_iff_ne.2 (by omega))
        · by_cases h : 0 < k
          · exact .inr (beq_eq_false_iff_ne.2 (by omega))
          · exact .inl (decide_eq_false (by omega))
      have hs := shlD_eq (c := c) (k := k) (by omega) (fun h => by omega)
      have ho := orI_eq ha hs.2 (by omega)
      rw [e, hs.1, ho.1]
      by_cases h : c.toNat < 128
      · rw [if_pos h, show decide ((c.toNat : Int) < 128) = true from decide_eq_true (by omega), Nat.mod_eq_of_lt h]; rfl
      · rw [if_neg h, show decide ((c.toNat : Int) < 128) = false from decide_eq_false (by omega)]
        exact numG_eq l0 f (k + 1) _ l (by omega) (ho.2.1 (by omega))
def Rf {α β : Type} (s : Rd → α × Rd) (q : PO β) (f : β → α) : Prop := ∀ r, (r.bad = true → (s r).2.bad = true) ∧ ∀ l, r = ⟨l, false⟩ → match q l with
  | none => (s r).2.bad = true
  | some (b, l') => s r = (f b, ⟨l', false⟩)
theorem rf_num : Rf numR numO (fun n : Nat => (n : Int)) := by
  intro r
  refine ⟨fun h => by unfold numR; rw [h]; rfl, fun l h => ?_⟩
  subst h
  have e : numR ⟨l, false⟩ = numG l 10 0 ((0 : Nat) : Int) l := rfl
  rw [e, numG_eq l 10 0 0 l rfl (by decide)]
  unfold numO
  cases nO 10 0 0 l <;> rfl
theorem rf_small (most : Nat) : Rf (smallR most) (smallO most) (fun n : Nat => (n : Int)) := by
  intro r
  have hn := rf_num r
  refine ⟨fun h => ?_, fun l h => ?_⟩
  · have := hn.1 h
    unfold smallR
    cases decide ((numR r).1 > most)
    · exact this
    · rfl
  · have := hn.2 l h
    unfold smallO
    unfold smallR
    cases hq : numO l with
    | none =>
      rw [hq] at this
      show (bif _ then _ else _ : Int × Rd).2.bad = true
      cases decide ((numR r).1 > most)
      · exact this
      · rfl
    | some p =>
      obtain ⟨n, l'⟩ := p
      rw [hq] at this
      replace this : numR r = ((n : Int), ⟨l', false⟩) := this
      rw [this]
      by_cases hle : n ≤ most
      · simp only [if_pos hle, show decide ((n : Int) > most) = false from decide_eq_false (by omega), cond_false]
      · simp only [if_neg hle, show decide ((n : Int) > most) = true from decide_eq_true (by omega), cond_true]
theorem unzM_eq {n : Nat} (h : n < 18446744073709551616) : unzM n = unzN n := by
  unfold unzM unzN
  have h1 : IntKind.i64.wrap ((n : Int).fdiv (2 ^ min (1 : Int).toNat IntKind.u64.bits)) = ((n / 2 : Nat) : Int) := by
    rw [show min (1 : Int).toNat IntKind.u64.bits = 1 from rfl, Int.fdiv_eq_ediv_of_nonneg _ (by decide), w64 (by omega) (by omega)]; omega
  have h2 : IntKind.u64.wrap (BitVec.ofInt IntKind.u64.bits (n : Int) &&& BitVec.ofInt IntKind.u64.bits 1).toNat = ((n % 2 : Nat) : Int) := by
    rw [show IntKind.u64.bits = 64 from rfl, show (1 : Int) = ((1 : Nat) : Int) from rfl, ofInt_nat, ofInt_nat, BitVec.toNat_and, BitVec.toNat_ofNat, BitVec.toNat_ofNat, Nat.mod_eq_of_lt h, show 1 % 2 ^ 64 = 1 from rfl, Nat.and_one_is_mod, u64_id (by omega) (by omega)]
  rw [h1, h2, w64 (n := ((n % 2 : Nat) : Int)) (by omega) (by omega), show IntKind.i64.bits = 64 from rfl, ofInt_nat]
  by_cases h0 : n % 2 = 0
  · rw [if_pos h0, h0, show IntKind.i64.wrap (0 - ((0 : Nat) : Int)) = 0 from rfl, show BitVec.ofInt 64 0 = 0#64 from rfl, BitVec.xor_zero, BitVec.toNat_ofNat, Nat.mod_eq_of_lt (by omega), w64 (by omega) (by omega)]
  · rw [if_neg h0, show n % 2 = 1 by omega, show IntKind.i64.wrap (0 - ((1 : Nat) : Int)) = -1 from rfl, show BitVec.ofInt 64 (-1) = BitVec.allOnes 64 from rfl, BitVec.xor_allOnes, BitVec.toNat_not, BitVec.toNat_ofNat, Nat.mod_eq_of_lt (by omega)]
    obtain ⟨y, hy, hy2⟩ : ∃ y : Nat, 2 ^ 64 - 1 - n / 2 = y ∧ y + n / 2 + 1 = 18446744073709551616 := ⟨_, rfl, by omega⟩
    have hz : IntKind.i64.wrap (y : Int) = (y : Int) - 18446744073709551616 := by
      simp only [IntKind.wrap, IntKind.signed, IntKind.bits, Bool.true_and, Int.reducePow]
      split
      · omega
      · rename_i hh
        exact absurd (by simp; omega) hh
    rw [hy, hz]
    omega
theorem rf_word : Rf wordR wordO id := by
  intro r
  have hn := rf_num r
  refine ⟨fun h => hn.1 h, fun l h => ?_⟩
  have := hn.2 l h
  unfold wordO
  cases hq : numO l with
  | none => rw [hq] at this; exact this
  | some p =>
    obtain ⟨n, l'⟩ := p
    rw [hq] at this
    replace this : numR r = ((n : Int), ⟨l', false⟩) := this
    show wordR r = (unzN n, ⟨l', false⟩)
    unfold wordR
    rw [this, unzM_eq (numO_inv hq).1]
theorem rf_name : Rf nameR nameO id := by
  intro r
  have hn := rf_small 32 r
  refine ⟨fun h => ?_, fun l h => ?_⟩
  · have := hn.1 h
    unfold nameR
    cases decide ((smallR 32 r).1 > ((smallR 32 r).2.l.length : Int))
    · exact this
    · rfl
  · have := hn.2 l h
    unfold nameO nameR
    cases hq : smallO 32 l with
    | none =>
      rw [hq] at this
      show (bif _ then _ else _ : ByteArray × Rd).2.bad = true
      cases decide ((smallR (32 : Int) r).1 > ((smallR (32 : Int) r).2.l.length : Int))
      · exact this
      · rfl
    | some p =>
      obtain ⟨n, l'⟩ := p
      rw [hq] at this
      replace this : smallR (32 : Int) r = ((n : Int), ⟨l', false⟩) := this
      rw [this]
      by_cases hle : n ≤ l'.length
      · simp only [if_pos hle, show decide ((n : Int) > (l'.length : Int)) = false from decide_eq_false (by omega), cond_false, Int.toNat_natCast]; rfl
      · simp only [if_neg hle, show decide ((n : Int) > (l'.length : Int)) = true from decide_eq_true (by omega), cond_true]
def loopR {α : Type} (s : Rd → α × Rd) : Nat → Rd → List α → List α × Rd
  | 0, r, acc => (acc, r)
  | n + 1, r, acc => bif r.bad then (acc, r) else loopR s n (s r).2 (acc ++ [(s r).1])
theorem memR_loop : memR = loopR wordR := by
  funext n; induction n with
  | zero => rfl
  | succ n ih => funext r acc; unfold memR loopR; rw [ih]
theorem codeR_loop : codeR = loopR insR := by
  funext n; induction n with
  | zero => rfl
  | succ n ih => funext r acc; unfold codeR loopR; rw [ih]
theorem coresR_loop : coresR = loopR coreR := by
  funext n; induction n with
  | zero => rfl
  | succ n ih => funext r acc; unfold coresR loopR; rw [ih]
theorem loop_bad {α : Type} {s : Rd → α × Rd} (n : Nat) {r : Rd} (h : r.bad = true) (acc : List α) : loopR s n r acc = (acc, r) := by
  cases n with
  | zero => rfl
  | succ n => unfold loopR; rw [h]; rfl
theorem loop_ok {α : Type} {s : Rd → α × Rd} {q : PO α} (h : Rf s q id) : ∀ (n : Nat) (l : List UInt8) (acc : List α), match repO q n l with
    | none => (loopR s n ⟨l, false⟩ acc).2.bad = true
    | some (x, l') => loopR s n ⟨l, false⟩ acc = (acc ++ x, ⟨l', false⟩)
  | 0, l, acc => by show (acc, _) = (acc ++ [], _); rw [List.append_nil]
  | n + 1, l, acc => by
    have h1 := (h ⟨l, false⟩).2 l rfl
    show match (match q l with | none => none | some (a, l) => match repO q n l with | none => none | some (x, r) => some (a :: x, r)) with
      | none => (loopR s n (s ⟨l, false⟩).2 (acc ++ [(s ⟨l, false⟩).1])).2.bad = true
      | some (x, l') => loopR s n (s ⟨l, false⟩).2 (acc ++ [(s ⟨l, false⟩).1]) = (acc ++ x, ⟨l', false⟩)
    cases hq : q l with
    | none =>
      rw [hq] at h1
      replace h1 : (s ⟨l, false⟩).2.bad = true := h1
      show (loopR s n _ _).2.bad = true
      rw [loop_bad n h1]; exact h1
    | some p =>
      obtain ⟨a, l1⟩ := p
      rw [hq] at h1
      replace h1 : s ⟨l, false⟩ = (a, ⟨l1, false⟩) := h1
      rw [h1]
      have := loop_ok h n l1 (acc ++ [a])
      simp only
      cases hr : repO q n l1 with
      | none => rw [hr] at this; exact this
      | some p =>
        obtain ⟨x, l2⟩ := p
        rw [hr] at this
        replace this : loopR s n ⟨l1, false⟩ (acc ++ [a]) = (acc ++ [a] ++ x, ⟨l2, false⟩) := this
        show loopR s n ⟨l1, false⟩ (acc ++ [a]) = (acc ++ a :: x, ⟨l2, false⟩)
        rw [this, List.append_assoc]; rfl
/-- a step behind another one -/
theorem rf_bind {α β γ δ : Type} {s : Rd → α × Rd} {q : PO β} {f : β → α} {s' : α → Rd → γ × Rd} {q' : β → PO δ} {f' : δ → γ} (h : Rf s q f) (h' : ∀ b, Rf (s' (f b)) (q' b) f') (hb : ∀ a r, r.bad = true → (s' a r).2.bad = true) :
    Rf (fun r => s' (s r).1 (s r).2) (fun l => match q l with | none => none | some (b, l') => q' b l') f' := by
  intro r
  have h1 := h r
  refine ⟨fun hr => hb _ _ (h1.1 hr), fun l hl => ?_⟩
  have h2 := h1.2 l hl
  simp only
  cases hq : q l with
  | none => rw [hq] at h2; exact hb _ _ h2
  | some p =>
    obtain ⟨b, l'⟩ := p
    rw [hq] at h2
    replace h2 : s r = (f b, ⟨l', false⟩) := h2
    rw [h2]
    exact (h' b ⟨l', false⟩).2 l' rfl
theorem rf_ret {α : Type} (a : α) : Rf (fun r => (a, r)) (fun l => some (a, l)) id := fun r => ⟨fun h => h, fun l h => by subst h; rfl⟩
theorem rf_map {α β γ δ : Type} {s : Rd → α × Rd} {q : PO β} {f : β → α} (g : α → γ) (g' : β → δ) (k : δ → γ) (hg : ∀ b, g (f b) = k (g' b)) (h : Rf s q f) : Rf (fun r => (g (s r).1, (s r).2)) (fun l => (q l).map fun p => (g' p.1, p.2)) k := by
  intro r
  have h1 := h r
  refine ⟨fun hr => h1.1 hr, fun l hl => ?_⟩
  have h2 := h1.2 l hl
  simp only
  cases hq : q l with
  | none => rw [hq] at h2; exact h2
  | some p =>
    obtain ⟨b, l'⟩ := p
    rw [hq] at h2
    replace h2 : s r = (f b, ⟨l', false⟩) := h2
    show (g (s r).1, (s r).2) = (k (g' b), ⟨l', false⟩)
    rw [h2, ← hg b]
theorem rf_congr {α β : Type} {s s' : Rd → α × Rd} {q q' : PO β} {f : β → α} (h : Rf s q f) (hs : ∀ r, s' r = s r) (hq : ∀ l, q' l = q l) : Rf s' q' f := by
  intro r
  refine ⟨fun hr => by rw [hs]; exact (h r).1 hr, fun l hl => ?_⟩
  have := (h r).2 l hl
  rw [hq, hs]; exact this
def limT : Lim := ⟨19, 16384, 16384, 16384⟩
theorem fld_bad (i : Ins) (u : Int) (r : Rd) (h : r.bad = true) : (fldR i u r).2.bad = true := by
  have h1 := (rf_small 19 r).1 h
  have h2 := (rf_small 16384 r).1 h
  have h3 := (rf_word r).1 h
  have hc : ∀ (b : Bool) (x y : Ins × Rd), x.2.bad = true → y.2.bad = true → (bif b then x else y).2.bad = true := fun b x y e1 e2 => by cases b <;> assumption
  exact hc _ _ _ h1 (hc _ _ _ h2 (hc _ _ _ h2 (hc _ _ _ h2 (hc _ _ _ h2 (hc _ _ _ h2 (hc _ _ _ h3 h))))))
theorem rf_fld (i : Ins) (u : Int) (hu : u = 0 ∨ u = 1 ∨ u = 2 ∨ u = 4 ∨ u = 8 ∨ u = 16 ∨ u = 32 ∨ u = 64) : Rf (fldR i u) (fieldO limT i u) id := by
  rcases hu with rfl | rfl | rfl | rfl | rfl | rfl | rfl | rfl
  · exact rf_ret i
  · intro r
    have h := rf_small 19 r
    refine ⟨fun hr => h.1 hr, fun l hl => ?_⟩
    have h2 := h.2 l hl
    have hle : ∀ {n l'}, smallO 19 l = some (n, l') → n ≤ 19 := fun e => (smallO_inv e).1
    rw [show fieldO limT i 1 l = (smallO 19 l).map (fun p => ({ i with op := p.1 }, p.2)) from rfl]
    cases hq : smallO 19 l with
    | none => rw [hq] at h2; exact h2
    | some p =>
      obtain ⟨n, l'⟩ := p
      rw [hq] at h2
      replace h2 : smallR (19 : Int) r = ((n : Int), ⟨l', false⟩) := h2
      have hn := hle hq
      show ({ i with op := IntKind.u8.wrap (smallR (19 : Int) r).1 }, (smallR (19 : Int) r).2) = ({ i with op := (n : Int) }, (⟨l', false⟩ : Rd))
      rw [h2, wu8 (show (0 : Int) ≤ (n : Int) by omega) (by omega)]
  · exact rf_map (fun x => { i with d := x }) (fun n : Nat => { i with d := (n : Int) }) id (fun _ => rfl) (rf_small 16384)
  · exact rf_map (fun x => { i with a := x }) (fun n : Nat => { i with a := (n : Int) }) id (fun _ => rfl) (rf_small 16384)
  · exact rf_map (fun x => { i with b := x }) (fun n : Nat => { i with b := (n : Int) }) id (fun _ => rfl) (rf_small 16384)
  · exact rf_map (fun x => { i with addr := x }) (fun n : Nat => { i with addr := (n : Int) }) id (fun _ => rfl) (rf_small 16384)
  · exact rf_map (fun x => { i with to_ := x }) (fun n : Nat => { i with to_ := (n : Int) }) id (fun _ => rfl) (rf_small 16384)
  · exact rf_map (fun x => { i with word := x }) (fun x => { i with word := x }) id (fun _ => rfl) rf_word
end Go.Proofs.YtffhoknkfohfgaaGreatDoor.am

namespace Go.Proofs.YtffhoknkfohfgaaGreatDoor.am
open Go Go.Proofs
abbrev isU (u : Int) : Prop := u = 0 ∨ u = 1 ∨ u = 2 ∨ u = 4 ∨ u = 8 ∨ u = 16 ∨ u = 32 ∨ u = 64
theorem field_kind {L : Lim} {i b : Ins} {u : Int} (hu : isU u) {l l' : List UInt8} (h : fieldO L i u l = some (b, l')) : b.kind = i.kind := by
  rcases hu with rfl | rfl | rfl | rfl | rfl | rfl | rfl | rfl
  · rw [(f0_inv h).1]
  · obtain ⟨n, _, rfl, _⟩ := f1_inv h; rfl
  · obtain ⟨n, _, rfl, _⟩ := f2_inv h; rfl
  · obtain ⟨n, _, rfl, _⟩ := f4_inv h; rfl
  · obtain ⟨n, _, rfl, _⟩ := f8_inv h; rfl
  · obtain ⟨n, _, rfl, _⟩ := f16_inv h; rfl
  · obtain ⟨n, _, rfl, _⟩ := f32_inv h; rfl
  · obtain ⟨n, _, rfl, _⟩ := f64_inv h; rfl
theorem field_word {L : Lim} {i b : Ins} {u : Int} (hu : isU u) {l l' : List UInt8} (hw : in64 i.word) (h : fieldO L i u l = some (b, l')) : in64 b.word := by
  rcases hu with rfl | rfl | rfl | rfl | rfl | rfl | rfl | rfl
  · rw [(f0_inv h).1]; exact hw
  · obtain ⟨n, _, rfl, _⟩ := f1_inv h; exact hw
  · obtain ⟨n, _, rfl, _⟩ := f2_inv h; exact hw
  · obtain ⟨n, _, rfl, _⟩ := f4_inv h; exact hw
  · obtain ⟨n, _, rfl, _⟩ := f8_inv h; exact hw
  · obtain ⟨n, _, rfl, _⟩ := f16_inv h; exact hw
  · obtain ⟨n, _, rfl, _⟩ := f32_inv h; exact hw
  · obtain ⟨n, hn, rfl, _⟩ := f64_inv h; exact hn
theorem fields_keep {L : Lim} : ∀ (us : List Int), (∀ u ∈ us, isU u) → ∀ {i b : Ins} {l l' : List UInt8}, in64 i.word → fieldsO L us i l = some (b, l') → b.kind = i.kind ∧ in64 b.word
  | [], _, i, b, l, l', hw, h => by obtain ⟨rfl, rfl⟩ := fields_nil h; exact ⟨rfl, hw⟩
  | u :: us, hu, i, b, l, l', hw, h => by
    obtain ⟨i1, l1, h1, h2⟩ := fields_inv h
    have e1 := field_kind (hu u (.head _)) h1
    have e2 := field_word (hu u (.head _)) hw h1
    obtain ⟨e3, e4⟩ := fields_keep us (fun v hv => hu v (.tail _ hv)) e2 h2
    exact ⟨e3.trans e1, e4⟩
theorem stepR_fld {i : Ins} {u : Int} (h : i.kind ≠ 2 ∨ u ≠ 8) (r : Rd) : stepR i u r = fldR i u r := by
  unfold stepR
  rcases h with h | h
  · rw [show (i.kind == 2) = false from beq_eq_false_iff_ne.2 h, Bool.and_false]; rfl
  · rw [show (u == 8) = false from beq_eq_false_iff_ne.2 h]; rfl
theorem step_bad (i : Ins) (u : Int) (r : Rd) (h : r.bad = true) : (stepR i u r).2.bad = true := by
  unfold stepR
  cases (u == 8 && i.kind == 2 && !two i.op)
  · exact fld_bad i u r h
  · exact h
theorem steps_bad : ∀ (us : List Int) (i : Ins) (r : Rd), r.bad = true → (stepsR us i r).2.bad = true
  | [], _, _, h => h
  | u :: us, i, r, h => steps_bad us _ _ (step_bad i u r h)
theorem rf_steps : ∀ (us : List Int), (∀ u ∈ us, isU u) → ∀ i : Ins, (i.kind ≠ 2 ∨ 8 ∉ us) → Rf (stepsR us i) (fieldsO limT us i) id
  | [], _, i, _ => rf_ret i
  | u :: us, hu, i, hi => by
    intro r
    refine ⟨fun h => steps_bad _ i r h, fun l hl => ?_⟩
    have hs : stepR i u r = fldR i u r := stepR_fld (hi.imp id fun h e => h (by rw [e]; exact .head _)) r
    have h1 := (rf_fld i u (hu u (.head _)) r).2 l hl
    rw [show fieldsO limT (u :: us) i l = (match fieldO limT i u l with | none => none | some (i', l') => fieldsO limT us i' l') from rfl, show stepsR (u :: us) i r = stepsR us (stepR i u r).1 (stepR i u r).2 from rfl]
    rw [hs]
    cases hq : fieldO limT i u l with
    | none => rw [hq] at h1; exact steps_bad us _ _ h1
    | some p =>
      obtain ⟨b, l1⟩ := p
      rw [hq] at h1
      replace h1 : fldR i u r = (b, ⟨l1, false⟩) := h1
      rw [h1]
      have hk := field_kind (hu u (.head _)) hq
      exact (rf_steps us (fun v hv => hu v (.tail _ hv)) b (hi.imp (fun h => by rw [hk]; exact h) fun h e => h (.tail _ e)) ⟨l1, false⟩).2 l1 rfl
theorem kuse_isU {k : Nat} (hk : k ≤ 11) : ∀ u ∈ kuse (k : Int), isU u := by
  rcases kuse3_cases hk with rfl | rfl | rfl | rfl | rfl | rfl | rfl | rfl | rfl | rfl | rfl | rfl <;> simp [kuse, byK, kuses, isU]
theorem kuse3_isU {k : Nat} (hk : k ≤ 11) : ∀ u ∈ kuse3 (k : Int), isU u := by
  unfold kuse3
  split
  · simp [isU]
  · exact kuse_isU hk
def fieldsP (k : Nat) : PO Ins := fun l => match fieldsO limT (kuse3 k) { zeroI with kind := k } l with
  | none => none
  | some (i, l) => if i.kind = 2 ∧ two i.op = true then fieldO limT i 8 l else some (i, l)
theorem rf_fields {k : Nat} (hk : k ≤ 11) : Rf (fieldsR ⟨k, 0, 0, 0, 0, 0, 0, 0, 0⟩) (fieldsP k) id := by
  intro r
  refine ⟨fun h => steps_bad _ _ r h, fun l hl => ?_⟩
  by_cases h2 : k = 2
  · subst h2
    have h1 := (rf_steps [1, 2, 4] (by simp [isU]) ⟨2, 0, 0, 0, 0, 0, 0, 0, 0⟩ (.inr (by decide)) r).2 l hl
    rw [show fieldsP 2 l = (match fieldsO limT [1, 2, 4] ⟨2, 0, 0, 0, 0, 0, 0, 0, 0⟩ l with | none => none | some (i, l) => if i.kind = 2 ∧ two i.op = true then fieldO limT i 8 l else some (i, l)) from rfl, show fieldsR ⟨((2 : Nat) : Int), 0, 0, 0, 0, 0, 0, 0, 0⟩ r = stepR (stepsR [1, 2, 4] ⟨2, 0, 0, 0, 0, 0, 0, 0, 0⟩ r).1 8 (stepsR [1, 2, 4] ⟨2, 0, 0, 0, 0, 0, 0, 0, 0⟩ r).2 from rfl]
    cases hq : fieldsO limT [1, 2, 4] ⟨2, 0, 0, 0, 0, 0, 0, 0, 0⟩ l with
    | none => rw [hq] at h1; exact step_bad _ _ _ h1
    | some p =>
      obtain ⟨b, l1⟩ := p
      rw [hq] at h1
      replace h1 : stepsR [1, 2, 4] ⟨2, 0, 0, 0, 0, 0, 0, 0, 0⟩ r = (b, ⟨l1, false⟩) := h1
      rw [h1]
      have hb : b.kind = 2 := (fields_keep [1, 2, 4] (by simp [isU]) (i := ⟨2, 0, 0, 0, 0, 0, 0, 0, 0⟩) (by decide) hq).1
      simp only
      cases ht : two b.op
      · rw [if_neg (by simp)]
        unfold stepR
        rw [hb, ht]; rfl
      · rw [if_pos ⟨hb, rfl⟩]
        have : stepR b 8 ⟨l1, false⟩ = fldR b 8 ⟨l1, false⟩ := by unfold stepR; rw [ht, Bool.not_true, Bool.and_false]; rfl
        rw [this]
        exact (rf_fld b 8 (by decide) ⟨l1, false⟩).2 l1 rfl
  · have hk2 : ((k : Nat) : Int) ≠ 2 := by omega
    have h1 := (rf_steps (kuse k) (kuse_isU hk) ⟨k, 0, 0, 0, 0, 0, 0, 0, 0⟩ (.inl hk2) r).2 l hl
    have h3 : kuse3 (k : Int) = kuse k := by unfold kuse3; rw [if_neg hk2]
    unfold fieldsP
    rw [h3]
    rw [show ({ zeroI with kind := (k : Int) } : Ins) = ⟨k, 0, 0, 0, 0, 0, 0, 0, 0⟩ from rfl, show fieldsR ⟨(k : Int), 0, 0, 0, 0, 0, 0, 0, 0⟩ r = stepsR (kuse k) ⟨k, 0, 0, 0, 0, 0, 0, 0, 0⟩ r from rfl]
    cases hq : fieldsO limT (kuse k) ⟨k, 0, 0, 0, 0, 0, 0, 0, 0⟩ l with
    | none => rw [hq] at h1; exact h1
    | some p =>
      obtain ⟨b, l1⟩ := p
      rw [hq] at h1
      have hb : b.kind = (k : Int) := (fields_keep (kuse k) (kuse_isU hk) (i := ⟨k, 0, 0, 0, 0, 0, 0, 0, 0⟩) (show in64 0 by decide) hq).1
      simp only
      rw [if_neg (fun h => hk2 (hb ▸ h.1))]
      exact h1
theorem rf_ins : Rf insR (instrO limT) id := by
  intro r
  have hk := rf_small 11 r
  refine ⟨fun h => (rf_small 4096 _).1 (steps_bad _ _ _ (hk.1 h)), fun l hl => ?_⟩
  have h1 := hk.2 l hl
  have e : instrO limT l = match smallO 11 l with
    | none => none
    | some (k, l) => match fieldsP k l with
      | none => none
      | some (i, l) => match smallO 4096 l with
        | none => none
        | some (n, l) => some ({ i with from_ := n }, l) := by
    unfold instrO fieldsP
    cases smallO 11 l with
    | none => rfl
    | some p =>
      obtain ⟨k, l1⟩ := p
      simp only
      cases fieldsO limT (kuse3 k) { zeroI with kind := k } l1 <;> rfl
  rw [e]
  clear e
  cases hq : smallO 11 l with
  | none => rw [hq] at h1; exact (rf_small 4096 _).1 (steps_bad _ _ _ h1)
  | some p =>
    obtain ⟨k, l1⟩ := p
    rw [hq] at h1
    replace h1 : smallR (11 : Int) r = ((k : Int), ⟨l1, false⟩) := h1
    have hk := (smallO_inv hq).1
    have h2 := (rf_fields hk ⟨l1, false⟩).2 l1 rfl
    simp only
    unfold insR
    rw [h1]
    simp only
    cases hf : fieldsP k l1 with
    | none => rw [hf] at h2; exact (rf_small 4096 _).1 h2
    | some p =>
      obtain ⟨i, l2⟩ := p
      rw [hf] at h2
      replace h2 : fieldsR ⟨(k : Int), 0, 0, 0, 0, 0, 0, 0, 0⟩ ⟨l1, false⟩ = (i, ⟨l2, false⟩) := h2
      rw [h2]
      have h3 := (rf_small 4096 ⟨l2, false⟩).2 l2 rfl
      simp only
      cases hs : smallO 4096 l2 with
      | none => rw [hs] at h3; exact h3
      | some p =>
        obtain ⟨n, l3⟩ := p
        rw [hs] at h3
        replace h3 : smallR (4096 : Int) ⟨l2, false⟩ = ((n : Int), ⟨l3, false⟩) := h3
        simp only
        rw [h3]; rfl
theorem instr_word {L : Lim} {l r : List UInt8} {i : Ins} (h : instrO L l = some (i, r)) : in64 i.word := by
  obtain ⟨k, l1, l2, l3, i1, i2, n, hk, rfl, hf, hb, hn, rfl, rfl⟩ := instr_core h
  have h1 := (fields_keep _ (kuse3_isU hk) (i := { zeroI with kind := (k : Int) }) (show in64 0 by decide) hf).2
  show in64 i2.word
  split at hb
  · exact field_word (u := 8) (by decide) h1 hb
  · simp only [Option.some.injEq, Prod.mk.injEq] at hb
    obtain ⟨rfl, _⟩ := hb
    exact h1
theorem rf_core : Rf coreR (coreO fun _ => limT) id := by
  intro r
  have hn := rf_name r
  have hbad : ∀ x : Rd, x.bad = true → (codeR (smallR 16384 x).1.toNat (smallR 16384 x).2 []).2.bad = true := fun x hx => by
    have hb : (smallR (16384 : Int) x).2.bad = true := (rf_small 16384 x).1 hx
    rw [codeR_loop, loop_bad _ hb]; exact hb
  refine ⟨fun h => hbad _ (hn.1 h), fun l hl => ?_⟩
  have h1 := hn.2 l hl
  unfold coreO coreR
  cases hq : nameO l with
  | none => rw [hq] at h1; exact hbad _ h1
  | some p =>
    obtain ⟨s, l1⟩ := p
    rw [hq] at h1
    replace h1 : nameR r = (s, ⟨l1, false⟩) := h1
    rw [h1]
    have h2 := (rf_small 16384 ⟨l1, false⟩).2 l1 rfl
    simp only
    cases hs : smallO 16384 l1 with
    | none =>
      rw [hs] at h2
      replace h2 : (smallR (16384 : Int) ⟨l1, false⟩).2.bad = true := h2
      simp only
      rw [codeR_loop, loop_bad _ h2]; exact h2
    | some p =>
      obtain ⟨n, l2⟩ := p
      rw [hs] at h2
      replace h2 : smallR (16384 : Int) ⟨l1, false⟩ = ((n : Int), ⟨l2, false⟩) := h2
      rw [h2]
      have h3 := loop_ok rf_ins n l2 []
      simp only [Int.toNat_natCast]
      rw [codeR_loop]
      cases hr : repO (instrO limT) n l2 with
      | none => rw [hr] at h3; exact h3
      | some p =>
        obtain ⟨c, l3⟩ := p
        rw [hr] at h3
        replace h3 : loopR insR n ⟨l2, false⟩ [] = ([] ++ c, ⟨l3, false⟩) := h3
        rw [h3]; rfl
/-! objects -/
theorem rep_all {α : Type} {p : PO α} {P : α → Prop} (h : ∀ l a r, p l = some (a, r) → P a) : ∀ (n : Nat) (l : List UInt8) (x : List α) (r : List UInt8), repO p n l = some (x, r) → ∀ a ∈ x, P a
  | 0, l, x, r, h1 => by
    have h1 : some ([], l) = some (x, r) := h1
    simp only [Option.some.injEq, Prod.mk.injEq] at h1
    obtain ⟨rfl, rfl⟩ := h1
    intro a ha; cases ha
  | n + 1, l, x, r, h1 => by
    have h1 : (match p l with | none => none | some (a, l) => match repO p n l with | none => none | some (x, r) => some (a :: x, r)) = some (x, r) := h1
    split at h1
    · cases h1
    rename_i a l1 ha
    split at h1
    · cases h1
    rename_i x' r' hr
    simp only [Option.some.injEq, Prod.mk.injEq] at h1
    obtain ⟨rfl, rfl⟩ := h1
    intro b hb
    rcases List.mem_cons.1 hb with rfl | hb
    · exact h _ _ _ ha
    · exact rep_all h n _ _ _ hr b hb
theorem core_rng {L : Nat → Lim} {l r : List UInt8} {c : Cor} (h : coreO L l = some (c, r)) : ∀ i ∈ c.code, in64 i.word := by
  unfold coreO at h
  split at h
  · cases h
  split at h
  · cases h
  split at h
  · cases h
  rename_i cc l3 h3
  simp only [Option.some.injEq, Prod.mk.injEq] at h
  obtain ⟨rfl, _⟩ := h
  exact rep_all (fun l a r h => instr_word h) _ _ _ _ h3
theorem ob_rng {L : Nat → Nat → Lim} {l r : List UInt8} {o : Ob} (h : obO L l = some (o, r)) : Rng o := by
  unfold obO at h
  split at h
  case isFalse => cases h
  split at h
  · cases h
  split at h
  · cases h
  split at h
  · cases h
  split at h
  · cases h
  split at h
  · cases h
  rename_i m l5 h5
  split at h
  · cases h
  split at h
  · cases h
  rename_i cs l7 h7
  simp only [Option.some.injEq, Prod.mk.injEq] at h
  obtain ⟨rfl, _⟩ := h
  exact ⟨rep_all (fun l a r h => (wordO_inv h).1) _ _ _ _ h5, rep_all (fun l a r h => core_rng h) _ _ _ _ h7⟩
def limTT : Nat → Nat → Lim := fun _ _ => limT
theorem sm_bad (n : Nat) {r : Rd} (h : r.bad = true) : (smallR (n : Int) r).2.bad = true := (rf_small n r).1 h
theorem dec_bad3 (n : Int) (r : Rd) (h : r.bad = true) : ∀ acc, (coresR n.toNat r acc).2.bad = true := fun acc => by rw [coresR_loop, loop_bad _ h]; exact h
theorem dec_bad2 (m : Rd) (h : m.bad = true) : (coresR (smallR 8 m).1.toNat (smallR 8 m).2 []).2.bad = true := dec_bad3 _ _ (sm_bad 8 h) _
theorem dec_bad1 (n : Int) (r : Rd) (h : r.bad = true) : (coresR (smallR 8 (memR n.toNat r []).2).1.toNat (smallR 8 (memR n.toNat r []).2).2 []).2.bad = true := by
  refine dec_bad2 _ ?_
  rw [memR_loop, loop_bad _ h]; exact h
theorem dec_bad0 (r : Rd) (h : r.bad = true) : (coresR (smallR 8 (memR (smallR 4096 r).1.toNat (smallR 4096 r).2 []).2).1.toNat (smallR 8 (memR (smallR 4096 r).1.toNat (smallR 4096 r).2 []).2).2 []).2.bad = true := dec_bad1 _ _ (sm_bad 4096 h)
theorem rf_dec (l : List UInt8) : match obO limTT (magicL ++ l) with
    | none => (decH ⟨l, false⟩).2.bad = true
    | some (o, l') => decH ⟨l, false⟩ = (o, ⟨l', false⟩) := by
  unfold obO decH
  rw [if_pos (show List.take 4 (magicL ++ _) = magicL from rfl), show List.drop 4 (magicL ++ l) = l from rfl]
  have h1 := (rf_small 64 ⟨l, false⟩).2 l rfl
  cases q1 : smallO 64 l with
  | none => rw [q1] at h1; exact dec_bad0 _ (sm_bad 16 (sm_bad 16 h1))
  | some p =>
  obtain ⟨a, l1⟩ := p
  rw [q1] at h1
  replace h1 : smallR (64 : Int) ⟨l, false⟩ = ((a : Int), ⟨l1, false⟩) := h1
  simp only [h1]
  have h2 := (rf_small 16 ⟨l1, false⟩).2 l1 rfl
  cases q2 : smallO 16 l1 with
  | none => rw [q2] at h2; exact dec_bad0 _ (sm_bad 16 h2)
  | some p =>
  obtain ⟨b, l2⟩ := p
  rw [q2] at h2
  replace h2 : smallR (16 : Int) ⟨l1, false⟩ = ((b : Int), ⟨l2, false⟩) := h2
  simp only [h2]
  have h3 := (rf_small 16 ⟨l2, false⟩).2 l2 rfl
  cases q3 : smallO 16 l2 with
  | none => rw [q3] at h3; exact dec_bad0 _ h3
  | some p =>
  obtain ⟨c, l3⟩ := p
  rw [q3] at h3
  replace h3 : smallR (16 : Int) ⟨l2, false⟩ = ((c : Int), ⟨l3, false⟩) := h3
  simp only [h3]
  have h4 := (rf_small 4096 ⟨l3, false⟩).2 l3 rfl
  cases q4 : smallO 4096 l3 with
  | none => rw [q4] at h4; exact dec_bad1 _ _ h4
  | some p =>
  obtain ⟨n, l4⟩ := p
  rw [q4] at h4
  replace h4 : smallR (4096 : Int) ⟨l3, false⟩ = ((n : Int), ⟨l4, false⟩) := h4
  simp only [h4, Int.toNat_natCast]
  have h5 := loop_ok rf_word n l4 []
  rw [← memR_loop] at h5
  cases q5 : repO wordO n l4 with
  | none => rw [q5] at h5; exact dec_bad2 _ h5
  | some p =>
  obtain ⟨m, l5⟩ := p
  rw [q5] at h5
  replace h5 : memR n ⟨l4, false⟩ [] = (m, ⟨l5, false⟩) := h5
  simp only [h5]
  have h6 := (rf_small 8 ⟨l5, false⟩).2 l5 rfl
  cases q6 : smallO 8 l5 with
  | none => rw [q6] at h6; exact dec_bad3 _ _ h6 _
  | some p =>
  obtain ⟨k, l6⟩ := p
  rw [q6] at h6
  replace h6 : smallR (8 : Int) ⟨l5, false⟩ = ((k : Int), ⟨l6, false⟩) := h6
  simp only [h6, Int.toNat_natCast]
  have h7 := loop_ok rf_core k l6 []
  rw [← coresR_loop] at h7
  show match (match repO (coreO fun _ => limT) k l6 with | none => none | some (cs, l) => some ((⟨m, a, b, c, cs⟩ : Ob), l)) with
    | none => (coresR k ⟨l6, false⟩ []).2.bad = true
    | some (o, l') => ((⟨m, a, b, c, (coresR k ⟨l6, false⟩ []).1⟩ : Ob), (coresR k ⟨l6, false⟩ []).2) = (o, ⟨l', false⟩)
  cases q7 : repO (coreO fun _ => limT) k l6 with
  | none => rw [q7] at h7; exact h7
  | some p =>
  obtain ⟨cs, l7⟩ := p
  rw [q7] at h7
  replace h7 : coresR k ⟨l6, false⟩ [] = (cs, ⟨l7, false⟩) := h7
  simp only [h7]
theorem loop_data (s : ByteArray) : ∀ (n i : Nat) (r : List UInt8), s.size - i = n → ByteArray.toList.loop s i r = r.reverse ++ s.data.toList.drop i := by
  intro n
  induction n with
  | zero =>
    intro i r h
    unfold ByteArray.toList.loop
    rw [if_neg (by omega), List.drop_eq_nil_of_le (by have := dat_len s; omega), List.append_nil]
  | succ n ih =>
    intro i r h
    unfold ByteArray.toList.loop
    rw [if_pos (by omega), ih (i + 1) _ (by omega)]
    have hi : i < s.data.toList.length := by have := dat_len s; omega
    have hg : s.get! i = s.data.toList[i] := by
      show s.data[i]! = _
      rw [getElem!_pos s.data i (by have : s.data.size = s.size := rfl; omega)]
      simp
    rw [List.drop_eq_getElem_cons hi, List.reverse_cons, List.append_assoc, hg]; rfl
theorem toList_data (s : ByteArray) : s.toList = s.data.toList := by
  unfold ByteArray.toList
  rw [loop_data s (s.size - 0) 0 [] rfl]; simp
theorem decS_cases (l : List UInt8) : (∃ o, obO limTT l = some (o, []) ∧ (checkO o).1 = 0 ∧ decS l = (o, 0)) ∨ (decS l = (emptyO, 162) ∧ ∀ o, obO limTT l = some (o, []) → (checkO o).1 ≠ 0) := by
  by_cases hm : l.take 4 = magicL
  · have hl : l = magicL ++ l.drop 4 := by rw [← hm, List.take_append_drop]
    have hlen : 4 ≤ l.length := by
      have := congrArg List.length hm
      rw [List.length_take] at this
      simp only [magicL, List.length_cons, List.length_nil] at this; omega
    have hd : decS l = decF (decH ⟨l.drop 4, false⟩) := by
      unfold decS
      rw [hm, show decide ((l.length : Int) < 4) = false from decide_eq_false (by omega), show seq ⟨magicL.toArray⟩ ⟨#[115, 116, 105, 108]⟩ = true by unfold seq; rw [toList_data, toList_data]; rfl]
      rfl
    have hr := rf_dec (l.drop 4)
    rw [← hl] at hr
    rw [hd]
    cases hq : obO limTT l with
    | none =>
      rw [hq] at hr
      refine .inr ⟨?_, fun o h => by cases h⟩
      unfold decF
      rw [show (decH ⟨l.drop 4, false⟩).2.bad = true from hr, Bool.or_true, Bool.true_or]; rfl
    | some p =>
      obtain ⟨o, r⟩ := p
      rw [hq] at hr
      replace hr : decH ⟨l.drop 4, false⟩ = (o, ⟨r, false⟩) := hr
      rw [hr]
      by_cases hc : (checkO o).1 = 0
      · cases r with
        | nil =>
          refine .inl ⟨o, rfl, hc, ?_⟩
          unfold decF
          simp only [hc]; rfl
        | cons x r =>
          refine .inr ⟨?_, fun o' h => by simp at h⟩
          unfold decF
          simp only [hc]
          rw [show decide ((((x :: r).length : Nat) : Int) > 0) = true from decide_eq_true (by rw [List.length_cons]; omega), Bool.or_true]; rfl
      · refine .inr ⟨?_, fun o' h => ?_⟩
        · unfold decF
          simp only
          rw [show ((checkO o).1 != 0) = true by simpa using hc]; rfl
        · simp only [Option.some.injEq, Prod.mk.injEq] at h
          rw [← h.1]; exact hc
  · refine .inr ⟨?_, fun o h => ?_⟩
    · unfold decS
      have : (!seq ⟨(l.take 4).toArray⟩ ⟨#[115, 116, 105, 108]⟩) = true := by
        rw [Bool.not_eq_true']
        unfold seq
        rw [toList_data, toList_data, beq_eq_false_iff_ne]
        exact hm
      rw [this, Bool.or_true]; rfl
    · unfold obO at h
      rw [if_neg hm] at h; cases h
end Go.Proofs.YtffhoknkfohfgaaGreatDoor.am

namespace Go.Proofs.YtffhoknkfohfgaaGreatDoor.am
open Go Go.Proofs
def mkB (l : List UInt8) : ByteArray := ⟨l.toArray⟩
theorem mkB_data (l : List UInt8) : (mkB l).data.toList = l := by simp [mkB]
theorem ba_ext {a b : ByteArray} (h : a.data.toList = b.data.toList) : a = b := by
  obtain ⟨⟨a⟩⟩ := a
  obtain ⟨⟨b⟩⟩ := b
  have : a = b := h
  rw [this]
theorem mkB_of (a : ByteArray) : mkB a.data.toList = a := ba_ext (mkB_data _)
theorem mkB_inj {a b : List UInt8} (h : mkB a = mkB b) : a = b := by rw [← mkB_data a, h, mkB_data]
theorem mkB_size (l : List UInt8) : (mkB l).size = l.length := by show l.toArray.size = _; simp
theorem ib_at {c : UInt8} : ∀ (w r : List UInt8), c ∉ w → Lib.indexByte (w ++ c :: r) c = w.length
  | [], r, _ => by
    show (if (c == c) then (0 : Int) else _) = 0
    rw [if_pos (by simp)]
  | b :: w, r, h => by
    have hb : ¬ (b == c) = true := fun e => h (by rw [beq_iff_eq.1 e]; exact .head _)
    have ih := ib_at w r fun e => h (.tail _ e)
    show (if (b == c) then (0 : Int) else if Lib.indexByte (w ++ c :: r) c == -1 then -1 else Lib.indexByte (w ++ c :: r) c + 1) = _
    rw [if_neg hb, ih, if_neg (by rw [beq_iff_eq]; omega), List.length_cons]; omega
theorem ib_none {c : UInt8} : ∀ (w : List UInt8), c ∉ w → Lib.indexByte w c = -1
  | [], _ => rfl
  | b :: w, h => by
    have hb : ¬ (b == c) = true := fun e => h (by rw [beq_iff_eq.1 e]; exact .head _)
    have ih := ib_none w fun e => h (.tail _ e)
    show (if (b == c) then (0 : Int) else if Lib.indexByte w c == -1 then -1 else Lib.indexByte w c + 1) = _
    rw [if_neg hb, ih]; rfl
/-! words -/
def jn : List (List UInt8) → List UInt8
  | [] => []
  | [w] => w
  | w :: v :: r => w ++ 32 :: jn (v :: r)
theorem jn_join : ∀ ws : List (List UInt8), Lib.join ws [32] = jn ws
  | [] => rfl
  | [w] => Lib.join_one w [32]
  | w :: v :: r => by
    have ih := jn_join (v :: r)
    rw [Lib.join_cons] at ih
    rw [Lib.join_cons]
    show w ++ ((v :: r).map ([32] ++ ·)).flatten = w ++ 32 :: jn (v :: r)
    rw [← ih]
    simp [Lib.joinTail]
theorem sp_one {w : List UInt8} (h : 32 ∉ w) : Lib.split w [32] = [w] := by
  unfold Lib.split
  rw [Lib.count_one]
  have : w.count 32 = 0 := List.count_eq_zero.2 h
  rw [this]; rfl
theorem sp_cons {w r : List UInt8} (h : 32 ∉ w) : Lib.split (w ++ 32 :: r) [32] = w :: Lib.split r [32] := by
  unfold Lib.split
  rw [Lib.count_one, Lib.count_one]
  have : (w ++ 32 :: r).count 32 = r.count 32 + 1 := by
    rw [List.count_append, List.count_eq_zero.2 h, List.count_cons_self, Nat.zero_add]
  rw [this]
  show (if Lib.index (w ++ 32 :: r) [32] == -1 then _ else _) = _
  rw [Lib.index_one, ib_at w r h, if_neg (by rw [beq_iff_eq]; omega), Int.toNat_natCast, Nat.add_zero, List.take_append_of_le_length (Nat.le_refl _), List.take_of_length_le (Nat.le_refl _)]
  congr 1
  congr 1
  show (w ++ 32 :: r).drop (w.length + 1) = r
  rw [List.drop_append]
  simp
theorem sp_jn : ∀ ws : List (List UInt8), ws ≠ [] → (∀ w ∈ ws, 32 ∉ w) → Lib.split (jn ws) [32] = ws
  | [], h, _ => absurd rfl h
  | [w], _, h => sp_one (h w (.head _))
  | w :: v :: r, _, h => by
    show Lib.split (w ++ 32 :: jn (v :: r)) [32] = _
    rw [sp_cons (h w (.head _)), sp_jn (v :: r) (by simp) fun x hx => h x (.tail _ hx)]
theorem map_data_inj : ∀ {a b : List ByteArray}, a.map (·.data.toList) = b.map (·.data.toList) → a = b
  | [], [], _ => rfl
  | [], _ :: _, h => by simp at h
  | _ :: _, [], h => by simp at h
  | x :: a, y :: b, h => by
    simp only [List.map_cons, List.cons.injEq] at h
    rw [ba_ext h.1, map_data_inj h.2]
theorem split_jn {ws : List (List UInt8)} (h0 : ws ≠ []) (h : ∀ w ∈ ws, 32 ∉ w) : splitBl (mkB (jn ws)) = ws.map mkB := by
  apply map_data_inj
  rw [splitBl_lists, mkB_data, sp_jn ws h0 h, List.map_map]
  simp [Function.comp_def, mkB_data]
theorem cutAt (c : UInt8) : ∀ l : List UInt8, c ∉ l ∨ ∃ w r, c ∉ w ∧ l = w ++ c :: r
  | [] => .inl (by simp)
  | b :: l => by
    by_cases hb : b = c
    · exact .inr ⟨[], l, by simp, by rw [hb]; rfl⟩
    · rcases cutAt c l with h | ⟨w, r, h1, h2⟩
      · exact .inl (by simp only [List.mem_cons, not_or]; exact ⟨fun e => hb e.symm, h⟩)
      · exact .inr ⟨b :: w, r, by simp only [List.mem_cons, not_or]; exact ⟨fun e => hb e.symm, h1⟩, by rw [h2]; rfl⟩
theorem words_ex : ∀ (n : Nat) (l : List UInt8), l.length ≤ n → ∃ ws, ws ≠ [] ∧ (∀ w ∈ ws, 32 ∉ w) ∧ l = jn ws
  | n, l, hn => by
    rcases cutAt 32 l with h | ⟨w, r, h1, h2⟩
    · exact ⟨[l], by simp, fun w hw => by simp at hw; rw [hw]; exact h, rfl⟩
    · cases n with
      | zero => rw [h2] at hn; simp at hn
      | succ n =>
        obtain ⟨ws, e1, e2, e3⟩ := words_ex n r (by rw [h2] at hn; simp at hn; omega)
        cases ws with
        | nil => exact absurd rfl e1
        | cons v ws =>
          refine ⟨w :: v :: ws, by simp, fun x hx => ?_, ?_⟩
          · rcases List.mem_cons.1 hx with rfl | hx
            · exact h1
            · exact e2 x hx
          · rw [h2, e3]; rfl
/-! lines -/
def unl (ls : List (List UInt8)) : List UInt8 := ls.flatMap (· ++ [10])
theorem lines_ex : ∀ (n : Nat) (l : List UInt8), l.length ≤ n → ∃ ls tl, (∀ x ∈ ls, 10 ∉ x) ∧ 10 ∉ tl ∧ l = unl ls ++ tl
  | n, l, hn => by
    rcases cutAt 10 l with h | ⟨w, r, h1, h2⟩
    · exact ⟨[], l, by simp, h, rfl⟩
    · cases n with
      | zero => rw [h2] at hn; simp at hn
      | succ n =>
        obtain ⟨ls, tl, e1, e2, e3⟩ := lines_ex n r (by rw [h2] at hn; simp at hn; omega)
        refine ⟨w :: ls, tl, fun x hx => ?_, e2, ?_⟩
        · rcases List.mem_cons.1 hx with rfl | hx
          · exact h1
          · exact e1 x hx
        · rw [h2, e3]; simp [unl]
theorem ext_data (s : ByteArray) (a b : Nat) : (s.extract a b).data.toList = (s.data.toList.take b).drop a := by
  rw [ByteArray.data_extract, Array.toList_extract]
  simp [List.extract, List.drop_take]
theorem ext_end (s : ByteArray) (a : Nat) : (s.extract a s.size).data.toList = s.data.toList.drop a := by
  rw [ext_data, List.take_of_length_le (by have := dat_len s; omega)]
theorem lnl_at {s : ByteArray} {at_ : Nat} {w r : List UInt8} (h : s.data.toList.drop at_ = w ++ 10 :: r) (hw : 10 ∉ w) : lnl s at_ = (w.length : Int) := by
  unfold lnl idxB
  rw [ext_end, h]
  exact ib_at w r hw
theorem lnl_no {s : ByteArray} {at_ : Nat} (h : 10 ∉ s.data.toList.drop at_) : lnl s at_ = -1 := by
  unfold lnl idxB
  rw [ext_end]
  exact ib_none _ h
theorem line_at {s : ByteArray} {at_ : Nat} {w r : List UInt8} (h : s.data.toList.drop at_ = w ++ 10 :: r) : s.extract at_ (at_ + w.length) = mkB w := by
  apply ba_ext
  rw [ext_data, mkB_data, ← List.take_drop, h, List.take_append_of_le_length (Nat.le_refl _), List.take_of_length_le (Nat.le_refl _)]
theorem next_at {s : ByteArray} {at_ : Nat} {w r : List UInt8} (h : s.data.toList.drop at_ = w ++ 10 :: r) : s.data.toList.drop (at_ + w.length + 1) = r := by
  rw [Nat.add_assoc, ← List.drop_drop, h, List.drop_append]
  simp
theorem drop_lt {s : ByteArray} {at_ : Nat} {b : UInt8} {r : List UInt8} (h : s.data.toList.drop at_ = b :: r) : at_ < s.size := by
  have h1 := congrArg List.length h
  have := dat_len s
  rw [List.length_drop, List.length_cons] at h1; omega
/-- the lines behind the second -/
def runC : List (List UInt8) → List Cor → Option (List Cor)
  | [], cs => some cs
  | l :: ls, cs => match furtherS cs (mkB l) with
    | none => none
    | some cs' => runC ls cs'
theorem unl_cons (l : List UInt8) (ls : List (List UInt8)) (tl : List UInt8) : unl (l :: ls) ++ tl = l ++ 10 :: (unl ls ++ tl) := by simp [unl]
theorem parseG_run (s : ByteArray) : ∀ (ls : List (List UInt8)) (tl : List UInt8) (at_ : Nat) (cs : List Cor), (∀ x ∈ ls, 10 ∉ x) → 10 ∉ tl → at_ ≤ s.size → s.data.toList.drop at_ = unl ls ++ tl →
    (tl = [] ∧ ∃ cs', runC ls cs = some cs' ∧ parseG s (s.size - at_) at_ cs = (cs', none)) ∨ ((tl ≠ [] ∨ runC ls cs = none) ∧ ∃ p : Nat, p ≤ s.size ∧ parseG s (s.size - at_) at_ cs = ([], some p))
  | [], tl, at_, cs, _, htl, hat, hd => by
    have hd : s.data.toList.drop at_ = tl := hd
    cases tl with
    | nil =>
      have hge : s.size ≤ at_ := by have := congrArg List.length hd; have := dat_len s; rw [List.length_drop] at *; simp at *; omega
      exact .inl ⟨rfl, cs, rfl, parseG_end hge _⟩
    | cons b tl =>
      have hlt := drop_lt hd
      refine .inr ⟨.inl (by simp), at_, hat, ?_⟩
      rw [parseG_at hlt, lnl_no (by rw [hd]; exact htl)]; rfl
  | l :: ls, tl, at_, cs, hls, htl, hat, hd => by
    rw [unl_cons] at hd
    have hl := hls l (.head _)
    have hlt : at_ < s.size := by
      cases l with
      | nil => exact drop_lt hd
      | cons b l => exact drop_lt hd
    have hn := next_at hd
    have hlen := congrArg List.length hd
    have hdl := dat_len s
    rw [List.length_drop, List.length_append, List.length_cons] at hlen
    rw [parseG_at hlt, lnl_at hd hl, show decide ((l.length : Int) < 0) = false from decide_eq_false (by omega), Int.toNat_natCast, line_at hd]
    show (_ ∧ ∃ cs', runC (l :: ls) cs = some cs' ∧ (match furtherS cs (mkB l) with | none => ([], some at_) | some cs' => parseG s (s.size - at_ - 1) (at_ + l.length + 1) cs') = _) ∨ (_ ∧ ∃ p : Nat, _ ∧ (match furtherS cs (mkB l) with | none => ([], some at_) | some cs' => parseG s (s.size - at_ - 1) (at_ + l.length + 1) cs') = _)
    have hr : runC (l :: ls) cs = match furtherS cs (mkB l) with | none => none | some cs' => runC ls cs' := rfl
    rw [hr]
    cases hf : furtherS cs (mkB l) with
    | none => exact .inr ⟨.inr rfl, at_, hat, rfl⟩
    | some cs' =>
      have := parseG_run s ls tl (at_ + l.length + 1) cs' (fun x hx => hls x (.tail _ hx)) htl (by omega) hn
      simp only
      rw [parseG_fuel s (s.size - at_ - 1) (s.size - (at_ + l.length + 1)) _ _ (by omega) (by omega)]
      exact this
/-- what a text comes to, by its lines -/
def runP : List (List UInt8) → Option Ob
  | h :: m :: ls => match headL (splitBl (mkB h)), memL (splitBl (mkB m)), runC ls [] with
    | some (a, b, c), some mem, some cs => some ⟨mem, a, b, c, cs⟩
    | _, _, _ => none
  | _ => none
theorem parse_lines {s : ByteArray} {ls : List (List UInt8)} {tl : List UInt8} (hs : s.data.toList = unl ls ++ tl) (hls : ∀ x ∈ ls, 10 ∉ x) (htl : 10 ∉ tl) (hsz : s.size ≤ 16777216) :
    (tl = [] ∧ ∃ o, runP ls = some o ∧ parseS s = doneP o) ∨ ((tl ≠ [] ∨ runP ls = none) ∧ ∃ p : Nat, p ≤ s.size ∧ parseS s = (emptyO, 161, (p : Int))) := by
  have hpS : parseS s = parseH s := by unfold parseS; rw [show decide ((s.size : Int) > 16777216) = false from decide_eq_false (by omega)]; rfl
  rw [hpS]
  unfold parseH
  cases ls with
  | nil =>
    have hd : s.data.toList.drop 0 = tl := hs
    refine .inr ⟨.inr rfl, 0, Nat.zero_le _, ?_⟩
    rw [lnl_no (by rw [hd]; exact htl)]; rfl
  | cons h ls =>
    have hd : s.data.toList.drop 0 = h ++ 10 :: (unl ls ++ tl) := by rw [List.drop_zero, hs, unl_cons]
    have hn := next_at hd
    rw [lnl_at hd (hls h (.head _)), show decide ((h.length : Int) < 0) = false from decide_eq_false (by omega), Int.toNat_natCast, line_at hd]
    simp only [cond_false]
    have hlen := congrArg List.length hd
    have hdl := dat_len s
    rw [List.drop_zero, List.length_append, List.length_cons] at hlen
    generalize hA : 0 + h.length + 1 = A at hn ⊢
    cases hh : headL (splitBl (mkB h)) with
    | none => exact .inr ⟨.inr (by cases ls <;> simp [runP, hh]), 0, Nat.zero_le _, rfl⟩
    | some v =>
      obtain ⟨a, b, c⟩ := v
      simp only
      unfold parseM
      cases ls with
      | nil =>
        have hn : s.data.toList.drop A = tl := hn
        refine .inr ⟨.inr rfl, A, by omega, ?_⟩
        rw [lnl_no (by rw [hn]; exact htl)]; rfl
      | cons m ls =>
        rw [unl_cons] at hn
        have hn2 := next_at hn
        have hlen2 := congrArg List.length hn
        rw [List.length_drop, List.length_append, List.length_cons] at hlen2
        rw [lnl_at hn (hls m (.tail _ (.head _))), show decide ((m.length : Int) < 0) = false from decide_eq_false (by omega), Int.toNat_natCast, line_at hn]
        simp only [cond_false]
        cases hm : memL (splitBl (mkB m)) with
        | none => exact .inr ⟨.inr (by simp [runP, hh, hm]), A, by omega, rfl⟩
        | some mem =>
          simp only
          rcases parseG_run s ls tl (A + m.length + 1) [] (fun x hx => hls x (.tail _ (.tail _ hx))) htl (by omega) hn2 with ⟨e1, cs, e2, e3⟩ | ⟨e1, p, e2, e3⟩
          · exact .inl ⟨e1, ⟨mem, a, b, c, cs⟩, by simp [runP, hh, hm, e2], by rw [e3]; rfl⟩
          · refine .inr ⟨e1.imp id fun e => by simp [runP, hh, hm, e], p, e2, by rw [e3]; rfl⟩
/-- a text that ends within a line is none -/
theorem parse_within {s : ByteArray} (hsz : s.size ≤ 16777216) (h : s.data.toList = [] ∨ ∃ r b, s.data.toList = r ++ [b] ∧ b ≠ 10) : ∃ p : Nat, p ≤ s.size ∧ parseS s = (emptyO, 161, (p : Int)) := by
  obtain ⟨ls, tl, h1, h2, h3⟩ := lines_ex _ s.data.toList (Nat.le_refl _)
  rcases parse_lines h3 h1 h2 hsz with ⟨e1, o, e2, _⟩ | ⟨_, e⟩
  · exfalso
    subst e1
    rw [List.append_nil] at h3
    rcases h with h | ⟨r, b, h, hb⟩
    · rw [h] at h3
      cases ls with
      | nil => simp [runP] at e2
      | cons x ls => simp [unl] at h3
    · rw [h] at h3
      have hls : ls ≠ [] := fun e => by rw [e] at h3; simp [unl] at h3
      obtain ⟨x, hx⟩ : ∃ x, x = ls.getLast hls := ⟨_, rfl⟩
      have hl := List.dropLast_concat_getLast hls
      rw [← hx] at hl
      rw [← hl] at h3
      have : unl (ls.dropLast ++ [x]) = (unl ls.dropLast ++ x) ++ [10] := by simp [unl]
      rw [this] at h3
      have := congrArg List.getLast? h3
      simp at this
      exact hb this
  · exact e
end Go.Proofs.YtffhoknkfohfgaaGreatDoor.am

namespace Go.Proofs.YtffhoknkfohfgaaGreatDoor.am
open Go Go.Proofs
/-! numbers -/
theorem prn_data (n : Int) : (prnB n).data.toList = ws.prn n := by simp [prnB]
theorem prs_back' (s : ByteArray) (h : (prsB s).2.1 = 0) : s = prnB (prsB s).1 ∧ in64 (prsB s).1 := by
  unfold prsB at h ⊢
  rcases ws.prs_back s.data.toList with ⟨p, hp, _⟩ | ⟨v, hv, e, h1, h2⟩
  · rw [hp] at h; cases h
  · rw [hv]
    exact ⟨ba_ext (by rw [prn_data]; exact e.symm), h1, h2⟩
theorem prs_prnB {w : Int} (h : in64 w) : prsB (prnB w) = (w, 0, 0) := by
  unfold prsB
  rw [prn_data]
  exact ws.prs_prn h.1 h.2
theorem num_back {s : ByteArray} (h : (numS s).2 = true) : s = prnB (numS s).1 ∧ 0 ≤ (numS s).1 := by
  unfold numS at h ⊢
  simp only [Bool.and_eq_true, beq_iff_eq, decide_eq_true_eq] at h
  exact ⟨(prs_back' s h.1).1, h.2⟩
theorem num_prn {n : Int} (h0 : 0 ≤ n) (h1 : n ≤ 9223372036854775807) : numS (prnB n) = (n, true) := by
  unfold numS
  rw [prs_prnB ⟨by omega, h1⟩]
  simp [h0]
theorem pref_cons {s : ByteArray} {c : UInt8} (h : prefB s ⟨#[c]⟩ = true) : s.data.toList = c :: (tlS s).data.toList := by
  unfold prefB Lib.hasPrefix at h
  have e : (tlS s).data.toList = s.data.toList.drop 1 := by unfold tlS; rw [ext_end]
  rw [e]
  cases hl : s.data.toList with
  | nil => rw [hl] at h; simp at h
  | cons b l =>
    rw [hl] at h
    have : c = b := by simpa using h
    rw [this]; rfl
theorem tl_cons (c : UInt8) (s : ByteArray) : prefB (⟨#[c]⟩ ++ s) ⟨#[c]⟩ = true ∧ tlS (⟨#[c]⟩ ++ s) = s := by
  have e : ((⟨#[c]⟩ : ByteArray) ++ s).data.toList = c :: s.data.toList := by simp
  refine ⟨?_, ba_ext ?_⟩
  · unfold prefB Lib.hasPrefix
    rw [e]; simp
  · unfold tlS
    rw [ext_end, e]; rfl
theorem cons_back {s t : ByteArray} {c : UInt8} (h : s.data.toList = c :: t.data.toList) : s = ⟨#[c]⟩ ++ t := ba_ext (by rw [h]; simp)
/-! fields -/
theorem fieldS_or (i : Ins) (u : Int) (s : ByteArray) : (fieldS i u s).1 = i ∨ ∃ n, (fieldS i u s).1 = setF i u n := by
  unfold fieldS
  cases (u == 2 || u == 4 || u == 8)
  · simp only [cond_false]
    cases (u == 16 || u == 32)
    · simp only [cond_false]
      cases u == 64
      · exact .inl rfl
      · exact .inr ⟨_, rfl⟩
    · exact .inr ⟨_, rfl⟩
  · simp only [cond_true]
    cases prefB s rS
    · exact .inl rfl
    · exact .inr ⟨_, rfl⟩
theorem setF_frame {i : Ins} {u v n : Int} (hu : isU u) (hv : isU v) (hne : u ≠ v) : fieldW (setF i u n) v = fieldW i v ∧ (setF i u n).kind = i.kind ∧ (setF i u n).op = i.op ∧ (setF i u n).from_ = i.from_ := by
  rcases hu with rfl | rfl | rfl | rfl | rfl | rfl | rfl | rfl <;> refine ⟨?_, rfl, rfl, rfl⟩ <;> rcases hv with rfl | rfl | rfl | rfl | rfl | rfl | rfl | rfl <;> first | rfl | exact absurd rfl hne
theorem setF_keep {i : Ins} {u n : Int} (hu : isU u) : (setF i u n).kind = i.kind ∧ (setF i u n).op = i.op ∧ (setF i u n).from_ = i.from_ := by
  rcases hu with rfl | rfl | rfl | rfl | rfl | rfl | rfl | rfl <;> exact ⟨rfl, rfl, rfl⟩
theorem fieldS_frame {i : Ins} {u v : Int} {s : ByteArray} (hu : isU u) (hv : isU v) (hne : u ≠ v) : fieldW (fieldS i u s).1 v = fieldW i v := by
  rcases fieldS_or i u s with h | ⟨n, h⟩ <;> rw [h]
  exact (setF_frame hu hv hne).1
theorem fieldS_keep {i : Ins} {u : Int} {s : ByteArray} (hu : isU u) : (fieldS i u s).1.kind = i.kind ∧ (fieldS i u s).1.op = i.op ∧ (fieldS i u s).1.from_ = i.from_ := by
  rcases fieldS_or i u s with h | ⟨n, h⟩ <;> rw [h]
  · exact ⟨rfl, rfl, rfl⟩
  · exact setF_keep hu
theorem reg_back {i : Ins} {u : Int} {s : ByteArray} (hu : u = 2 ∨ u = 4 ∨ u = 8) (h : (fieldS i u s).2 = true) : fieldS i u s = (setF i u (numS (tlS s)).1, true) ∧ s = regB (numS (tlS s)).1 := by
  have e : fieldS i u s = bif prefB s rS then (setF i u (numS (tlS s)).1, (numS (tlS s)).2) else (i, false) := by rcases hu with rfl | rfl | rfl <;> rfl
  rw [e] at h ⊢
  cases hp : prefB s rS
  · rw [hp] at h; cases h
  · rw [hp] at h
    have h : (numS (tlS s)).2 = true := h
    rw [cond_true, h]
    exact ⟨rfl, (cons_back (pref_cons hp)).trans (by rw [regB, ← (num_back h).1])⟩
theorem field_back {i : Ins} {u : Int} {s : ByteArray} (hu : isU u) (h0 : u ≠ 0) (h1 : u ≠ 1) (h : (fieldS i u s).2 = true) : fieldW (fieldS i u s).1 u = some s := by
  rcases hu with rfl | rfl | rfl | rfl | rfl | rfl | rfl | rfl
  · exact absurd rfl h0
  · exact absurd rfl h1
  · obtain ⟨e1, e2⟩ := reg_back (.inl rfl) h; rw [e1]; exact congrArg some e2.symm
  · obtain ⟨e1, e2⟩ := reg_back (.inr (.inl rfl)) h; rw [e1]; exact congrArg some e2.symm
  · obtain ⟨e1, e2⟩ := reg_back (.inr (.inr rfl)) h; rw [e1]; exact congrArg some e2.symm
  · exact congrArg some (num_back (s := s) h).1.symm
  · exact congrArg some (num_back (s := s) h).1.symm
  · have h : ((prsB s).2.1 == 0) = true := h
    exact congrArg some (prs_back' s (by simpa using h)).1.symm
def ndp : List Int → Prop
  | [] => True
  | u :: us => (u = 0 ∨ u ∉ us) ∧ ndp us
theorem band0 (all : Int) : band 0 all = 0 := by
  show IntKind.u8.wrap ((0#8 &&& BitVec.ofInt 8 all).toNat : Int) = 0
  rw [BitVec.zero_and]; rfl
theorem fieldsG_cons (all u : Int) (us : List Int) (i : Ins) (l : List ByteArray) : fieldsG all (u :: us) i l = bif band u all == 0 || u == 1 then fieldsG all us i l else match l with
    | [] => (i, false)
    | s :: l' => bif !(fieldS i u s).2 then ((fieldS i u s).1, false) else fieldsG all us (fieldS i u s).1 l' := rfl
def skip (all u : Int) : Bool := band u all == 0 || u == 1
theorem fieldsG_back {all : Int} : ∀ {us : List Int} {i j : Ins} {l : List ByteArray}, (∀ u ∈ us, isU u) → ndp us → fieldsG all us i l = (j, true) →
    l = us.filterMap (fun u => bif skip all u then none else fieldW j u) ∧ (j.kind = i.kind ∧ j.op = i.op ∧ j.from_ = i.from_) ∧ ∀ v, isU v → v ∉ us → fieldW j v = fieldW i v
  | [], i, j, l, _, _, h => by
    have h : (i, (l.length : Int) == 0) = (j, true) := h
    simp only [Prod.mk.injEq, beq_iff_eq] at h
    obtain ⟨rfl, h2⟩ := h
    exact ⟨List.eq_nil_of_length_eq_zero (by omega), ⟨rfl, rfl, rfl⟩, fun _ _ _ => rfl⟩
  | u :: us, i, j, l, hu, hn, h => by
    cases hs : skip all u
    · have hs2 : (band u all == 0 || u == 1) = false := hs
      rw [fieldsG_cons] at h
      rw [hs2, cond_false] at h
      cases l with
      | nil => cases h
      | cons s l =>
        replace h : (bif !(fieldS i u s).2 then ((fieldS i u s).1, false) else fieldsG all us (fieldS i u s).1 l) = (j, true) := h
        cases hf : (fieldS i u s).2
        · rw [hf] at h; simp at h
        · rw [hf] at h
          have h : fieldsG all us (fieldS i u s).1 l = (j, true) := h
          have hu0 := hu u (.head _)
          have h0 : u ≠ 0 := fun e => by rw [e, show (band 0 all == 0) = true by rw [band0]; rfl] at hs2; simp at hs2
          have h1 : u ≠ 1 := fun e => by rw [e, Bool.or_eq_false_iff] at hs2; exact absurd hs2.2 (by decide)
          have hnu : u ∉ us := hn.1.resolve_left h0
          obtain ⟨e1, e2, e3⟩ := fieldsG_back (fun v hv => hu v (.tail _ hv)) hn.2 h
          have ek := fieldS_keep (i := i) (s := s) hu0
          refine ⟨?_, ⟨e2.1.trans ek.1, e2.2.1.trans ek.2.1, e2.2.2.trans ek.2.2⟩, fun v hv hvn => ?_⟩
          · rw [List.filterMap_cons, hs]
            rw [cond_false, e3 u hu0 hnu, field_back hu0 h0 h1 hf, ← e1]
          · rw [e3 v hv fun hm => hvn (.tail _ hm)]
            exact fieldS_frame hu0 hv fun e => hvn (e ▸ .head _)
    · rw [fieldsG_skip (show (band u all == 0 || u == 1) = true from hs)] at h
      obtain ⟨e1, e2, e3⟩ := fieldsG_back (fun v hv => hu v (.tail _ hv)) hn.2 h
      refine ⟨?_, e2, fun v hv hvn => e3 v hv fun hm => hvn (.tail _ hm)⟩
      rw [List.filterMap_cons, hs]
      exact e1
theorem seq_ba {a b : ByteArray} : seq a b = true ↔ a = b := by
  unfold seq
  rw [beq_iff_eq, toList_data, toList_data]
  exact ⟨ba_ext, fun h => by rw [h]⟩
theorem opG_back {s : ByteArray} : ∀ (n : Nat) (op : Int), (opG s n op).2.2 = true → (opG s n op).1 = 2 ∧ opword (opG s n op).2.1 = s ∧ op ≤ (opG s n op).2.1 ∧ (opG s n op).2.1 < op + n
  | 0, _, h => by cases h
  | n + 1, op, h => by
    unfold opG at h ⊢
    cases hb : seq (opword op) s <;> rw [hb] at h
    · obtain ⟨e1, e2, e3, e4⟩ := opG_back n _ h
      exact ⟨e1, e2, by simp only [cond_false]; omega, by simp only [cond_false]; omega⟩
    · exact ⟨rfl, seq_ba.1 hb, Int.le_refl _, by simp only [cond_true]; omega⟩
theorem kindG_back {s : ByteArray} : ∀ (n : Nat) (k : Int), 1 ≤ k → k + n ≤ 11 → (kindG s n k).2.2 = true →
    ((kindG s n k).2.1 = 0 ∧ kword (kindG s n k).1 = s ∧ s ≠ ⟨#[]⟩ ∧ 1 ≤ (kindG s n k).1 ∧ (kindG s n k).1 < 11) ∨ ((kindG s n k).1 = 2 ∧ opword (kindG s n k).2.1 = s ∧ 1 ≤ (kindG s n k).2.1 ∧ (kindG s n k).2.1 ≤ 18)
  | 0, _, _, _, h => by
    obtain ⟨e1, e2, e3, e4⟩ := opG_back (s := s) 18 1 h
    exact .inr ⟨e1, e2, e3, by show (opG s 18 1).2.1 ≤ 18; omega⟩
  | n + 1, k, h1, h2, h => by
    unfold kindG at h ⊢
    cases hb : (seq (kword k) s && !seq s ⟨#[]⟩) <;> rw [hb] at h
    · exact kindG_back n _ (by omega) (by omega) h
    · simp only [Bool.and_eq_true, Bool.not_eq_true'] at hb
      refine .inl ⟨rfl, seq_ba.1 hb.1, fun e => ?_, h1, by simp only [cond_true]; omega⟩
      have := seq_ba.2 e
      rw [hb.2] at this; cases this
theorem kuse_nd {k : Int} (hk : 1 ≤ k ∧ k < 11) : ndp (kuse k) ∧ ∀ u ∈ kuse k, isU u := by
  have hc : k = 1 ∨ k = 2 ∨ k = 3 ∨ k = 4 ∨ k = 5 ∨ k = 6 ∨ k = 7 ∨ k = 8 ∨ k = 9 ∨ k = 10 := by omega
  rcases hc with rfl | rfl | rfl | rfl | rfl | rfl | rfl | rfl | rfl | rfl <;> exact ⟨by simp [ndp, kuse, byK, kuses], by simp [kuse, byK, kuses, isU]⟩
theorem kword_ne {k : Int} (hk : 1 ≤ k ∧ k < 11) (h2 : k ≠ 2) : seq (kword k) ⟨#[]⟩ = false := by
  have hc : k = 1 ∨ k = 3 ∨ k = 4 ∨ k = 5 ∨ k = 6 ∨ k = 7 ∨ k = 8 ∨ k = 9 ∨ k = 10 := by omega
  rcases hc with rfl | rfl | rfl | rfl | rfl | rfl | rfl | rfl | rfl <;> exact Bool.eq_false_iff.2 fun h => absurd (seq_ba.1 h) (by decide)
theorem fm_congr {α β : Type} {f g : α → Option β} : ∀ {l : List α}, (∀ x ∈ l, f x = g x) → l.filterMap f = l.filterMap g
  | [], _ => rfl
  | a :: l, h => by rw [List.filterMap_cons, List.filterMap_cons, h a (.head _), fm_congr fun x hx => h x (.tail _ hx)]
theorem two_words {j : Ins} (h2 : j.kind = 2) : opword j.op :: (kuse 2).filterMap (fun u => bif skip (usedM 2 j.op) u then none else fieldW j u) = fieldsW j := by
  unfold fieldsW
  rw [h2]
  have k2 : kuse 2 = [1, 2, 4, 8] := rfl
  rw [k2]
  cases ht : two j.op
  · have e : usedM 2 j.op = 7 := by unfold usedM; rw [ht]; rfl
    rw [e, List.filterMap_cons, List.filterMap_cons, List.filterMap_cons, List.filterMap_cons, List.filterMap_nil, show skip 7 1 = true from by decide, show skip 7 2 = false from by decide, show skip 7 4 = false from by decide, show skip 7 8 = true from by decide]
    rfl
  · have e : usedM 2 j.op = 15 := by unfold usedM; rw [ht]; rfl
    rw [e, List.filterMap_cons, List.filterMap_cons, List.filterMap_cons, List.filterMap_cons, List.filterMap_nil, show skip 15 1 = true from by decide, show skip 15 2 = false from by decide, show skip 15 4 = false from by decide, show skip 15 8 = false from by decide]
    rfl
theorem usedM_ne {k op : Int} (h2 : k ≠ 2) : usedM k op = kmask k := by
  unfold usedM
  rw [show (k == 2) = false from beq_eq_false_iff_ne.2 h2]; rfl
theorem skips {k : Int} (hk : 1 ≤ k ∧ k < 11) (h2 : k ≠ 2) : ∀ u ∈ kuse k, skip (kmask k) u = true → u = 0 := by
  have hc : k = 1 ∨ k = 3 ∨ k = 4 ∨ k = 5 ∨ k = 6 ∨ k = 7 ∨ k = 8 ∨ k = 9 ∨ k = 10 := by omega
  rcases hc with rfl | rfl | rfl | rfl | rfl | rfl | rfl | rfl | rfl <;> decide
theorem used_words {j : Ins} (hk : 1 ≤ j.kind ∧ j.kind < 11) (h2 : j.kind ≠ 2) : (kuse j.kind).filterMap (fun u => bif skip (usedM j.kind j.op) u then none else fieldW j u) = fieldsW j := by
  rw [usedM_ne h2]
  unfold fieldsW
  rw [show (j.kind == 2) = false from beq_eq_false_iff_ne.2 h2, Bool.false_and, cond_false]
  refine fm_congr fun u hu => ?_
  cases hs : skip (kmask j.kind) u
  · rfl
  · rw [skips hk h2 u hu hs]; rfl
/-- what is read is written so, but for where it comes from -/
theorem instrG_back {i j : Ins} {l : List ByteArray} (h : instrG i l = (j, true)) : l = (bif seq (kword j.kind) ⟨#[]⟩ then [] else [kword j.kind]) ++ fieldsW j ∧ j.from_ = i.from_ := by
  cases l with
  | nil => cases h
  | cons w r =>
    have h : (bif !(kindS w).2.2 then ({ i with kind := (kindS w).1, op := (kindS w).2.1 }, false) else fieldsG (usedM (kindS w).1 (kindS w).2.1) (kuse (kindS w).1) { i with kind := (kindS w).1, op := (kindS w).2.1 } r) = (j, true) := h
    cases hk : (kindS w).2.2
    · rw [hk] at h; simp at h
    · rw [hk] at h
      have h : fieldsG (usedM (kindS w).1 (kindS w).2.1) (kuse (kindS w).1) { i with kind := (kindS w).1, op := (kindS w).2.1 } r = (j, true) := h
      have hok := kindS_ok hk
      have hb : ((kindS w).2.1 = 0 ∧ kword (kindS w).1 = w ∧ w ≠ ⟨#[]⟩ ∧ 1 ≤ (kindS w).1 ∧ (kindS w).1 < 11) ∨ ((kindS w).1 = 2 ∧ opword (kindS w).2.1 = w ∧ 1 ≤ (kindS w).2.1 ∧ (kindS w).2.1 ≤ 18) := kindG_back 10 1 (by decide) (by decide) hk
      obtain ⟨hnd, hu⟩ := kuse_nd hok
      obtain ⟨e1, ⟨e2, e3, e4⟩, _⟩ := fieldsG_back hu hnd h
      refine ⟨?_, e4⟩
      change j.kind = (kindS w).1 at e2
      change j.op = (kindS w).2.1 at e3
      rw [← e2, ← e3] at e1 hb
      rw [← e2] at hok
      clear h hk hnd hu e2 e3 e4
      obtain ⟨kind, op, d, a, b, addr, to_, word, from_⟩ := j
      simp only at e1 hok hb ⊢
      rcases hb with ⟨b1, b2, b3, _⟩ | ⟨b1, b2, b3, b4⟩
      · have hne : kind ≠ 2 := fun e => by rw [e] at b2; exact b3 b2.symm
        rw [kword_ne hok hne, cond_false, b2]
        show w :: r = w :: fieldsW _
        congr 1
        rw [e1]
        exact used_words (j := ⟨kind, op, d, a, b, addr, to_, word, from_⟩) hok hne
      · subst b1
        rw [show seq (kword 2) ⟨#[]⟩ = true from seq_ba.2 (by decide), cond_true, List.nil_append, e1, ← b2]
        exact two_words (j := ⟨2, op, d, a, b, addr, to_, word, from_⟩) rfl
theorem instrL_back {l : List ByteArray} {j : Ins} (h : instrL l = (j, true)) : wordsOf j = l := by
  unfold instrL at h
  cases hc : (decide ((l.length : Int) > 1) && prefB (lastS l) aS)
  · rw [hc] at h
    obtain ⟨e1, e2⟩ := instrG_back (i := zeroI) h
    unfold wordsOf
    rw [show (j.from_ != 0) = false by rw [e2]; rfl, cond_false, List.append_nil]
    exact e1.symm
  · rw [hc, cond_true] at h
    simp only [Bool.and_eq_true, decide_eq_true_eq] at hc
    cases hn : (numS (tlS (lastS l))).2
    · rw [hn] at h; simp at h
    · cases h0 : (numS (tlS (lastS l))).1 == 0
      · rw [hn, h0] at h
        have h : instrG { zeroI with from_ := (numS (tlS (lastS l))).1 } l.dropLast = (j, true) := h
        obtain ⟨e1, e2⟩ := instrG_back h
        have e2 : j.from_ = (numS (tlS (lastS l))).1 := e2
        unfold wordsOf
        rw [← e1, show (j.from_ != 0) = true by rw [e2]; simpa using h0, cond_true]
        have hlast : lastS l = atB j.from_ := by rw [e2]; exact (cons_back (pref_cons hc.2)).trans (by rw [atB, ← (num_back hn).1])
        have hne : l ≠ [] := fun e => by rw [e] at hc; simp at hc
        have hl := List.dropLast_concat_getLast hne
        have hg : lastS l = l.getLast hne := by unfold lastS; rw [List.getLast?_eq_some_getLast hne]; rfl
        rw [← hlast, hg, hl]
      · rw [hn, h0] at h; simp at h
end Go.Proofs.YtffhoknkfohfgaaGreatDoor.am

namespace Go.Proofs.YtffhoknkfohfgaaGreatDoor.am
open Go Go.Proofs
theorem b66_1 : band 66 1 = 0 := by decide
theorem b66_2 : band 66 2 = 2 := by decide
theorem b66_4 : band 66 4 = 0 := by decide
theorem b66_8 : band 66 8 = 0 := by decide
theorem b66_16 : band 66 16 = 0 := by decide
theorem b66_32 : band 66 32 = 0 := by decide
theorem b66_64 : band 66 64 = 64 := by decide
theorem b15_1 : band 15 1 = 1 := by decide
theorem b15_2 : band 15 2 = 2 := by decide
theorem b15_4 : band 15 4 = 4 := by decide
theorem b15_8 : band 15 8 = 8 := by decide
theorem b15_16 : band 15 16 = 0 := by decide
theorem b15_32 : band 15 32 = 0 := by decide
theorem b15_64 : band 15 64 = 0 := by decide
theorem b7_1 : band 7 1 = 1 := by decide
theorem b7_2 : band 7 2 = 2 := by decide
theorem b7_4 : band 7 4 = 4 := by decide
theorem b7_8 : band 7 8 = 0 := by decide
theorem b7_16 : band 7 16 = 0 := by decide
theorem b7_32 : band 7 32 = 0 := by decide
theorem b7_64 : band 7 64 = 0 := by decide
theorem b18_1 : band 18 1 = 0 := by decide
theorem b18_2 : band 18 2 = 2 := by decide
theorem b18_4 : band 18 4 = 0 := by decide
theorem b18_8 : band 18 8 = 0 := by decide
theorem b18_16 : band 18 16 = 16 := by decide
theorem b18_32 : band 18 32 = 0 := by decide
theorem b18_64 : band 18 64 = 0 := by decide
theorem b20_1 : band 20 1 = 0 := by decide
theorem b20_2 : band 20 2 = 0 := by decide
theorem b20_4 : band 20 4 = 4 := by decide
theorem b20_8 : band 20 8 = 0 := by decide
theorem b20_16 : band 20 16 = 16 := by decide
theorem b20_32 : band 20 32 = 0 := by decide
theorem b20_64 : band 20 64 = 0 := by decide
theorem b0_1 : band 0 1 = 0 := by decide
theorem b0_2 : band 0 2 = 0 := by decide
theorem b0_4 : band 0 4 = 0 := by decide
theorem b0_8 : band 0 8 = 0 := by decide
theorem b0_16 : band 0 16 = 0 := by decide
theorem b0_32 : band 0 32 = 0 := by decide
theorem b0_64 : band 0 64 = 0 := by decide
theorem b4_1 : band 4 1 = 0 := by decide
theorem b4_2 : band 4 2 = 0 := by decide
theorem b4_4 : band 4 4 = 4 := by decide
theorem b4_8 : band 4 8 = 0 := by decide
theorem b4_16 : band 4 16 = 0 := by decide
theorem b4_32 : band 4 32 = 0 := by decide
theorem b4_64 : band 4 64 = 0 := by decide
theorem b32_1 : band 32 1 = 0 := by decide
theorem b32_2 : band 32 2 = 0 := by decide
theorem b32_4 : band 32 4 = 0 := by decide
theorem b32_8 : band 32 8 = 0 := by decide
theorem b32_16 : band 32 16 = 0 := by decide
theorem b32_32 : band 32 32 = 32 := by decide
theorem b32_64 : band 32 64 = 0 := by decide
theorem b36_1 : band 36 1 = 0 := by decide
theorem b36_2 : band 36 2 = 0 := by decide
theorem b36_4 : band 36 4 = 4 := by decide
theorem b36_8 : band 36 8 = 0 := by decide
theorem b36_16 : band 36 16 = 0 := by decide
theorem b36_32 : band 36 32 = 32 := by decide
theorem b36_64 : band 36 64 = 0 := by decide
theorem opw_empty (op : Int) : seq (opword op) ⟨#[]⟩ = (decide (op ≤ 0) || decide (op ≥ 19)) := by
  by_cases h : op ≤ 0
  · rw [opword_low h, decide_eq_true h, Bool.true_or]
    exact seq_ba.2 rfl
  by_cases h2 : op ≥ 19
  · rw [opword_big h2, decide_eq_true h2, Bool.or_true]
    exact seq_ba.2 rfl
  rw [decide_eq_false h, decide_eq_false h2]
  have hc : op = 1 ∨ op = 2 ∨ op = 3 ∨ op = 4 ∨ op = 5 ∨ op = 6 ∨ op = 7 ∨ op = 8 ∨ op = 9 ∨ op = 10 ∨ op = 11 ∨ op = 12 ∨ op = 13 ∨ op = 14 ∨ op = 15 ∨ op = 16 ∨ op = 17 ∨ op = 18 := by omega
  rcases hc with rfl | rfl | rfl | rfl | rfl | rfl | rfl | rfl | rfl | rfl | rfl | rfl | rfl | rfl | rfl | rfl | rfl | rfl <;> exact Bool.eq_false_iff.2 fun h => absurd (seq_ba.1 h) (by decide)
theorem cond_ff (c e : Bool) : (bif c then false else e) = (!c && e) := by cases c <;> rfl
def rightZ' (i : Ins) (code mem : Int) : Bool := rightZ i code mem (useD i.kind) (useA i.kind) (useM i.kind) (useT i.kind) (i.kind == 2 && two i.op)
theorem rightZ_eq (i : Ins) (code mem : Int) : rightZ' i code mem = rightB i code mem := by
  obtain ⟨kind, op, d, a, b, addr, to_, word, from_⟩ := i
  by_cases hk : 1 ≤ kind ∧ kind < 11
  · have hkok : kok kind = true := by unfold kok; simp [hk.1, hk.2]
    have h0 : decide (kind ≤ 0) = false := decide_eq_false (by omega)
    have h11 : decide (kind ≥ 11) = false := decide_eq_false (by omega)
    unfold rightZ' rightZ rightB
    simp only [hkok, h0, h11, Bool.not_true, Bool.false_or]
    clear hkok h0 h11
    have hc : kind = 1 ∨ kind = 2 ∨ kind = 3 ∨ kind = 4 ∨ kind = 5 ∨ kind = 6 ∨ kind = 7 ∨ kind = 8 ∨ kind = 9 ∨ kind = 10 := by omega
    rcases hc with rfl | rfl | rfl | rfl | rfl | rfl | rfl | rfl | rfl | rfl
    case inr.inl =>
      cases ht : two op
      · simp only [show usedM 2 op = 7 by unfold usedM; rw [ht]; rfl, show useD 2 = true from rfl, show useA 2 = true from rfl, show useM 2 = false from rfl, show useT 2 = false from rfl, z0, z1, z2, z3, z4, opB, withinB, regOk, opw_empty, b66_1, b66_2, b66_4, b66_8, b66_16, b66_32, b66_64, b15_1, b15_2, b15_4, b15_8, b15_16, b15_32, b15_64, b7_1, b7_2, b7_4, b7_8, b7_16, b7_32, b7_64, b18_1, b18_2, b18_4, b18_8, b18_16, b18_32, b18_64, b20_1, b20_2, b20_4, b20_8, b20_16, b20_32, b20_64, b0_1, b0_2, b0_4, b0_8, b0_16, b0_32, b0_64, b4_1, b4_2, b4_4, b4_8, b4_16, b4_32, b4_64, b32_1, b32_2, b32_4, b32_8, b32_16, b32_32, b32_64, b36_1, b36_2, b36_4, b36_8, b36_16, b36_32, b36_64, cond_ff]
        rw [Bool.eq_iff_iff]
        simp
        omega
      · simp only [show usedM 2 op = 15 by unfold usedM; rw [ht]; rfl, show useD 2 = true from rfl, show useA 2 = true from rfl, show useM 2 = false from rfl, show useT 2 = false from rfl, z0, z1, z2, z3, z4, opB, withinB, regOk, opw_empty, b66_1, b66_2, b66_4, b66_8, b66_16, b66_32, b66_64, b15_1, b15_2, b15_4, b15_8, b15_16, b15_32, b15_64, b7_1, b7_2, b7_4, b7_8, b7_16, b7_32, b7_64, b18_1, b18_2, b18_4, b18_8, b18_16, b18_32, b18_64, b20_1, b20_2, b20_4, b20_8, b20_16, b20_32, b20_64, b0_1, b0_2, b0_4, b0_8, b0_16, b0_32, b0_64, b4_1, b4_2, b4_4, b4_8, b4_16, b4_32, b4_64, b32_1, b32_2, b32_4, b32_8, b32_16, b32_32, b32_64, b36_1, b36_2, b36_4, b36_8, b36_16, b36_32, b36_64, cond_ff]
        rw [Bool.eq_iff_iff]
        simp
        omega
    all_goals
      simp only [show ∀ op, usedM 1 op = 66 from fun _ => rfl, show ∀ op, usedM 3 op = 18 from fun _ => rfl, show ∀ op, usedM 4 op = 20 from fun _ => rfl, show ∀ op, usedM 5 op = 18 from fun _ => rfl, show ∀ op, usedM 6 op = 0 from fun _ => rfl, show ∀ op, usedM 7 op = 4 from fun _ => rfl, show ∀ op, usedM 8 op = 32 from fun _ => rfl, show ∀ op, usedM 9 op = 36 from fun _ => rfl, show ∀ op, usedM 10 op = 0 from fun _ => rfl, z0, z1, z2, z3, z4, opB, withinB, regOk, opw_empty, b66_1, b66_2, b66_4, b66_8, b66_16, b66_32, b66_64, b15_1, b15_2, b15_4, b15_8, b15_16, b15_32, b15_64, b7_1, b7_2, b7_4, b7_8, b7_16, b7_32, b7_64, b18_1, b18_2, b18_4, b18_8, b18_16, b18_32, b18_64, b20_1, b20_2, b20_4, b20_8, b20_16, b20_32, b20_64, b0_1, b0_2, b0_4, b0_8, b0_16, b0_32, b0_64, b4_1, b4_2, b4_4, b4_8, b4_16, b4_32, b4_64, b32_1, b32_2, b32_4, b32_8, b32_16, b32_32, b32_64, b36_1, b36_2, b36_4, b36_8, b36_16, b36_32, b36_64, cond_ff, useD, useA, useM, useT]
      rw [Bool.eq_iff_iff]
      simp
      try omega
  · have e : rightB ⟨kind, op, d, a, b, addr, to_, word, from_⟩ code mem = false := by
      cases h : rightB ⟨kind, op, d, a, b, addr, to_, word, from_⟩ code mem
      · rfl
      · exact absurd (right_kind h) hk
    rw [e]
    have : z0 ⟨kind, op, d, a, b, addr, to_, word, from_⟩ = true := by
      unfold z0
      simp
      omega
    unfold rightZ' rightZ
    rw [this]
    rfl
end Go.Proofs.YtffhoknkfohfgaaGreatDoor.am

namespace Go.Proofs.YtffhoknkfohfgaaGreatDoor.am
open Go Go.Proofs
theorem z_right (i : Ins) (code mem : Int) : K 8 [i.av, .tr (ti code), .tr (ti mem)] [] (.ret (.tr (tb (rightB i code mem)))) [] := by
  rw [← rightZ_eq]
  exact z_right0 i code mem
theorem idxN_ge (n : ByteArray) : ∀ (l : List Cor) (k : Nat), idxN n l k = -1 ∨ (k : Int) ≤ idxN n l k
  | [], _ => .inl rfl
  | d :: l, k => by
    unfold idxN
    cases seq d.name n
    · rcases idxN_ge n l (k + 1) with h | h
      · exact .inl h
      · right; simp only [cond_false]; omega
    · right; exact Int.le_refl _
theorem hasN_any (n : ByteArray) : ∀ (l : List Cor) (k : Nat), decide (idxN n l k ≥ 0) = l.any fun d => seq d.name n
  | [], _ => rfl
  | d :: l, k => by
    rw [List.any_cons, ← hasN_any n l (k + 1), show idxN n (d :: l) k = (bif seq d.name n then (k : Int) else idxN n l (k + 1)) from rfl]
    cases seq d.name n
    · rfl
    · simp
theorem hasN_snoc (n : ByteArray) (l : List Cor) (d : Cor) : hasN n (l ++ [d]) = (hasN n l || seq d.name n) := by
  unfold hasN
  rw [hasN_any, hasN_any, List.any_append]; simp
set_option maxRecDepth 100000 in
set_option maxHeartbeats 2000000 in
theorem z_shaped (o : Ob) : K 32 [o.av] [] (.ret (.tr (tb (shapedB o)))) [] := by
  refine Ctr.cut [12] hT hmix Tryz.func32 rfl (fun _ _ => by kernel_rfl) rfl fun hok => ?_
  obtain ⟨memory, shared, locks, buffer, cores⟩ := o
  obtain ⟨_, hl, hcs⟩ := ((hok.slot 0 rfl).agg _ (.tail _ (.tail _ (.tail _ (.tail _ (.head _)))))).tr.lst
  obtain ⟨_, hml, _⟩ := ((hok.slot 0 rfl).agg _ (.head _)).tr.lst
  rw [List.length_map] at hl hml
  clear hok
  have hS : shapedB ⟨memory, shared, locks, buffer, cores⟩ = bif headBad ⟨memory, shared, locks, buffer, cores⟩ then false else coresOk [] cores := rfl
  generalize hB : shapedB ⟨memory, shared, locks, buffer, cores⟩ = B at hS ⊢
  clear hB
  have hH : headBad ⟨memory, shared, locks, buffer, cores⟩ = (decide (shared < 0) || decide (shared > 64) || decide (locks < 0) || decide (locks > 16) || decide ((memory.length : Int) < IntKind.i64.wrap (shared + locks)) || decide ((memory.length : Int) > 4096) ||
    decide (buffer < 1) || decide (buffer > 16) || decide ((cores.length : Int) > 8)) := rfl
  rw [hH] at hS
  clear hH
  have em : (memory.length : Int) = ((memory.map irow).length : Int) := by rw [List.length_map]
  have ec : (cores.length : Int) = ((cores.map Cor.cells).length : Int) := by rw [List.length_map]
  rw [em, ec] at hS
  conv => whnf
  iterate 9
    refine csplit (fun h1 => ?_) (fun h1 => ?_)
    · conv => whnf
      exact ⟨.inl (congrArg tb (by rw [hS]; simp only [*, Bool.or_true, Bool.true_or, cond_true])), trivial⟩
    conv => whnf
  replace hS : B = coresOk [] cores := by rw [hS]; simp only [*, Bool.or_false, cond_false]
  rw [hS]
  clear hS em ec
  replace hl : cores.length ≤ 9223372036854775807 := hl
  refine LoopL.by (fun i : Nat => ⟨[(1, .ptr 0 0), (3, .tr (ti i))], [(0, .cells 29 [.tr (intsT memory), .tr (ti shared), .tr (ti locks), .tr (ti buffer), .tr (coresT cores)])], 200⟩)
    (fun i => i ≤ cores.length ∧ coresOk [] cores = coresOk (cores.take i) (cores.drop i)) (fun i => cores.length - i) 0 [0] [] (Sub.mk' rfl ⟨⟨rfl, rfl⟩, .inl rfl, trivial⟩ ⟨⟨rfl, .inl rfl, .inl rfl, .inl rfl, .inl rfl, .inl rfl, trivial⟩, trivial⟩ rfl rfl) ⟨Nat.zero_le _, rfl⟩ ?_
  rintro i ⟨hi, hf⟩ -
  conv => whnf
  refine csplit (fun hlt => ?_) (fun hge => ?_)
  · have hlt : i < cores.length := by have := of_decide_eq_true hlt; rw [List.length_map] at this; replace this : (i : Int) < cores.length := this; omega
    clear hml
    obtain ⟨c, hd⟩ : ∃ c, cores[i]? = some c := ⟨cores[i], by simp [hlt]⟩
    have hrow : (cores.map Cor.cells)[i]? = some c.cells := by rw [List.getElem?_map, hd]; rfl
    rw [coresOk_at hd] at hf
    obtain ⟨_, hcl0, hci⟩ := ((hcs _ (List.mem_of_getElem? hrow)).2 (codeT c.code) (.tail _ (.head _))).lst
    rw [List.length_map] at hcl0
    obtain ⟨cn, cc⟩ := c
    have hcl : cc.length ≤ 9223372036854775807 := hcl0
    have hB : coreBad (cores.take i) ⟨cn, cc⟩ = (!nameB cn || hasN cn (cores.take i) || decide ((cc.length : Int) < 1) || decide ((cc.length : Int) > 16384)) := rfl
    clear hcl0
    conv => whnf
    refine ⟨rfl, by omega, (show (i : Int) < ((cores.map Cor.cells).length : Int) by rw [List.length_map]; omega), fun row hr => ?_⟩
    cases hrow.symm.trans hr
    conv => whnf
    refine acall.pure _ (z_name cn) rfl rfl fun _ => ?_
    conv => whnf
    refine CutL.by (fun _ : Unit => ⟨[(1, .ptr 0 0), (3, .tr (ti i)), (4, .ptr 1 0), (5, .tr (tb (nameB cn && !hasN cn (cores.take i))))], [(0, .cells 29 [.tr (intsT memory), .tr (ti shared), .tr (ti locks), .tr (ti buffer), .tr (coresT cores)]), (1, .cells 63 [.tr (ts cn), .tr (codeT cc)])], 200⟩) (fun _ => True) ?_ ?_
    · conv => whnf
      refine LoopL.by (fun x : Nat × Bool => ⟨[(1, .ptr 0 0), (3, .tr (ti i)), (4, .ptr 1 0), (5, .tr (tb x.2)), (6, .tr (ti x.1))], [(0, .cells 29 [.tr (intsT memory), .tr (ti shared), .tr (ti locks), .tr (ti buffer), .tr (coresT cores)]), (1, .cells 63 [.tr (ts cn), .tr (codeT cc)])], 200⟩)
        (fun x => x.1 ≤ i ∧ x.2 = (nameB cn && !hasN cn (cores.take x.1))) (fun x => i - x.1) (0, nameB cn) [0, 210] [] (Sub.mk' rfl ⟨⟨rfl, rfl⟩, .inl rfl, ⟨rfl, rfl⟩, .inl rfl, .inl rfl, trivial⟩ ⟨⟨rfl, .inl rfl, .inl rfl, .inl rfl, .inl rfl, .inl rfl, trivial⟩, ⟨rfl, .inl rfl, .inl rfl, trivial⟩, trivial⟩ rfl rfl) ⟨Nat.zero_le _, by simp [hasN, idxN]⟩ ?_
      rintro ⟨k, ok⟩ ⟨hk, hok⟩ -
      simp only at hk hok
      conv => whnf
      refine csplit (fun hk1 => ?_) (fun hk2 => ?_)
      · replace hk1 : decide ((k : Int) < (i : Int)) = true := hk1
        have hk1 : k < i := by have := of_decide_eq_true hk1; omega
        have hil : i ≤ 9223372036854775807 := by omega
        obtain ⟨e, he⟩ : ∃ e, cores[k]? = some e := ⟨cores[k]'(by omega), by simp⟩
        have hrowk : (cores.map Cor.cells)[k]? = some e.cells := by rw [List.getElem?_map, he]; rfl
        have hsn : hasN cn (cores.take (k + 1)) = (hasN cn (cores.take k) || seq e.name cn) := by rw [take_snoc he, hasN_snoc]
        obtain ⟨en, ec⟩ := e
        simp only at hsn
        cases ok
        · conv => whnf
          refine ⟨by kernel_rfl, fun _ => ?_⟩
          conv => whnf
          refine ⟨(k + 1, false), [0, 1], [], Sub.mk' rfl ⟨⟨rfl, rfl⟩, .inl rfl, ⟨rfl, rfl⟩, .inl rfl, .inl (ti_succ hk1 hil), trivial⟩ ⟨⟨rfl, .inl rfl, .inl rfl, .inl rfl, .inl rfl, .inl rfl, trivial⟩, ⟨rfl, .inl rfl, .inl rfl, trivial⟩, trivial⟩ rfl rfl, ⟨hk1, ?_⟩, by simp only; omega⟩
          simp only [hsn]
          revert hok
          cases nameB cn <;> cases hasN cn (cores.take k) <;> simp
        · conv => whnf
          refine ⟨rfl, (show (0 : Int) ≤ k by omega), (show (k : Int) < ((cores.map Cor.cells).length : Int) by rw [List.length_map]; omega), fun row hr => ?_⟩
          cases hrowk.symm.trans hr
          conv => whnf
          refine ⟨by kernel_rfl, fun _ => ?_⟩
          conv => whnf
          refine ⟨(k + 1, !seq en cn), [0, 1], [], Sub.mk' rfl ⟨⟨rfl, rfl⟩, .inl rfl, ⟨rfl, rfl⟩, .inl rfl, .inl (ti_succ hk1 hil), trivial⟩ ⟨⟨rfl, .inl rfl, .inl rfl, .inl rfl, .inl rfl, .inl rfl, trivial⟩, ⟨rfl, .inl rfl, .inl rfl, trivial⟩, trivial⟩ rfl rfl, ⟨hk1, ?_⟩, by simp only; omega⟩
          simp only [hsn]
          revert hok
          cases nameB cn <;> cases hasN cn (cores.take k) <;> simp
      · replace hk2 : decide ((k : Int) < (i : Int)) = false := hk2
        have hk2 : k = i := by have := of_decide_eq_false hk2; omega
        subst hk2
        conv => whnf
        refine ⟨fun _ => ?_, fun h => absurd rfl h⟩
        conv => whnf
        exact ⟨(), [0, 1], [], Sub.mk' rfl ⟨⟨rfl, rfl⟩, .inl rfl, ⟨rfl, rfl⟩, .inl (congrArg tb hok), trivial⟩ ⟨⟨rfl, .inl rfl, .inl rfl, .inl rfl, .inl rfl, .inl rfl, trivial⟩, ⟨rfl, .inl rfl, .inl rfl, trivial⟩, trivial⟩ rfl rfl, trivial⟩
    · rintro - - -
      generalize hG : (nameB cn && !hasN cn (cores.take i)) = G
      have hBG : coreBad (cores.take i) ⟨cn, cc⟩ = (!G || decide ((cc.length : Int) < 1) || decide ((cc.length : Int) > 16384)) := by rw [hB, ← hG]; cases nameB cn <;> simp
      clear hB
      have el : ((cc.map Ins.cells).length : Int) = cc.length := by rw [List.length_map]
      have bad : ∀ {x : Bool}, coreBad (cores.take i) ⟨cn, cc⟩ = true → x = false → x = coresOk [] cores := fun h1 h2 => by rw [hf, h1, h2]; rfl
      cases G
      · conv => whnf
        exact ⟨.inl (congrArg tb (bad (by rw [hBG]; rfl) rfl)), trivial⟩
      conv => whnf
      refine csplit (fun h3 => ?_) (fun h3 => ?_)
      · replace h3 : decide (((cc.map Ins.cells).length : Int) < 1) = true := h3
        rw [el] at h3
        conv => whnf
        exact ⟨.inl (congrArg tb (bad (by rw [hBG, h3]; rfl) rfl)), trivial⟩
      replace h3 : decide (((cc.map Ins.cells).length : Int) < 1) = false := h3
      rw [el] at h3
      conv => whnf
      refine csplit (fun h4 => ?_) (fun h4 => ?_)
      · replace h4 : decide (((cc.map Ins.cells).length : Int) > 16384) = true := h4
        rw [el] at h4
        conv => whnf
        exact ⟨.inl (congrArg tb (bad (by rw [hBG, h3, h4]; rfl) rfl)), trivial⟩
      replace h4 : decide (((cc.map Ins.cells).length : Int) > 16384) = false := h4
      rw [el] at h4
      rw [h3, h4] at hBG
      replace hBG : coreBad (cores.take i) ⟨cn, cc⟩ = false := hBG
      rw [hBG, Bool.false_or] at hf
      have h3' : ¬ ((cc.length : Int) < 1) := of_decide_eq_false h3
      have ew : IntKind.i64.wrap (((cc.map Ins.cells).length : Int) - 1) = ((cc.length - 1 : Nat) : Int) := by rw [List.length_map, w64 (by omega) (by omega)]; omega
      have hn1 : cc.length - 1 < cc.length := by omega
      obtain ⟨x, hx⟩ : ∃ x, cc[cc.length - 1]? = some x := ⟨cc[cc.length - 1], by simp [hn1]⟩
      have hrowx : (cc.map Ins.cells)[cc.length - 1]? = some x.cells := by rw [List.getElem?_map, hx]; rfl
      have hL : lastBad ⟨cn, cc⟩ = (x.kind != 10 && x.kind != 8) := by unfold lastBad; simp only [hx]
      rw [hL] at hf
      conv => whnf
      rw [ew]
      refine ⟨rfl, by omega, (show ((cc.length - 1 : Nat) : Int) < ((cc.map Ins.cells).length : Int) by rw [el]; omega), fun row hr => ?_⟩
      cases hrowx.symm.trans hr
      conv => whnf
      refine csplit (fun h5 => ?_) (fun h5 => ?_)
      · replace h5 : (x.kind != 10) = true := h5
        conv => whnf
        rw [ew]
        refine ⟨rfl, by omega, (show ((cc.length - 1 : Nat) : Int) < ((cc.map Ins.cells).length : Int) by rw [el]; omega), fun row hr => ?_⟩
        cases hrowx.symm.trans hr
        conv => whnf
        refine csplit (fun h6 => ?_) (fun h6 => ?_)
        · replace h6 : (x.kind != 8) = true := h6
          rw [h5, h6] at hf
          conv => whnf
          exact ⟨.inl (congrArg tb hf.symm), trivial⟩
        · replace h6 : (x.kind != 8) = false := h6
          rw [h5, h6] at hf
          conv => whnf
          exact ⟨i + 1, [0], [], Sub.mk' rfl ⟨⟨rfl, rfl⟩, .inl (ti_succ hlt hl), trivial⟩ ⟨⟨rfl, .inl rfl, .inl rfl, .inl rfl, .inl rfl, .inl rfl, trivial⟩, trivial⟩ rfl rfl, ⟨by omega, hf⟩, by omega⟩
      · replace h5 : (x.kind != 10) = false := h5
        rw [h5] at hf
        conv => whnf
        exact ⟨i + 1, [0], [], Sub.mk' rfl ⟨⟨rfl, rfl⟩, .inl (ti_succ hlt hl), trivial⟩ ⟨⟨rfl, .inl rfl, .inl rfl, .inl rfl, .inl rfl, .inl rfl, trivial⟩, trivial⟩ rfl rfl, ⟨by omega, hf⟩, by omega⟩
  · have hge : cores.length ≤ i := by have := of_decide_eq_false hge; rw [List.length_map] at this; replace this : ¬ (i : Int) < cores.length := this; omega
    rw [List.drop_eq_nil_of_le hge] at hf
    conv => whnf
    refine ⟨fun _ => ?_, fun h => absurd rfl h⟩
    conv => whnf
    exact ⟨.inl (congrArg tb hf.symm), trivial⟩
set_option maxRecDepth 100000 in
set_option maxHeartbeats 2000000 in
theorem z_check (o : Ob) : K 11 [o.av] [] (.ret (tri (checkO o))) [] := by
  refine Ctr.of hT hmix Tryz.func11 rfl (fun _ _ => by kernel_rfl) rfl fun hok => ?_
  obtain ⟨memory, shared, locks, buffer, cores⟩ := o
  obtain ⟨_, hl0, hcs⟩ := ((hok.slot 0 rfl).agg _ (.tail _ (.tail _ (.tail _ (.tail _ (.head _)))))).tr.lst
  rw [List.length_map] at hl0
  have hl : cores.length ≤ 9223372036854775807 := hl0
  clear hok hl0
  have hS : checkO ⟨memory, shared, locks, buffer, cores⟩ = bif !shapedB ⟨memory, shared, locks, buffer, cores⟩ then (160, 0, 0) else coresCk memory.length cores 0 := rfl
  generalize hR : checkO ⟨memory, shared, locks, buffer, cores⟩ = R at hS ⊢
  clear hR
  conv => whnf
  refine acall.pure _ (z_shaped ⟨memory, shared, locks, buffer, cores⟩) rfl rfl fun _ => ?_
  conv => whnf
  refine csplit (fun h1 => ?_) (fun h1 => ?_)
  · rw [h1] at hS
    rw [hS]
    conv => whnf
    exact ⟨⟨.inl rfl, .inl rfl, .inl rfl, trivial⟩, trivial⟩
  rw [h1] at hS
  replace hS : R = coresCk memory.length cores 0 := hS
  rw [hS]
  clear hS h1
  conv => whnf
  refine LoopL.by (fun i : Nat => ⟨[(1, .ptr 0 0), (6, .tr (ti i))], [(0, .cells 29 [.tr (intsT memory), .tr (ti shared), .tr (ti locks), .tr (ti buffer), .tr (coresT cores)])], 60⟩)
    (fun i => i ≤ cores.length ∧ coresCk memory.length cores 0 = coresCk memory.length (cores.drop i) i) (fun i => cores.length - i) 0 [0] [] (Sub.mk' rfl ⟨⟨rfl, rfl⟩, .inl rfl, trivial⟩ ⟨⟨rfl, .inl rfl, .inl rfl, .inl rfl, .inl rfl, .inl rfl, trivial⟩, trivial⟩ rfl rfl) ⟨Nat.zero_le _, rfl⟩ ?_
  rintro i ⟨hi, hf⟩ -
  conv => whnf
  refine csplit (fun hlt => ?_) (fun hge => ?_)
  · have hlt : i < cores.length := by have := of_decide_eq_true hlt; rw [List.length_map] at this; replace this : (i : Int) < cores.length := this; omega
    obtain ⟨c, hd⟩ : ∃ c, cores[i]? = some c := ⟨cores[i], by simp [hlt]⟩
    have hrow : (cores.map Cor.cells)[i]? = some c.cells := by rw [List.getElem?_map, hd]; rfl
    rw [coresCk_at hd] at hf
    obtain ⟨_, hcl0, hci⟩ := ((hcs _ (List.mem_of_getElem? hrow)).2 (codeT c.code) (.tail _ (.head _))).lst
    rw [List.length_map] at hcl0
    obtain ⟨cn, cc⟩ := c
    have hcl : cc.length ≤ 9223372036854775807 := hcl0
    clear hcl0
    generalize hN : badAt (cc.length : Int) (memory.length : Int) cc 0 = N at hf
    conv => whnf
    refine LoopL.by (fun k : Nat => ⟨[(1, .ptr 0 0), (6, .tr (ti i)), (7, .tr (ti k))], [(0, .cells 29 [.tr (intsT memory), .tr (ti shared), .tr (ti locks), .tr (ti buffer), .tr (coresT cores)])], 60⟩)
      (fun k => k ≤ cc.length ∧ N = badAt cc.length memory.length (cc.drop k) k) (fun k => cc.length - k) 0 [0] [] (Sub.mk' rfl ⟨⟨rfl, rfl⟩, .inl rfl, .inl rfl, trivial⟩ ⟨⟨rfl, .inl rfl, .inl rfl, .inl rfl, .inl rfl, .inl rfl, trivial⟩, trivial⟩ rfl rfl) ⟨Nat.zero_le _, hN.symm⟩ ?_
    rintro k ⟨hk, hg⟩ -
    conv => whnf
    refine ⟨rfl, (show (0 : Int) ≤ i by omega), (show (i : Int) < ((cores.map Cor.cells).length : Int) by rw [List.length_map]; omega), fun row hr => ?_⟩
    cases hrow.symm.trans hr
    conv => whnf
    refine csplit (fun hlt2 => ?_) (fun hge2 => ?_)
    · have hlt2 : k < cc.length := by have := of_decide_eq_true hlt2; rw [List.length_map] at this; replace this : (k : Int) < cc.length := this; omega
      obtain ⟨x, hx⟩ : ∃ x, cc[k]? = some x := ⟨cc[k], by simp [hlt2]⟩
      have hrowx : (cc.map Ins.cells)[k]? = some x.cells := by rw [List.getElem?_map, hx]; rfl
      rw [badAt_at hx] at hg
      have hr := z_right x cc.length memory.length
      obtain ⟨x1, x2, x3, x4, x5, x6, x7, x8, x9⟩ := x
      conv => whnf
      refine ⟨rfl, (show (0 : Int) ≤ i by omega), (show (i : Int) < ((cores.map Cor.cells).length : Int) by rw [List.length_map]; omega), fun row hrr => ?_⟩
      cases hrow.symm.trans hrr
      conv => whnf
      refine ⟨rfl, (show (0 : Int) ≤ k by omega), (show (k : Int) < ((cc.map Ins.cells).length : Int) by rw [List.length_map]; omega), fun row hrr => ?_⟩
      cases hrowx.symm.trans hrr
      conv => whnf
      refine ⟨rfl, (show (0 : Int) ≤ i by omega), (show (i : Int) < ((cores.map Cor.cells).length : Int) by rw [List.length_map]; omega), fun row hrr => ?_⟩
      cases hrow.symm.trans hrr
      conv => whnf
      refine acall.gen [] [] _ _ _ _ hr rfl rfl rfl rfl ⟨(by repeat' (first | exact trivial | exact Or.inl (ti_succ (by assumption) (by assumption)) | exact Or.inl rfl | exact rfl | exact Nat.le_refl _ | apply And.intro)), .inl (by simp), .inl (by simp), trivial⟩ trivial rfl rfl ?_
      conv => whnf
      refine ⟨by kernel_rfl, fun _ => ?_⟩
      conv => whnf
      refine csplit (fun h2 => ?_) (fun h2 => ?_)
      · rw [h2] at hg
        replace hg : N = (k : Int) := hg
        subst hg
        rw [show decide ((k : Int) ≥ 0) = true from decide_eq_true (by omega)] at hf
        rw [hf]
        conv => whnf
        exact ⟨⟨.inl rfl, .inl rfl, .inl rfl, trivial⟩, trivial⟩
      · rw [h2] at hg
        conv => whnf
        exact ⟨k + 1, [0], [], Sub.mk' rfl ⟨⟨rfl, rfl⟩, .inl rfl, .inl (ti_succ hlt2 hcl), trivial⟩ ⟨⟨rfl, .inl rfl, .inl rfl, .inl rfl, .inl rfl, .inl rfl, trivial⟩, trivial⟩ rfl rfl, ⟨by omega, hg⟩, by omega⟩
    · have hge2 : cc.length ≤ k := by have := of_decide_eq_false hge2; rw [List.length_map] at this; replace this : ¬ (k : Int) < cc.length := this; omega
      rw [List.drop_eq_nil_of_le hge2] at hg
      replace hg : N = -1 := hg
      subst hg
      conv => whnf
      refine ⟨fun _ => ?_, fun h => absurd rfl h⟩
      conv => whnf
      exact ⟨i + 1, [0], [], Sub.mk' rfl ⟨⟨rfl, rfl⟩, .inl (ti_succ hlt hl), trivial⟩ ⟨⟨rfl, .inl rfl, .inl rfl, .inl rfl, .inl rfl, .inl rfl, trivial⟩, trivial⟩ rfl rfl, ⟨by omega, hf⟩, by omega⟩
  · have hge : cores.length ≤ i := by have := of_decide_eq_false hge; rw [List.length_map] at this; replace this : ¬ (i : Int) < cores.length := this; omega
    rw [List.drop_eq_nil_of_le hge] at hf
    rw [hf]
    conv => whnf
    refine ⟨fun _ => ?_, fun h => absurd rfl h⟩
    conv => whnf
    exact ⟨⟨.inl rfl, .inl rfl, .inl rfl, trivial⟩, trivial⟩
end Go.Proofs.YtffhoknkfohfgaaGreatDoor.am
