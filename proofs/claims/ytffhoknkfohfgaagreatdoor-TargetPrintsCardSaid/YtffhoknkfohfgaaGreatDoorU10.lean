/- Contracts of target.head and target.memory. Contract of target.further. Contract of target.Parse. Contract of target: an instruction's text. -/
import Derived.Test.YtffhoknkfohfgaaGreatDoorU9
import Derived.Test.YtffhoknkfohfgaaGreatDoorU6
set_option linter.all false

namespace Go.Proofs.YtffhoknkfohfgaaGreatDoor.am
open Go Go.Proofs
def objW : ByteArray := ⟨#[111, 98, 106, 101, 99, 116]⟩
def memW : ByteArray := ⟨#[109, 101, 109, 111, 114, 121]⟩
def headL : List ByteArray → Option (Int × Int × Int)
  | [w, a, b, c] => bif seq w objW && ((numS a).2 && ((numS b).2 && (numS c).2)) then some ((numS a).1, (numS b).1, (numS c).1) else none
  | _ => none
theorem four_of {l : List ByteArray} (h : l.length = 4) : ∃ w a b c, l = [w, a, b, c] := by
  match l, h with
  | [w, a, b, c], _ => exact ⟨w, a, b, c, rfl⟩
theorem headL_ne {l : List ByteArray} (h : l.length ≠ 4) : headL l = none := by
  unfold headL
  split
  · exact absurd rfl h
  · rfl
abbrev nilT : AV := .tr (.v (.slice none 0 0))
abbrev obB (m : AV) (a b c : Int) (k : AV) : Blk := .cells 29 [m, .tr (ti a), .tr (ti b), .tr (ti c), k]
set_option maxRecDepth 100000 in
theorem k_head (line : ByteArray) (hs : line.size < 4294967281) : match headL (splitBl line) with
    | some (a, b, c) => K 61 [.ptr 0 0, .tr (ts line)] [obB nilT 0 0 0 nilT] (.ret (.tr (tb true))) [some (obB nilT a b c nilT)]
    | none => K 61 [.ptr 0 0, .tr (ts line)] [obB nilT 0 0 0 nilT] (.ret (.tr (tb false))) [none] := by
  have hsp := k_split line hs
  have hlen := splitBl_len line
  have hcs := count_size line
  generalize splitBl line = l at hsp hlen ⊢
  by_cases h4 : l.length = 4
  · obtain ⟨w, a, b, c, rfl⟩ := four_of h4
    have ha := k_number a
    have hb := k_number b
    have hc := k_number c
    show match (bif seq w objW && ((numS a).2 && ((numS b).2 && (numS c).2)) then some ((numS a).1, (numS b).1, (numS c).1) else none) with
      | some (a, b, c) => K 61 [.ptr 0 0, .tr (ts line)] [obB nilT 0 0 0 nilT] (.ret (.tr (tb true))) [some (obB nilT a b c nilT)]
      | none => K 61 [.ptr 0 0, .tr (ts line)] [obB nilT 0 0 0 nilT] (.ret (.tr (tb false))) [none]
    generalize numS a = A at ha ⊢
    generalize numS b = B at hb ⊢
    generalize numS c = C at hc ⊢
    obtain ⟨A1, A2⟩ := A
    obtain ⟨B1, B2⟩ := B
    obtain ⟨C1, C2⟩ := C
    cases hw : seq w objW
    · show K _ _ _ _ _
      refine Ctr.new [] hT hmix Tryz.func61 rfl (fun _ _ => by kernel_rfl) rfl fun hok => ?_
      clear hok
      conv => whnf
      refine acall.pure _ (hsp) rfl rfl fun _ => ?_
      conv => whnf
      refine ⟨rfl, by decide, (by show (_ : Int) < 4; decide), fun row hrow => ?_⟩
      cases hrow
      conv => whnf
      refine csplit (fun h => ?_) (fun h => ?_)
      · conv => whnf
        exact ⟨[0], rfl, rfl, .inl rfl, (by repeat' (first | exact trivial | exact Or.inl (ti_succ (by assumption) (by assumption)) | exact Or.inl rfl | exact rfl | exact Nat.le_refl _ | apply And.intro))⟩
      · exfalso
        have h : (!(seq w objW)) = false := h
        rw [hw] at h
        cases h
    cases A2
    · show K _ _ _ _ _
      refine Ctr.new [] hT hmix Tryz.func61 rfl (fun _ _ => by kernel_rfl) rfl fun hok => ?_
      clear hok
      conv => whnf
      refine acall.pure _ (hsp) rfl rfl fun _ => ?_
      conv => whnf
      refine ⟨rfl, by decide, (by show (_ : Int) < 4; decide), fun row hrow => ?_⟩
      cases hrow
      conv => whnf
      refine csplit (fun h => ?_) (fun h => ?_)
      · exfalso
        have h : (!(seq w objW)) = true := h
        rw [hw] at h
        cases h
      conv => whnf
      refine ⟨by kernel_rfl, fun _ => ?_⟩
      conv => whnf
      refine LoopL.un 4 ?_
      conv => whnf
      refine ⟨by decide, by decide, ?_⟩
      conv => whnf
      refine ⟨rfl, by decide, (by show (_ : Int) < 4; decide), fun row hrow => ?_⟩
      cases hrow
      conv => whnf
      refine acall.pure _ (ha) rfl rfl fun _ => ?_
      conv => whnf
      conv => whnf
      exact ⟨[0], rfl, rfl, .inl rfl, (by repeat' (first | exact trivial | exact Or.inl (ti_succ (by assumption) (by assumption)) | exact Or.inl rfl | exact rfl | exact Nat.le_refl _ | apply And.intro))⟩
    cases B2
    · show K _ _ _ _ _
      refine Ctr.new [] hT hmix Tryz.func61 rfl (fun _ _ => by kernel_rfl) rfl fun hok => ?_
      clear hok
      conv => whnf
      refine acall.pure _ (hsp) rfl rfl fun _ => ?_
      conv => whnf
      refine ⟨rfl, by decide, (by show (_ : Int) < 4; decide), fun row hrow => ?_⟩
      cases hrow
      conv => whnf
      refine csplit (fun h => ?_) (fun h => ?_)
      · exfalso
        have h : (!(seq w objW)) = true := h
        rw [hw] at h
        cases h
      conv => whnf
      refine ⟨by kernel_rfl, fun _ => ?_⟩
      conv => whnf
      refine LoopL.un 4 ?_
      conv => whnf
      refine ⟨by decide, by decide, ?_⟩
      conv => whnf
      refine ⟨rfl, by decide, (by show (_ : Int) < 4; decide), fun row hrow => ?_⟩
      cases hrow
      conv => whnf
      refine acall.pure _ (ha) rfl rfl fun _ => ?_
      conv => whnf
      conv => whnf
      refine ⟨by decide, by decide, ?_⟩
      conv => whnf
      refine ⟨rfl, by decide, (by show (_ : Int) < 4; decide), fun row hrow => ?_⟩
      cases hrow
      conv => whnf
      refine acall.pure _ (hb) rfl rfl fun _ => ?_
      conv => whnf
      conv => whnf
      exact ⟨[0], rfl, rfl, .inl rfl, (by repeat' (first | exact trivial | exact Or.inl (ti_succ (by assumption) (by assumption)) | exact Or.inl rfl | exact rfl | exact Nat.le_refl _ | apply And.intro))⟩
    cases C2
    · show K _ _ _ _ _
      refine Ctr.new [] hT hmix Tryz.func61 rfl (fun _ _ => by kernel_rfl) rfl fun hok => ?_
      clear hok
      conv => whnf
      refine acall.pure _ (hsp) rfl rfl fun _ => ?_
      conv => whnf
      refine ⟨rfl, by decide, (by show (_ : Int) < 4; decide), fun row hrow => ?_⟩
      cases hrow
      conv => whnf
      refine csplit (fun h => ?_) (fun h => ?_)
      · exfalso
        have h : (!(seq w objW)) = true := h
        rw [hw] at h
        cases h
      conv => whnf
      refine ⟨by kernel_rfl, fun _ => ?_⟩
      conv => whnf
      refine LoopL.un 4 ?_
      conv => whnf
      refine ⟨by decide, by decide, ?_⟩
      conv => whnf
      refine ⟨rfl, by decide, (by show (_ : Int) < 4; decide), fun row hrow => ?_⟩
      cases hrow
      conv => whnf
      refine acall.pure _ (ha) rfl rfl fun _ => ?_
      conv => whnf
      conv => whnf
      refine ⟨by decide, by decide, ?_⟩
      conv => whnf
      refine ⟨rfl, by decide, (by show (_ : Int) < 4; decide), fun row hrow => ?_⟩
      cases hrow
      conv => whnf
      refine acall.pure _ (hb) rfl rfl fun _ => ?_
      conv => whnf
      conv => whnf
      refine ⟨by decide, by decide, ?_⟩
      conv => whnf
      refine ⟨rfl, by decide, (by show (_ : Int) < 4; decide), fun row hrow => ?_⟩
      cases hrow
      conv => whnf
      refine acall.pure _ (hc) rfl rfl fun _ => ?_
      conv => whnf
      conv => whnf
      exact ⟨[0], rfl, rfl, .inl rfl, (by repeat' (first | exact trivial | exact Or.inl (ti_succ (by assumption) (by assumption)) | exact Or.inl rfl | exact rfl | exact Nat.le_refl _ | apply And.intro))⟩
    · show K _ _ _ _ _
      refine Ctr.new [] hT hmix Tryz.func61 rfl (fun _ _ => by kernel_rfl) rfl fun hok => ?_
      clear hok
      conv => whnf
      refine acall.pure _ (hsp) rfl rfl fun _ => ?_
      conv => whnf
      refine ⟨rfl, by decide, (by show (_ : Int) < 4; decide), fun row hrow => ?_⟩
      cases hrow
      conv => whnf
      refine csplit (fun h => ?_) (fun h => ?_)
      · exfalso
        have h : (!(seq w objW)) = true := h
        rw [hw] at h
        cases h
      conv => whnf
      refine ⟨by kernel_rfl, fun _ => ?_⟩
      conv => whnf
      refine LoopL.un 4 ?_
      conv => whnf
      refine ⟨by decide, by decide, ?_⟩
      conv => whnf
      refine ⟨rfl, by decide, (by show (_ : Int) < 4; decide), fun row hrow => ?_⟩
      cases hrow
      conv => whnf
      refine acall.pure _ (ha) rfl rfl fun _ => ?_
      conv => whnf
      conv => whnf
      refine ⟨by decide, by decide, ?_⟩
      conv => whnf
      refine ⟨rfl, by decide, (by show (_ : Int) < 4; decide), fun row hrow => ?_⟩
      cases hrow
      conv => whnf
      refine acall.pure _ (hb) rfl rfl fun _ => ?_
      conv => whnf
      conv => whnf
      refine ⟨by decide, by decide, ?_⟩
      conv => whnf
      refine ⟨rfl, by decide, (by show (_ : Int) < 4; decide), fun row hrow => ?_⟩
      cases hrow
      conv => whnf
      refine acall.pure _ (hc) rfl rfl fun _ => ?_
      conv => whnf
      conv => whnf
      refine ⟨fun _ => ?_, fun h => absurd rfl h⟩
      conv => whnf
      exact ⟨[0], rfl, rfl, .inl rfl, (by repeat' (first | exact trivial | exact Or.inl (ti_succ (by assumption) (by assumption)) | exact Or.inl rfl | exact rfl | exact Nat.le_refl _ | apply And.intro))⟩
  · rw [headL_ne h4]
    show K _ _ _ _ _
    refine Ctr.new [] hT hmix Tryz.func61 rfl (fun _ _ => by kernel_rfl) rfl fun hok => ?_
    clear hok
    conv => whnf
    refine acall.pure _ (hsp) rfl rfl fun _ => ?_
    conv => whnf
    refine csplit (fun h => ?_) (fun h => ?_)
    · conv => whnf
      exact ⟨[0], rfl, rfl, .inl rfl, (by repeat' (first | exact trivial | exact Or.inl (ti_succ (by assumption) (by assumption)) | exact Or.inl rfl | exact rfl | exact Nat.le_refl _ | apply And.intro))⟩
    · exfalso
      have h' : (((List.map srow l).length : Nat) : Int) = 4 := by simpa using h
      rw [List.length_map] at h'
      omega
/-! the memory's line -/
def memG : List ByteArray → Option (List Int)
  | [] => some []
  | s :: r => bif (prsB s).2.1 != 0 then none else (memG r).map fun l => (prsB s).1 :: l
def memL : List ByteArray → Option (List Int)
  | [] => none
  | w :: r => bif seq w memW then memG r else none
/-- what the memory comes to, out of what is read and what is left -/
def memA (acc : List Int) (r : List ByteArray) : Option (List Int) := (memG r).map fun l => acc ++ l
theorem memA_cons {acc : List Int} {s : ByteArray} {r : List ByteArray} : memA acc (s :: r) = bif (prsB s).2.1 != 0 then none else memA (acc ++ [(prsB s).1]) r := by
  unfold memA
  show Option.map _ (bif (prsB s).2.1 != 0 then none else (memG r).map fun l => (prsB s).1 :: l) = _
  cases (prsB s).2.1 != 0
  · show Option.map _ ((memG r).map fun l => (prsB s).1 :: l) = Option.map _ (memG r)
    rw [Option.map_map]
    congr 1
    funext l
    simp
  · rfl
abbrev memBk (l : List Int) : Blk := .vec 2 1 8 (l.map irow)
set_option maxRecDepth 100000 in
theorem k_memory (line : ByteArray) (hs : line.size < 4294967281) (a b c : Int) : match memL (splitBl line) with
    | some l => K 62 [.ptr 0 0, .tr (ts line)] [obB nilT a b c nilT] (.ret (.tr (tb true))) [some (obB (.sl 1 l.length) a b c nilT), some (memBk l)]
    | none => K 62 [.ptr 0 0, .tr (ts line)] [obB nilT a b c nilT] (.ret (.tr (tb false))) [none] := by
  have hsp := k_split line hs
  have hlen := splitBl_len line
  have hcs := count_size line
  obtain ⟨R, hR⟩ : ∃ R, R = memL (splitBl line) := ⟨_, rfl⟩
  rw [← hR]
  generalize splitBl line = l at hsp hlen hR
  cases l with
  | nil => simp at hlen
  | cons w r =>
    have hR : R = bif seq w memW then memG r else none := hR
    have hlr : r.length ≤ 4294967281 := by simp only [List.length_cons] at hlen; omega
    clear hlen hcs
    cases hw : seq w memW
    · rw [hw] at hR
      obtain rfl : R = none := hR
      show K _ _ _ _ _
      refine Ctr.new [] hT hmix Tryz.func62 rfl (fun _ _ => by kernel_rfl) rfl fun hok => ?_
      clear hok
      conv => whnf
      refine acall.pure _ (hsp) rfl rfl fun _ => ?_
      conv => whnf
      refine ⟨rfl, by decide, (show (0 : Int) < (List.map srow (w :: r)).length by rw [List.length_map, List.length_cons]; omega), fun row hrow => ?_⟩
      cases hrow
      conv => whnf
      refine csplit (fun h => ?_) (fun h => ?_)
      · conv => whnf
        exact ⟨[0], rfl, rfl, .inl rfl, (by repeat' (first | exact trivial | exact Or.inl (ti_succ (by assumption) (by assumption)) | exact Or.inl rfl | exact rfl | exact Nat.le_refl _ | apply And.intro))⟩
      · exfalso
        have h : (!(seq w memW)) = false := h
        rw [hw] at h
        cases h
    · rw [hw] at hR
      replace hR : R = memA [] r := by rw [show R = memG r from hR]; unfold memA; cases memG r <;> rfl
      have hdr : ((List.map srow (w :: r)).take (((List.map srow (w :: r)).length : Nat) : Int).toNat).drop 1 = r.map srow := by
        rw [Int.toNat_natCast, List.take_length]; rfl
      have hdl : (((List.map srow (w :: r)).take (((List.map srow (w :: r)).length : Nat) : Int).toNat).drop 1).length = r.length := by rw [hdr, List.length_map]
      have key : ∀ R', R' = R → match R' with
          | some l => K 62 [.ptr 0 0, .tr (ts line)] [obB nilT a b c nilT] (.ret (.tr (tb true))) [some (obB (.sl 1 l.length) a b c nilT), some (memBk l)]
          | none => K 62 [.ptr 0 0, .tr (ts line)] [obB nilT a b c nilT] (.ret (.tr (tb false))) [none] := by
        rintro (_ | m) hm
        · show K _ _ _ _ _
          rw [← hm] at hR
          refine Ctr.new [] hT hmix Tryz.func62 rfl (fun _ _ => by kernel_rfl) rfl fun hok => ?_
          clear hok
          conv => whnf
          refine acall.pure _ (hsp) rfl rfl fun _ => ?_
          conv => whnf
          refine ⟨rfl, by decide, (show (0 : Int) < (List.map srow (w :: r)).length by rw [List.length_map, List.length_cons]; omega), fun row hrow => ?_⟩
          cases hrow
          conv => whnf
          refine csplit (fun h => ?_) (fun h => ?_)
          · exfalso
            have h : (!(seq w memW)) = true := h
            rw [hw] at h
            cases h
          conv => whnf
          refine ⟨rfl, by decide, (show (1 : Int) ≤ (List.map srow (w :: r)).length by rw [List.length_map, List.length_cons]; omega), Int.le_refl _, ?_⟩
          conv => whnf
          refine LoopL.by (fun x : List Int × Nat => ⟨[(0, .ptr 0 0), (18, .tr (strsT r)), (19, .tr (ti r.length)), (20, .tr (ti x.2))], [(0, obB (.sl 1 x.1.length) a b c nilT), (1, memBk x.1)], 10⟩)
            (fun x => x.2 ≤ r.length ∧ none = memA x.1 (r.drop x.2) ∧ x.1.length = x.2) (fun x => r.length - x.2) ([], 0) [0] [1]
            (Sub.mk' rfl ⟨⟨rfl, rfl⟩, .inl (congrArg (Tr.lst 1 16) hdr), .inl (congrArg (fun n : Nat => ti (n : Int)) hdl), .inl rfl, trivial⟩ ⟨⟨rfl, ⟨rfl, rfl, rfl, rfl⟩, .inl rfl, .inl rfl, .inl rfl, .inl rfl, trivial⟩, ⟨rfl, 2, 1, 8, rfl, by omega⟩, trivial⟩ rfl rfl) ⟨Nat.zero_le _, hR, rfl⟩ ?_
          rintro ⟨acc, k⟩ ⟨hk, hf, hac⟩ -
          simp only at hk hf hac
          conv => whnf
          refine csplit (fun hlt => ?_) (fun hge => ?_)
          · have hlt : k < r.length := by simpa using hlt
            conv => whnf
            refine ⟨rfl, (show (0 : Int) ≤ k by omega), (show (k : Int) < (List.map srow r).length by rw [List.length_map]; omega), fun row hrow => ?_⟩
            obtain ⟨s, hd, rfl⟩ := map_get hrow
            replace hd : r[k]? = some s := hd
            rw [drop_cons hd, memA_cons] at hf
            have hp := k_parseW s
            generalize prsB s = Q at hf hp
            obtain ⟨Q1, Q2, Q3⟩ := Q
            simp only at hf hp
            conv => whnf
            refine acall.pure _ (hp) rfl rfl fun _ => ?_
            conv => whnf
            refine csplit (fun h2 => ?_) (fun h2 => ?_)
            · replace h2 : (Q2 != 0) = true := h2
              rw [h2] at hf
              conv => whnf
              exact ⟨[0], rfl, rfl, .inl rfl, (by repeat' (first | exact trivial | exact Or.inl (ti_succ (by assumption) (by assumption)) | exact Or.inl rfl | exact rfl | exact Nat.le_refl _ | apply And.intro))⟩
            · replace h2 : (Q2 != 0) = false := h2
              rw [h2] at hf
              conv => whnf
              refine ⟨rfl, rfl, rfl, (show acc.length ≤ (acc.map irow).length by simp), (show (acc.length + 1) * 8 ≤ _ by omega), fun q hq => ?_, ?_⟩
              · simp at hq; subst hq; simp
              conv => whnf
              refine ⟨(acc ++ [Q1], k + 1), [0, 32], [], Sub.mk' rfl ⟨⟨rfl, rfl⟩, .inl rfl, .inl rfl, .inl (ti_succ hlt (by omega)), trivial⟩ ⟨⟨rfl, ⟨rfl, by simp⟩, .inl rfl, .inl rfl, .inl rfl, .inl rfl, trivial⟩, ⟨rfl, rfl, rfl, ?_⟩, trivial⟩ rfl rfl, ⟨by simp only; omega, hf, by simp only [List.length_append, List.length_cons, List.length_nil]; omega⟩, by simp only; omega⟩
              show (acc.map irow).take acc.length ++ List.take 1 [[ti Q1]] = (acc ++ [Q1]).map irow
              rw [List.take_of_length_le (by simp), List.map_append]
              rfl
          · have hge : r.length ≤ k := by simpa using hge
            rw [List.drop_eq_nil_of_le hge] at hf
            cases hf
        · show K _ _ _ _ _
          rw [← hm] at hR
          refine Ctr.new [] hT hmix Tryz.func62 rfl (fun _ _ => by kernel_rfl) rfl fun hok => ?_
          clear hok
          conv => whnf
          refine acall.pure _ (hsp) rfl rfl fun _ => ?_
          conv => whnf
          refine ⟨rfl, by decide, (show (0 : Int) < (List.map srow (w :: r)).length by rw [List.length_map, List.length_cons]; omega), fun row hrow => ?_⟩
          cases hrow
          conv => whnf
          refine csplit (fun h => ?_) (fun h => ?_)
          · exfalso
            have h : (!(seq w memW)) = true := h
            rw [hw] at h
            cases h
          conv => whnf
          refine ⟨rfl, by decide, (show (1 : Int) ≤ (List.map srow (w :: r)).length by rw [List.length_map, List.length_cons]; omega), Int.le_refl _, ?_⟩
          conv => whnf
          refine LoopL.by (fun x : List Int × Nat => ⟨[(0, .ptr 0 0), (18, .tr (strsT r)), (19, .tr (ti r.length)), (20, .tr (ti x.2))], [(0, obB (.sl 1 x.1.length) a b c nilT), (1, memBk x.1)], 10⟩)
            (fun x => x.2 ≤ r.length ∧ some m = memA x.1 (r.drop x.2) ∧ x.1.length = x.2) (fun x => r.length - x.2) ([], 0) [0] [1]
            (Sub.mk' rfl ⟨⟨rfl, rfl⟩, .inl (congrArg (Tr.lst 1 16) hdr), .inl (congrArg (fun n : Nat => ti (n : Int)) hdl), .inl rfl, trivial⟩ ⟨⟨rfl, ⟨rfl, rfl, rfl, rfl⟩, .inl rfl, .inl rfl, .inl rfl, .inl rfl, trivial⟩, ⟨rfl, 2, 1, 8, rfl, by omega⟩, trivial⟩ rfl rfl) ⟨Nat.zero_le _, hR, rfl⟩ ?_
          rintro ⟨acc, k⟩ ⟨hk, hf, hac⟩ -
          simp only at hk hf hac
          conv => whnf
          refine csplit (fun hlt => ?_) (fun hge => ?_)
          · have hlt : k < r.length := by simpa using hlt
            conv => whnf
            refine ⟨rfl, (show (0 : Int) ≤ k by omega), (show (k : Int) < (List.map srow r).length by rw [List.length_map]; omega), fun row hrow => ?_⟩
            obtain ⟨s, hd, rfl⟩ := map_get hrow
            replace hd : r[k]? = some s := hd
            rw [drop_cons hd, memA_cons] at hf
            have hp := k_parseW s
            generalize prsB s = Q at hf hp
            obtain ⟨Q1, Q2, Q3⟩ := Q
            simp only at hf hp
            conv => whnf
            refine acall.pure _ (hp) rfl rfl fun _ => ?_
            conv => whnf
            refine csplit (fun h2 => ?_) (fun h2 => ?_)
            · replace h2 : (Q2 != 0) = true := h2
              rw [h2] at hf
              cases hf
            · replace h2 : (Q2 != 0) = false := h2
              rw [h2] at hf
              conv => whnf
              refine ⟨rfl, rfl, rfl, (show acc.length ≤ (acc.map irow).length by simp), (show (acc.length + 1) * 8 ≤ _ by omega), fun q hq => ?_, ?_⟩
              · simp at hq; subst hq; simp
              conv => whnf
              refine ⟨(acc ++ [Q1], k + 1), [0, 32], [], Sub.mk' rfl ⟨⟨rfl, rfl⟩, .inl rfl, .inl rfl, .inl (ti_succ hlt (by omega)), trivial⟩ ⟨⟨rfl, ⟨rfl, by simp⟩, .inl rfl, .inl rfl, .inl rfl, .inl rfl, trivial⟩, ⟨rfl, rfl, rfl, ?_⟩, trivial⟩ rfl rfl, ⟨by simp only; omega, hf, by simp only [List.length_append, List.length_cons, List.length_nil]; omega⟩, by simp only; omega⟩
              show (acc.map irow).take acc.length ++ List.take 1 [[ti Q1]] = (acc ++ [Q1]).map irow
              rw [List.take_of_length_le (by simp), List.map_append]
              rfl
          · have hge : r.length ≤ k := by simpa using hge
            rw [List.drop_eq_nil_of_le hge] at hf
            have hf : some m = some (acc ++ []) := hf
            rw [List.append_nil] at hf
            cases hf
            conv => whnf
            refine ⟨fun _ => ?_, fun h => absurd rfl h⟩
            conv => whnf
            exact ⟨[0, 1], rfl, rfl, .inl rfl, (by repeat' (first | exact trivial | exact Or.inl (ti_succ (by assumption) (by assumption)) | exact Or.inl rfl | exact rfl | exact Nat.le_refl _ | apply And.intro))⟩
      exact key R rfl
end Go.Proofs.YtffhoknkfohfgaaGreatDoor.am

namespace Go.Proofs.YtffhoknkfohfgaaGreatDoor.am
open Go Go.Proofs
def coreW : ByteArray := ⟨#[99, 111, 114, 101]⟩
def isCore (l : List ByteArray) : Option ByteArray := match l with
  | [w, n] => bif seq w coreW then some n else none
  | _ => none
def addI (cs : List Cor) (i : Ins) : List Cor := match cs[cs.length - 1]? with
  | some c => cs.set (cs.length - 1) ⟨c.name, c.code ++ [i]⟩
  | none => cs
abbrev newC (n : ByteArray) : Cor := ⟨n, []⟩
def furtherS (cs : List Cor) (line : ByteArray) : Option (List Cor) := match isCore (splitBl line) with
  | some n => some (cs ++ [newC n])
  | none => bif !(instrS line).2 || (cs.length : Int) == 0 then none else some (addI cs (instrS line).1)
abbrev coresBk (cs : List Cor) : Blk := .own 2 40 (cs.map Cor.cells) []
theorem two_of {l : List ByteArray} (h : l.length = 2) : ∃ w a, l = [w, a] := by
  match l, h with
  | [w, a], _ => exact ⟨w, a, rfl⟩
theorem new_leaf (n : ByteArray) : leafR [[ts n, .v (.slice none 0 0)]] := by
  intro row hr t ht
  simp only [List.mem_cons, List.not_mem_nil, or_false] at hr
  subst hr
  simp only [List.mem_cons, List.not_mem_nil, or_false] at ht
  rcases ht with rfl | rfl <;> exact ⟨_, rfl⟩
theorem nlL_refl : ∀ l : List Tr, nlL l l
  | [] => trivial
  | _ :: l => ⟨.inl rfl, nlL_refl l⟩
theorem nlR_app : ∀ (l : List (List Tr)) {r r' : List (List Tr)}, nlR r r' → nlR (l ++ r) (l ++ r')
  | [], _, _, h => h
  | a :: l, _, _, h => ⟨nlL_refl a, nlR_app l h⟩
theorem new_nl (cs : List Cor) (n : ByteArray) : nlR (cs.map Cor.cells ++ [[ts n, .v (.slice none 0 0)]]) ((cs ++ [newC n]).map Cor.cells) := by
  rw [List.map_append]
  exact nlR_app _ ⟨⟨.inl rfl, .inr ⟨rfl, 9, 64, rfl⟩, trivial⟩, trivial⟩
set_option maxRecDepth 100000 in
theorem k_furtherC (line : ByteArray) (hs : line.size < 4294967281) (mem : List Int) (a b c : Int) (cs : List Cor) (hn : cs.length ≤ 16777216) (n : ByteArray) (hc : isCore (splitBl line) = some n) :
    K 60 [.ptr 0 0, .tr (ts line)] [obB (.sl 1 mem.length) a b c (.sl 2 cs.length), memBk mem, coresBk cs] (.ret (.tr (tb true)))
      [some (obB (.sl 1 mem.length) a b c (.sl 3 (cs ++ [newC n]).length)), some (memBk mem), none, some (coresBk (cs ++ [newC n]))] := by
  have hsp := k_split line hs
  generalize splitBl line = l at hsp hc
  by_cases h2 : l.length = 2
  · obtain ⟨w, m, rfl⟩ := two_of h2
    replace hc : (bif seq w coreW then some m else none) = some n := hc
    cases hw : seq w coreW
    · rw [hw] at hc; cases hc
    rw [hw] at hc
    cases hc
    refine Ctr.new [] hT hmix Tryz.func60 rfl (fun _ _ => by kernel_rfl) rfl fun hok => ?_
    clear hok
    conv => whnf
    refine acall.pure _ (hsp) rfl rfl fun _ => ?_
    conv => whnf
    refine ⟨rfl, by decide, (by show (_ : Int) < 2; decide), fun row hrow => ?_⟩
    cases hrow
    conv => whnf
    refine csplit (fun h => ?_) (fun h => ?_)
    · conv => whnf
      refine ⟨rfl, by decide, (by show (_ : Int) < 2; decide), fun row hrow => ?_⟩
      cases hrow
      conv => whnf
      refine ⟨by simp, rfl, Nat.le_refl _, (show (cs.length + 1) * 40 ≤ 140737488351232 by omega), trivial, new_leaf n, trivial, ?_⟩
      conv => whnf
      refine ⟨by kernel_rfl, fun _ => ?_⟩
      conv => whnf
      exact ⟨[0, 1, 2, 26], rfl, rfl, .inl rfl, ⟨rfl, ⟨rfl, rfl⟩, .inl rfl, .inl rfl, .inl rfl, ⟨rfl, by simp⟩, trivial⟩, ⟨rfl, rfl, rfl, rfl⟩, ⟨rfl, rfl, rfl, rfl, .inr (new_nl cs n)⟩, trivial⟩
    · exfalso
      have h : seq w coreW = false := h
      rw [hw] at h
      cases h
  · exfalso
    unfold isCore at hc
    split at hc
    · exact h2 rfl
    · cases hc
theorem isCore_none {l : List ByteArray} (h : isCore l = none) (h2 : l.length = 2) : ∃ w a, l = [w, a] ∧ seq w coreW = false := by
  obtain ⟨w, a, rfl⟩ := two_of h2
  refine ⟨w, a, rfl, ?_⟩
  replace h : (bif seq w coreW then some a else none) = none := h
  cases hw : seq w coreW
  · rfl
  · rw [hw] at h; cases h
set_option maxRecDepth 100000 in
theorem k_furtherN (line : ByteArray) (hs : line.size < 4294967281) (mem : List Int) (a b c : Int) (cs : List Cor) (hc : isCore (splitBl line) = none) (hr : ((instrS line).2 = true → cs.length = 0)) :
    K 60 [.ptr 0 0, .tr (ts line)] [obB (.sl 1 mem.length) a b c (.sl 2 cs.length), memBk mem, coresBk cs] (.ret (.tr (tb false))) [none, none, none] := by
  have hsp := k_split line hs
  have hi := k_instr line hs
  generalize splitBl line = l at hsp hc
  generalize instrS line = R at hi hr
  obtain ⟨⟨i1, i2, i3, i4, i5, i6, i7, i8, i9⟩, R2⟩ := R
  simp only at hi hr
  refine Ctr.new [5] hT hmix Tryz.func60 rfl (fun _ _ => by kernel_rfl) rfl fun hok => ?_
  clear hok
  conv => whnf
  refine CutL.by (fun _ : Unit => ⟨[(0, .ptr 0 0), (1, .tr (ts line))], [(0, obB (.sl 1 mem.length) a b c (.sl 2 cs.length)), (1, memBk mem), (2, coresBk cs)], 10⟩) (fun _ => True) ?_ ?_
  · by_cases h2 : l.length = 2
    · obtain ⟨w, m, rfl, hw⟩ := isCore_none hc h2
      conv => whnf
      refine acall.pure _ (hsp) rfl rfl fun _ => ?_
      conv => whnf
      refine ⟨rfl, by decide, (by show (_ : Int) < 2; decide), fun row hrow => ?_⟩
      cases hrow
      conv => whnf
      refine csplit (fun h => ?_) (fun h => ?_)
      · exfalso
        have h : seq w coreW = true := h
        rw [hw] at h
        cases h
      · conv => whnf
        exact ⟨(), [0, 1, 2], [], Sub.mk' rfl ⟨⟨rfl, rfl⟩, .inl rfl, trivial⟩ (by repeat' (first | exact trivial | exact Or.inl (ti_succ (by assumption) (by assumption)) | exact Or.inl rfl | exact rfl | exact Nat.le_refl _ | apply And.intro)) rfl rfl, trivial⟩
    · conv => whnf
      refine acall.pure _ (hsp) rfl rfl fun _ => ?_
      conv => whnf
      refine csplit (fun h => ?_) (fun h => ?_)
      · exfalso
        have h' : (((List.map srow l).length : Nat) : Int) = 2 := by simpa using h
        rw [List.length_map] at h'
        omega
      · conv => whnf
        exact ⟨(), [0, 1, 2], [], Sub.mk' rfl ⟨⟨rfl, rfl⟩, .inl rfl, trivial⟩ (by repeat' (first | exact trivial | exact Or.inl (ti_succ (by assumption) (by assumption)) | exact Or.inl rfl | exact rfl | exact Nat.le_refl _ | apply And.intro)) rfl rfl, trivial⟩
  · rintro - - -
    cases R2
    · conv => whnf
      refine acall.pure _ (hi) rfl rfl fun _ => ?_
      conv => whnf
      exact ⟨[0, 1, 2], rfl, rfl, .inl rfl, (by repeat' (first | exact trivial | exact Or.inl (ti_succ (by assumption) (by assumption)) | exact Or.inl rfl | exact rfl | exact Nat.le_refl _ | apply And.intro))⟩
    · have h0 := hr rfl
      conv => whnf
      refine acall.pure _ (hi) rfl rfl fun _ => ?_
      conv => whnf
      refine csplit (fun h => ?_) (fun h => ?_)
      · conv => whnf
        exact ⟨[0, 1, 2], rfl, rfl, .inl rfl, (by repeat' (first | exact trivial | exact Or.inl (ti_succ (by assumption) (by assumption)) | exact Or.inl rfl | exact rfl | exact Nat.le_refl _ | apply And.intro))⟩
      · exfalso
        have h : ((cs.length : Int) == 0) = false := h
        rw [h0] at h
        cases h
theorem ins_leaf (i : Ins) : leafR [i.cells] := by
  intro row hr t ht
  simp only [List.mem_cons, List.not_mem_nil, or_false] at hr
  subst hr
  simp only [Ins.cells, List.mem_cons, List.not_mem_nil, or_false] at ht
  rcases ht with rfl | rfl | rfl | rfl | rfl | rfl | rfl | rfl | rfl <;> exact ⟨_, rfl⟩
theorem set_row {cs : List Cor} {n : Nat} {dn : ByteArray} {t : Tr} (hn : n < cs.length) : setC ((cs.map Cor.cells).set n [ts dn, .v (.slice none 0 0)]) n 1 t = (cs.map Cor.cells).set n [ts dn, t] := by
  unfold setC
  rw [List.getElem?_set_self (by rw [List.length_map]; exact hn), List.set_set]
  rfl
theorem addI_at {cs : List Cor} {i : Ins} {c : Cor} (h : cs[cs.length - 1]? = some c) : addI cs i = cs.set (cs.length - 1) ⟨c.name, c.code ++ [i]⟩ := by
  unfold addI; rw [h]
set_option maxRecDepth 100000 in
theorem k_furtherI (line : ByteArray) (hs : line.size < 4294967281) (mem : List Int) (a b c : Int) (cs : List Cor) (hn : cs.length ≤ 16777216) (hcd : ∀ c ∈ cs, c.code.length ≤ 16777216) (hc : isCore (splitBl line) = none) (hr : (instrS line).2 = true) (h0 : cs.length ≠ 0) :
    K 60 [.ptr 0 0, .tr (ts line)] [obB (.sl 1 mem.length) a b c (.sl 2 cs.length), memBk mem, coresBk cs] (.ret (.tr (tb true))) [some (obB (.sl 1 mem.length) a b c (.sl 2 (addI cs (instrS line).1).length)), some (memBk mem), some (coresBk (addI cs (instrS line).1))] := by
  have hsp := k_split line hs
  have hi := k_instr line hs
  generalize splitBl line = l at hsp hc
  generalize instrS line = R at hi hr ⊢
  obtain ⟨⟨i1, i2, i3, i4, i5, i6, i7, i8, i9⟩, R2⟩ := R
  simp only at hi hr
  subst hr
  obtain ⟨d, hd⟩ : ∃ d, cs[cs.length - 1]? = some d := ⟨cs[cs.length - 1]'(by omega), by simp⟩
  rw [addI_at hd]
  have hdc := hcd d (List.mem_of_getElem? hd)
  refine Ctr.pk [5] hT hmix Tryz.func60 rfl (fun _ _ => by kernel_rfl) rfl fun hok => ?_
  clear hok
  conv => whnf
  refine CutL.by (fun _ : Unit => ⟨[(0, .ptr 0 0), (1, .tr (ts line))], [(0, obB (.sl 1 mem.length) a b c (.sl 2 cs.length)), (1, memBk mem), (2, coresBk cs)], 10⟩) (fun _ => True) ?_ ?_
  · by_cases h2 : l.length = 2
    · obtain ⟨w, m, rfl, hw⟩ := isCore_none hc h2
      conv => whnf
      refine acall.pure _ (hsp) rfl rfl fun _ => ?_
      conv => whnf
      refine ⟨rfl, by decide, (by show (_ : Int) < 2; decide), fun row hrow => ?_⟩
      cases hrow
      conv => whnf
      refine csplit (fun h => ?_) (fun h => ?_)
      · exfalso
        have h : seq w coreW = true := h
        rw [hw] at h
        cases h
      · conv => whnf
        exact ⟨(), [0, 1, 2], [], Sub.mk' rfl ⟨⟨rfl, rfl⟩, .inl rfl, trivial⟩ (by repeat' (first | exact trivial | exact Or.inl (ti_succ (by assumption) (by assumption)) | exact Or.inl rfl | exact rfl | exact Nat.le_refl _ | apply And.intro)) rfl rfl, trivial⟩
    · conv => whnf
      refine acall.pure _ (hsp) rfl rfl fun _ => ?_
      conv => whnf
      refine csplit (fun h => ?_) (fun h => ?_)
      · exfalso
        have h' : (((List.map srow l).length : Nat) : Int) = 2 := by simpa using h
        rw [List.length_map] at h'
        omega
      · conv => whnf
        exact ⟨(), [0, 1, 2], [], Sub.mk' rfl ⟨⟨rfl, rfl⟩, .inl rfl, trivial⟩ (by repeat' (first | exact trivial | exact Or.inl (ti_succ (by assumption) (by assumption)) | exact Or.inl rfl | exact rfl | exact Nat.le_refl _ | apply And.intro)) rfl rfl, trivial⟩
  · rintro - - -
    conv => whnf
    refine acall.pure _ (hi) rfl rfl fun _ => ?_
    conv => whnf
    refine csplit (fun h => ?_) (fun h => ?_)
    · exfalso
      have h : ((cs.length : Int) == 0) = true := h
      have := of_decide_eq_true h
      omega
    conv => whnf
    have hw : IntKind.i64.wrap ((cs.length : Int) - 1) = ((cs.length - 1 : Nat) : Int) := by rw [w64 (by omega) (by omega)]; omega
    generalize IntKind.i64.wrap ((cs.length : Int) - 1) = z at hw
    subst hw
    refine ⟨rfl, by omega, by omega, ?_⟩
    conv => whnf
    refine ⟨by kernel_rfl, fun _ => ?_⟩
    conv => whnf
    have e : (List.map Cor.cells cs)[cs.length - 1]? = some (Cor.cells d) := by rw [List.getElem?_map, hd]; rfl
    obtain ⟨dn, dc⟩ := d
    refine ⟨rfl, (show cs.length - 1 < _ by rw [List.length_map]; omega), fun row hrow => ?_⟩
    replace hrow : (List.map Cor.cells cs)[cs.length - 1]? = some row := hrow
    rw [e] at hrow
    cases hrow
    refine ⟨(show (1 : Nat) < 2 by decide), fun t ht => ?_⟩
    cases ht
    conv => whnf
    refine ⟨by decide, ?_⟩
    conv => whnf
    refine ⟨by simp, rfl, Nat.le_refl _, (show ((dc.map Ins.cells).length + 1) * 64 ≤ 140737488351232 by rw [List.length_map]; simp only at hdc; omega), trivial, ins_leaf ⟨i1, i2, i3, i4, i5, i6, i7, i8, i9⟩, trivial, ?_⟩
    conv => whnf
    refine ⟨rfl, rfl, rfl, (show cs.length - 1 < _ by rw [List.length_map]; omega), ⟨fun _ => rfl, trivial⟩, fun row hrow => ?_⟩
    replace hrow : (List.map Cor.cells cs)[cs.length - 1]? = some row := hrow
    rw [e] at hrow
    cases hrow
    refine ⟨(show (2 : Nat) ≤ 2 by decide), ?_⟩
    conv => whnf
    refine ⟨by kernel_rfl, fun _ => ?_⟩
    conv => whnf
    refine ⟨[2], ?_⟩
    conv => whnf
    refine ⟨rfl, rfl, (show (dc.map Ins.cells).length + 1 ≤ (dc.map Ins.cells ++ [Ins.cells ⟨i1, i2, i3, i4, i5, i6, i7, i8, i9⟩]).length by simp), ?_⟩
    refine ⟨[0, 1, 2], rfl, rfl, .inl rfl, ⟨rfl, ⟨rfl, rfl⟩, .inl rfl, .inl rfl, .inl rfl, ⟨rfl, by simp⟩, trivial⟩, ⟨rfl, rfl, rfl, rfl⟩, ⟨rfl, rfl, rfl, rfl, .inl ?_⟩, trivial⟩
    show setC ((cs.map Cor.cells).set (cs.length - 1) [ts dn, .v (.slice none 0 0)]) (cs.length - 1) 1 (.lst 9 64 ((dc.map Ins.cells ++ [Ins.cells ⟨i1, i2, i3, i4, i5, i6, i7, i8, i9⟩]).take ((dc.map Ins.cells).length + 1))) = (cs.set (cs.length - 1) ⟨dn, dc ++ [⟨i1, i2, i3, i4, i5, i6, i7, i8, i9⟩]⟩).map Cor.cells
    rw [set_row (by omega), List.take_of_length_le (by simp), List.map_set]
    show List.set _ _ [ts dn, _] = List.set _ _ [ts dn, codeT (dc ++ [_])]
    rw [codeT, List.map_append]
    rfl
end Go.Proofs.YtffhoknkfohfgaaGreatDoor.am

namespace Go.Proofs.YtffhoknkfohfgaaGreatDoor.am
open Go Go.Proofs
def emptyO : Ob := ⟨[], 0, 0, 0, []⟩
def lnl (s : ByteArray) (at_ : Nat) : Int := idxB (s.extract at_ s.size) 10
/-- the lines behind the second; or the place of one that is none -/
def parseG (s : ByteArray) : Nat → Nat → List Cor → List Cor × Option Nat
  | 0, _, cs => (cs, none)
  | f + 1, at_, cs => bif decide ((at_ : Int) < s.size) then (bif decide (lnl s at_ < 0) then ([], some at_) else match furtherS cs (s.extract at_ (at_ + (lnl s at_).toNat)) with
    | none => ([], some at_)
    | some cs' => parseG s f (at_ + (lnl s at_).toNat + 1) cs') else (cs, none)
def doneP (o : Ob) : Ob × Int × Int := bif (checkO o).1 != 0 then (emptyO, (checkO o).1, 0) else (o, 0, 0)
def parseR (mem : List Int) (a b c : Int) (q : List Cor × Option Nat) : Ob × Int × Int := match q.2 with
  | some at_ => (emptyO, 161, at_)
  | none => doneP ⟨mem, a, b, c, q.1⟩
def parseM (s : ByteArray) (a b c : Int) (at_ : Nat) : Ob × Int × Int := bif decide (lnl s at_ < 0) then (emptyO, 161, at_) else match memL (splitBl (s.extract at_ (at_ + (lnl s at_).toNat))) with
  | none => (emptyO, 161, at_)
  | some mem => parseR mem a b c (parseG s (s.size - (at_ + (lnl s at_).toNat + 1)) (at_ + (lnl s at_).toNat + 1) [])
def parseH (s : ByteArray) : Ob × Int × Int := bif decide (lnl s 0 < 0) then (emptyO, 161, 0) else match headL (splitBl (s.extract 0 (0 + (lnl s 0).toNat))) with
  | none => (emptyO, 161, 0)
  | some (a, b, c) => parseM s a b c (0 + (lnl s 0).toNat + 1)
def parseS (s : ByteArray) : Ob × Int × Int := bif decide ((s.size : Int) > 16777216) then (emptyO, 4, 0) else parseH s
theorem parseS4 {s : ByteArray} (h : decide ((s.size : Int) > 16777216) = true) : parseS s = (emptyO, 4, 0) := by unfold parseS; rw [h]; rfl
inductive PSt where
  | h
  | m (a b c : Int) (at_ : Nat)
  | r (k at_ : Nat) (mem : List Int) (a b c : Int) (cs : List Cor)
def pJ (s : ByteArray) : PSt → LJ
  | .h => ⟨[(0, .tr (ts s)), (2, .ptr 0 0), (5, .ptr 1 0), (6, .tr (ti 0)), (7, .tr (ti 0))], [(0, obB nilT 0 0 0 nilT), (1, obB nilT 0 0 0 nilT)], 10⟩
  | .m a b c at_ => ⟨[(0, .tr (ts s)), (2, .ptr 0 0), (5, .ptr 1 0), (6, .tr (ti at_)), (7, .tr (ti 1))], [(0, obB nilT 0 0 0 nilT), (1, obB nilT a b c nilT)], 10⟩
  | .r k at_ mem a b c cs => ⟨[(0, .tr (ts s)), (2, .ptr 0 0), (5, .ptr 1 0), (6, .tr (ti at_)), (7, .tr (ti k))], [(0, obB nilT 0 0 0 nilT), (1, obB (.sl 2 mem.length) a b c (.sl 3 cs.length)), (2, memBk mem), (3, coresBk cs)], 10⟩
def pI (s : ByteArray) (R : Ob × Int × Int) : PSt → Prop
  | .h => R = parseH s
  | .m a b c at_ => at_ ≤ s.size ∧ R = parseM s a b c at_
  | .r k at_ mem a b c cs => 2 ≤ k ∧ k ≤ at_ + 2 ∧ at_ ≤ s.size ∧ cs.length ≤ at_ ∧ (∀ c ∈ cs, c.code.length ≤ at_) ∧ R = parseR mem a b c (parseG s (s.size - at_) at_ cs)
def pMu (s : ByteArray) : PSt → Nat
  | .h => s.size + 2
  | .m _ _ _ _ => s.size + 1
  | .r _ at_ _ _ _ _ _ => s.size - at_
theorem ext_size (s : ByteArray) (at_ : Nat) : (s.extract at_ s.size).size = s.size - at_ := by rw [ByteArray.size_extract]; omega
theorem idx_ne : ∀ (l : List UInt8) (c : UInt8), Lib.indexByte l c ≠ (l.length : Int)
  | [], c => by simp [Lib.indexByte]
  | b :: l, c => by
    have h := idx_ne l c
    have h2 := indexByte_le l c
    unfold Lib.indexByte
    simp only [List.length_cons]
    split
    · omega
    · split <;> omega
theorem lnl_lt (s : ByteArray) {at_ : Nat} (h : at_ ≤ s.size) (h0 : decide (lnl s at_ < 0) = false) : lnl s at_ = ((lnl s at_).toNat : Int) ∧ at_ + (lnl s at_).toNat < s.size := by
  have h1 : ¬ lnl s at_ < 0 := of_decide_eq_false h0
  have h2 := (indexByte_le (s.extract at_ s.size).data.toList (10 : Int).toNat.toUInt8).1
  have e : (s.extract at_ s.size).data.toList.length = (s.extract at_ s.size).size := by simp
  rw [ext_size] at e
  have h3 : lnl s at_ ≤ (s.size - at_ : Nat) := by rw [← e]; exact h2
  refine ⟨by omega, ?_⟩
  have h4 : lnl s at_ ≠ ((s.size - at_ : Nat) : Int) := by
    intro hc
    exact idx_ne (s.extract at_ s.size).data.toList (10 : Int).toNat.toUInt8 (by rw [e]; exact hc)
  omega
theorem addI_len (cs : List Cor) (i : Ins) : (addI cs i).length = cs.length := by
  unfold addI
  split
  · rw [List.length_set]
  · rfl
theorem addI_code {cs : List Cor} {i : Ins} {n : Nat} (h : ∀ c ∈ cs, c.code.length ≤ n) : ∀ c ∈ addI cs i, c.code.length ≤ n + 1 := by
  unfold addI
  split
  · rename_i d hd
    intro c hc
    rcases List.mem_or_eq_of_mem_set hc with hc | rfl
    · exact Nat.le_succ_of_le (h c hc)
    · have := h d (List.mem_of_getElem? hd)
      simp only [List.length_append, List.length_cons, List.length_nil]; omega
  · exact fun c hc => Nat.le_succ_of_le (h c hc)
theorem parseG_at {s : ByteArray} {at_ : Nat} {cs : List Cor} (h : at_ < s.size) : parseG s (s.size - at_) at_ cs = bif decide (lnl s at_ < 0) then ([], some at_) else match furtherS cs (s.extract at_ (at_ + (lnl s at_).toNat)) with
    | none => ([], some at_)
    | some cs' => parseG s (s.size - at_ - 1) (at_ + (lnl s at_).toNat + 1) cs' := by
  obtain ⟨f, hf⟩ : ∃ f, s.size - at_ = f + 1 := ⟨s.size - at_ - 1, by omega⟩
  rw [hf]
  show (bif decide ((at_ : Int) < s.size) then _ else _) = _
  rw [show decide ((at_ : Int) < s.size) = true from decide_eq_true (by omega)]
  rfl
theorem parseG_end {s : ByteArray} {at_ : Nat} {cs : List Cor} (h : s.size ≤ at_) (f : Nat) : parseG s f at_ cs = (cs, none) := by
  cases f with
  | zero => rfl
  | succ f =>
    show (bif decide ((at_ : Int) < s.size) then _ else _) = _
    rw [show decide ((at_ : Int) < s.size) = false from decide_eq_false (by omega)]
    rfl
/-- more fuel than there are bytes is as good -/
theorem parseG_fuel (s : ByteArray) : ∀ (f f' at_ : Nat) (cs : List Cor), s.size - at_ ≤ f → s.size - at_ ≤ f' → parseG s f at_ cs = parseG s f' at_ cs
  | 0, f', at_, cs, h, _ => by rw [parseG_end (by omega), parseG_end (by omega)]
  | f + 1, 0, at_, cs, _, h => by rw [parseG_end (by omega), parseG_end (by omega)]
  | f + 1, f' + 1, at_, cs, h, h' => by
    show (bif decide ((at_ : Int) < s.size) then (bif decide (lnl s at_ < 0) then _ else _) else _) = (bif decide ((at_ : Int) < s.size) then (bif decide (lnl s at_ < 0) then _ else _) else _)
    cases hb : decide ((at_ : Int) < s.size)
    · rfl
    · cases decide (lnl s at_ < 0)
      · show (match furtherS cs (s.extract at_ (at_ + (lnl s at_).toNat)) with | none => ([], some at_) | some cs' => parseG s f (at_ + (lnl s at_).toNat + 1) cs') = (match furtherS cs (s.extract at_ (at_ + (lnl s at_).toNat)) with | none => ([], some at_) | some cs' => parseG s f' (at_ + (lnl s at_).toNat + 1) cs')
        cases furtherS cs (s.extract at_ (at_ + (lnl s at_).toNat)) with
        | none => rfl
        | some cs' => exact parseG_fuel s f f' _ cs' (by omega) (by omega)
      · rfl
set_option maxRecDepth 100000 in
set_option maxHeartbeats 2000000 in
theorem k_parseErr (s : ByteArray) {R : Ob × Int × Int} (hR : R = parseS s) (h0 : R.2.1 ≠ 0) : K 24 [.tr (ts s)] [] (.ret (.tup [.agg [nilT, .tr (ti 0), .tr (ti 0), .tr (ti 0), nilT], .tr (ti R.2.1), .tr (ti R.2.2)])) [] := by
  refine Ctr.new [] hT hmix Tryz.func24 rfl (fun _ _ => by kernel_rfl) rfl fun hok => ?_
  have hsz := (hok.slot 0 rfl).tr.str
  clear hok
  conv => whnf
  refine csplit (fun hbig => ?_) (fun hsm => ?_)
  · replace hR := hR.trans (parseS4 hbig)
    conv => whnf
    rw [hR]
    exact ⟨[], rfl, rfl, (by repeat' (first | exact trivial | exact Or.inl (ti_succ (by assumption) (by assumption)) | exact Or.inl rfl | exact rfl | exact Nat.le_refl _ | apply And.intro))⟩
  have hsm : s.size ≤ 16777216 := by have := of_decide_eq_false hsm; omega
  have hH : R = parseH s := by rw [hR]; unfold parseS; rw [show decide ((s.size : Int) > 16777216) = false from decide_eq_false (by omega)]; rfl
  clear hR
  conv => whnf
  refine LoopL.by (pJ s) (pI s R) (pMu s) .h [0, 7] [] (Sub.mk' rfl ⟨.inl rfl, ⟨rfl, rfl⟩, ⟨rfl, rfl⟩, .inl rfl, .inl rfl, trivial⟩ (by repeat' (first | exact trivial | exact Or.inl (ti_succ (by assumption) (by assumption)) | exact Or.inl rfl | exact rfl | exact Nat.le_refl _ | apply And.intro)) rfl rfl) hH ?_
  clear hH
  rintro x hI -
  cases x with
  | h =>
    replace hI : R = parseH s := hI
    have hi := k_indexByte (s.extract 0 s.size) 10
    have hd := lnl_lt s (Nat.zero_le _)
    unfold parseH at hI
    have hln : idxB (s.extract 0 s.size) 10 = lnl s 0 := rfl
    rw [hln] at hi
    generalize lnl s 0 = n at hi hd hI
    conv => whnf
    refine ⟨by decide, (show (0 : Int) ≤ s.size by omega), Int.le_refl _, ?_⟩
    conv => whnf
    refine acall.pure _ (hi) rfl rfl fun _ => ?_
    conv => whnf
    refine csplit (fun hn => ?_) (fun hn => ?_)
    · replace hn : decide (n < 0) = true := hn
      rw [hn] at hI
      replace hI : R = (emptyO, 161, 0) := hI
      conv => whnf
      (rw [hI]; exact ⟨[], rfl, rfl, (by repeat' (first | exact trivial | exact Or.inl (ti_succ (by assumption) (by assumption)) | exact Or.inl rfl | exact rfl | exact Nat.le_refl _ | apply And.intro))⟩)
    replace hn : decide (n < 0) = false := hn
    rw [hn] at hI
    obtain ⟨hd1, hd2⟩ := hd hn
    generalize n.toNat = N at hd1 hd2 hI
    subst hd1
    have hk := k_head (s.extract 0 (0 + N)) (by rw [ByteArray.size_extract]; omega)
    have hw : IntKind.i64.wrap (0 + (N : Int)) = ((0 + N : Nat) : Int) := by rw [w64 (by omega) (by omega)]; omega
    have hw2 : IntKind.i64.wrap (0 + IntKind.i64.wrap ((N : Int) + 1)) = ((0 + N + 1 : Nat) : Int) := by rw [w64 (n := (N : Int) + 1) (by omega) (by omega), w64 (by omega) (by omega)]; omega
    have hx : s.extract 0 (IntKind.i64.wrap (0 + (N : Int))).toNat = s.extract 0 (0 + N) := by rw [hw]; rfl
    refine ⟨by decide, (show (0 : Int) ≤ IntKind.i64.wrap (0 + (N : Int)) by rw [hw]; omega), (show IntKind.i64.wrap (0 + (N : Int)) ≤ s.size by rw [hw]; omega), ?_⟩
    conv => whnf
    have hI : R = match headL (splitBl (s.extract 0 (0 + N))) with
      | none => (emptyO, 161, 0)
      | some (a, b, c) => parseM s a b c (0 + N + 1) := hI
    generalize headL (splitBl (s.extract 0 (0 + N))) = L at hk hI
    cases L with
    | none =>
      replace hI : R = (emptyO, 161, 0) := hI
      refine acall.new [1] [] _ _ _ _ hk rfl rfl rfl rfl ⟨⟨rfl, rfl⟩, .inl (congrArg ts hx), trivial⟩ (by repeat' (first | exact trivial | exact Or.inl (ti_succ (by assumption) (by assumption)) | exact Or.inl rfl | exact rfl | exact Nat.le_refl _ | apply And.intro)) rfl rfl fun _ => ?_
      conv => whnf
      (rw [hI]; exact ⟨[], rfl, rfl, (by repeat' (first | exact trivial | exact Or.inl (ti_succ (by assumption) (by assumption)) | exact Or.inl rfl | exact rfl | exact Nat.le_refl _ | apply And.intro))⟩)
    | some v =>
      obtain ⟨a, b, c⟩ := v
      replace hI : R = parseM s a b c (0 + N + 1) := hI
      refine acall.new [1] [] _ _ _ _ hk rfl rfl rfl rfl ⟨⟨rfl, rfl⟩, .inl (congrArg ts hx), trivial⟩ (by repeat' (first | exact trivial | exact Or.inl (ti_succ (by assumption) (by assumption)) | exact Or.inl rfl | exact rfl | exact Nat.le_refl _ | apply And.intro)) rfl rfl fun _ => ?_
      conv => whnf
      exact ⟨.m a b c (0 + N + 1), [0, 1], [], Sub.mk' rfl ⟨.inl rfl, ⟨rfl, rfl⟩, ⟨rfl, rfl⟩, .inl (congrArg ti hw2), .inl rfl, trivial⟩ (by repeat' (first | exact trivial | exact Or.inl (ti_succ (by assumption) (by assumption)) | exact Or.inl rfl | exact rfl | exact Nat.le_refl _ | apply And.intro)) rfl rfl, ⟨by omega, hI⟩, by show s.size + 1 < s.size + 2; omega⟩
  | m a b c at_ =>
    obtain ⟨hat, hI⟩ := hI
    have hi := k_indexByte (s.extract at_ s.size) 10
    have hd := lnl_lt s hat
    unfold parseM at hI
    have hln : idxB (s.extract at_ s.size) 10 = lnl s at_ := rfl
    rw [hln] at hi
    generalize lnl s at_ = n at hi hd hI
    conv => whnf
    refine ⟨(show (0 : Int) ≤ at_ by omega), (show (at_ : Int) ≤ s.size by omega), Int.le_refl _, ?_⟩
    conv => whnf
    refine acall.pure _ (hi) rfl rfl fun _ => ?_
    conv => whnf
    refine csplit (fun hn => ?_) (fun hn => ?_)
    · replace hn : decide (n < 0) = true := hn
      rw [hn] at hI
      replace hI : R = (emptyO, 161, (at_ : Int)) := hI
      conv => whnf
      (rw [hI]; exact ⟨[], rfl, rfl, (by repeat' (first | exact trivial | exact Or.inl (ti_succ (by assumption) (by assumption)) | exact Or.inl rfl | exact rfl | exact Nat.le_refl _ | apply And.intro))⟩)
    replace hn : decide (n < 0) = false := hn
    rw [hn] at hI
    obtain ⟨hd1, hd2⟩ := hd hn
    generalize n.toNat = N at hd1 hd2 hI
    subst hd1
    have hk := k_memory (s.extract at_ (at_ + N)) (by rw [ByteArray.size_extract]; omega) a b c
    have hw : IntKind.i64.wrap ((at_ : Int) + (N : Int)) = ((at_ + N : Nat) : Int) := by rw [w64 (by omega) (by omega)]; omega
    have hw2 : IntKind.i64.wrap ((at_ : Int) + IntKind.i64.wrap ((N : Int) + 1)) = ((at_ + N + 1 : Nat) : Int) := by rw [w64 (n := (N : Int) + 1) (by omega) (by omega), w64 (by omega) (by omega)]; omega
    have hx : s.extract at_ (IntKind.i64.wrap ((at_ : Int) + (N : Int))).toNat = s.extract at_ (at_ + N) := by rw [hw]; rfl
    refine ⟨(show (0 : Int) ≤ at_ by omega), (show (at_ : Int) ≤ IntKind.i64.wrap ((at_ : Int) + (N : Int)) by rw [hw]; omega), (show IntKind.i64.wrap ((at_ : Int) + (N : Int)) ≤ s.size by rw [hw]; omega), ?_⟩
    conv => whnf
    have hI : R = match memL (splitBl (s.extract at_ (at_ + N))) with
      | none => (emptyO, 161, (at_ : Int))
      | some mem => parseR mem a b c (parseG s (s.size - (at_ + N + 1)) (at_ + N + 1) []) := hI
    generalize memL (splitBl (s.extract at_ (at_ + N))) = L at hk hI
    cases L with
    | none =>
      replace hI : R = (emptyO, 161, (at_ : Int)) := hI
      refine acall.new [1] [] _ _ _ _ hk rfl rfl rfl rfl ⟨⟨rfl, rfl⟩, .inl (congrArg ts hx), trivial⟩ (by repeat' (first | exact trivial | exact Or.inl (ti_succ (by assumption) (by assumption)) | exact Or.inl rfl | exact rfl | exact Nat.le_refl _ | apply And.intro)) rfl rfl fun _ => ?_
      conv => whnf
      (rw [hI]; exact ⟨[], rfl, rfl, (by repeat' (first | exact trivial | exact Or.inl (ti_succ (by assumption) (by assumption)) | exact Or.inl rfl | exact rfl | exact Nat.le_refl _ | apply And.intro))⟩)
    | some mem =>
      replace hI : R = parseR mem a b c (parseG s (s.size - (at_ + N + 1)) (at_ + N + 1) []) := hI
      refine acall.new [1] [] _ _ _ _ hk rfl rfl rfl rfl ⟨⟨rfl, rfl⟩, .inl (congrArg ts hx), trivial⟩ (by repeat' (first | exact trivial | exact Or.inl (ti_succ (by assumption) (by assumption)) | exact Or.inl rfl | exact rfl | exact Nat.le_refl _ | apply And.intro)) rfl rfl fun _ => ?_
      conv => whnf
      exact ⟨.r 2 (at_ + N + 1) mem a b c [], [0, 1, 40], [3], Sub.mk' rfl ⟨.inl rfl, ⟨rfl, rfl⟩, ⟨rfl, rfl⟩, .inl (congrArg ti hw2), .inl rfl, trivial⟩
        ⟨⟨rfl, .inl rfl, .inl rfl, .inl rfl, .inl rfl, .inl rfl, trivial⟩, ⟨rfl, ⟨rfl, rfl⟩, .inl rfl, .inl rfl, .inl rfl, ⟨rfl, rfl, rfl, rfl⟩, trivial⟩, ⟨rfl, rfl, rfl, rfl⟩, ⟨rfl, rfl, rfl, by omega⟩, trivial⟩ rfl rfl,
        ⟨by omega, by omega, by omega, Nat.zero_le _, (fun c hc => absurd hc (by simp)), hI⟩, by show s.size - (at_ + N + 1) < s.size + 1; omega⟩
  | r k at_ mem a b c cs =>
    obtain ⟨hk2, hka, hat, hcl, hcd, hI⟩ := hI
    conv => whnf
    refine csplit (fun h2 => ?_) (fun h2 => ?_)
    · exfalso
      have := of_decide_eq_true h2
      omega
    conv => whnf
    refine csplit (fun h3 => ?_) (fun h3 => ?_)
    · have hlt : at_ < s.size := by have := of_decide_eq_true h3; omega
      have hi := k_indexByte (s.extract at_ s.size) 10
      have hd := lnl_lt s hat
      rw [parseG_at hlt] at hI
      have hln : idxB (s.extract at_ s.size) 10 = lnl s at_ := rfl
      rw [hln] at hi
      generalize lnl s at_ = n at hi hd hI
      conv => whnf
      refine ⟨(show (0 : Int) ≤ at_ by omega), (show (at_ : Int) ≤ s.size by omega), Int.le_refl _, ?_⟩
      conv => whnf
      refine acall.pure _ (hi) rfl rfl fun _ => ?_
      conv => whnf
      refine csplit (fun h4 => ?_) (fun h4 => ?_)
      · exfalso
        have : (k : Int) = 0 := by simpa using h4
        omega
      conv => whnf
      refine csplit (fun h5 => ?_) (fun h5 => ?_)
      · exfalso
        have : (k : Int) = 1 := by simpa using h5
        omega
      conv => whnf
      refine csplit (fun hn => ?_) (fun hn => ?_)
      · replace hn : decide (n < 0) = true := hn
        rw [hn] at hI
        replace hI : R = (emptyO, 161, (at_ : Int)) := hI
        conv => whnf
        (rw [hI]; exact ⟨[], rfl, rfl, (by repeat' (first | exact trivial | exact Or.inl (ti_succ (by assumption) (by assumption)) | exact Or.inl rfl | exact rfl | exact Nat.le_refl _ | apply And.intro))⟩)
      replace hn : decide (n < 0) = false := hn
      rw [hn] at hI
      obtain ⟨hd1, hd2⟩ := hd hn
      generalize n.toNat = N at hd1 hd2 hI
      subst hd1
      have hls : (s.extract at_ (at_ + N)).size < 4294967281 := by rw [ByteArray.size_extract]; omega
      have hw : IntKind.i64.wrap ((at_ : Int) + (N : Int)) = ((at_ + N : Nat) : Int) := by rw [w64 (by omega) (by omega)]; omega
      have hw2 : IntKind.i64.wrap ((at_ : Int) + IntKind.i64.wrap ((N : Int) + 1)) = ((at_ + N + 1 : Nat) : Int) := by rw [w64 (n := (N : Int) + 1) (by omega) (by omega), w64 (by omega) (by omega)]; omega
      have hk3 : IntKind.i64.wrap ((k : Int) + 1) = ((k + 1 : Nat) : Int) := by rw [w64 (by omega) (by omega)]; omega
      have hx : s.extract at_ (IntKind.i64.wrap ((at_ : Int) + (N : Int))).toNat = s.extract at_ (at_ + N) := by rw [hw]; rfl
      refine ⟨(show (0 : Int) ≤ at_ by omega), (show (at_ : Int) ≤ IntKind.i64.wrap ((at_ : Int) + (N : Int)) by rw [hw]; omega), (show IntKind.i64.wrap ((at_ : Int) + (N : Int)) ≤ s.size by rw [hw]; omega), ?_⟩
      conv => whnf
      have hfu : ∀ cs', parseG s (s.size - at_ - 1) (at_ + N + 1) cs' = parseG s (s.size - (at_ + N + 1)) (at_ + N + 1) cs' := fun cs' => parseG_fuel s _ _ _ _ (by omega) (by omega)
      have hI : R = parseR mem a b c (match furtherS cs (s.extract at_ (at_ + N)) with
        | none => ([], some at_)
        | some cs' => parseG s (s.size - at_ - 1) (at_ + N + 1) cs') := hI
      cases hC : isCore (splitBl (s.extract at_ (at_ + N))) with
      | some nm =>
        have hF : furtherS cs (s.extract at_ (at_ + N)) = some (cs ++ [newC nm]) := by unfold furtherS; rw [hC]
        rw [hF] at hI
        replace hI : R = parseR mem a b c (parseG s (s.size - at_ - 1) (at_ + N + 1) (cs ++ [newC nm])) := hI
        rw [hfu] at hI
        refine acall.new [1, 2, 3] [] _ _ _ _ (k_furtherC (s.extract at_ (at_ + N)) hls mem a b c cs (by omega) nm hC) rfl rfl rfl rfl ⟨⟨rfl, rfl⟩, .inl (congrArg ts hx), trivial⟩ ⟨⟨rfl, ⟨rfl, rfl⟩, .inl rfl, .inl rfl, .inl rfl, ⟨rfl, rfl⟩, trivial⟩, ⟨rfl, rfl, rfl, rfl⟩, ⟨rfl, rfl, rfl, rfl, .inl rfl⟩, trivial⟩ rfl rfl fun _ => ?_
        conv => whnf
        refine ⟨.r (k + 1) (at_ + N + 1) mem a b c (cs ++ [newC nm]), [0, 1, 2, 39], [], Sub.mk' rfl ⟨.inl rfl, ⟨rfl, rfl⟩, ⟨rfl, rfl⟩, .inl (congrArg ti hw2), .inl (congrArg ti hk3), trivial⟩ ⟨⟨rfl, .inl rfl, .inl rfl, .inl rfl, .inl rfl, .inl rfl, trivial⟩, ⟨rfl, ⟨rfl, rfl⟩, .inl rfl, .inl rfl, .inl rfl, ⟨rfl, rfl⟩, trivial⟩, ⟨rfl, rfl, rfl, rfl⟩, ⟨rfl, rfl, rfl, rfl, .inl rfl⟩, trivial⟩ rfl rfl, ⟨by omega, by omega, by omega, ?_, ?_, hI⟩, by show s.size - (at_ + N + 1) < s.size - at_; omega⟩
        · simp only [List.length_append, List.length_cons, List.length_nil]; omega
        · intro d hd
          rcases List.mem_append.1 hd with hd | hd
          · have := hcd d hd; omega
          · simp only [List.mem_singleton] at hd; subst hd; exact Nat.zero_le _
      | none =>
        by_cases hgo : (instrS (s.extract at_ (at_ + N))).2 = true ∧ cs.length ≠ 0
        · obtain ⟨g1, g2⟩ := hgo
          have hF : furtherS cs (s.extract at_ (at_ + N)) = some (addI cs (instrS (s.extract at_ (at_ + N))).1) := by
            unfold furtherS; rw [hC]
            show (bif !(instrS (s.extract at_ (at_ + N))).2 || (cs.length : Int) == 0 then none else some _) = _
            rw [g1, show ((cs.length : Int) == 0) = false from beq_eq_false_iff_ne.2 (by omega)]; rfl
          rw [hF] at hI
          replace hI : R = parseR mem a b c (parseG s (s.size - at_ - 1) (at_ + N + 1) (addI cs (instrS (s.extract at_ (at_ + N))).1)) := hI
          rw [hfu] at hI
          refine acall.new [1, 2, 3] [] _ _ _ _ (k_furtherI (s.extract at_ (at_ + N)) hls mem a b c cs (by omega) (fun d hd => Nat.le_trans (hcd d hd) (by omega)) hC g1 g2) rfl rfl rfl rfl ⟨⟨rfl, rfl⟩, .inl (congrArg ts hx), trivial⟩ ⟨⟨rfl, ⟨rfl, rfl⟩, .inl rfl, .inl rfl, .inl rfl, ⟨rfl, rfl⟩, trivial⟩, ⟨rfl, rfl, rfl, rfl⟩, ⟨rfl, rfl, rfl, rfl, .inl rfl⟩, trivial⟩ rfl rfl fun _ => ?_
          conv => whnf
          refine ⟨.r (k + 1) (at_ + N + 1) mem a b c (addI cs (instrS (s.extract at_ (at_ + N))).1), [0, 1, 2, 3], [], Sub.mk' rfl ⟨.inl rfl, ⟨rfl, rfl⟩, ⟨rfl, rfl⟩, .inl (congrArg ti hw2), .inl (congrArg ti hk3), trivial⟩ ⟨⟨rfl, .inl rfl, .inl rfl, .inl rfl, .inl rfl, .inl rfl, trivial⟩, ⟨rfl, ⟨rfl, rfl⟩, .inl rfl, .inl rfl, .inl rfl, ⟨rfl, rfl⟩, trivial⟩, ⟨rfl, rfl, rfl, rfl⟩, ⟨rfl, rfl, rfl, rfl, .inl rfl⟩, trivial⟩ rfl rfl, ⟨by omega, by omega, by omega, ?_, ?_, hI⟩, by show s.size - (at_ + N + 1) < s.size - at_; omega⟩
          · rw [addI_len]; omega
          · intro d hd
            have := addI_code hcd d hd
            omega
        · have hF : furtherS cs (s.extract at_ (at_ + N)) = none := by
            unfold furtherS; rw [hC]
            show (bif !(instrS (s.extract at_ (at_ + N))).2 || (cs.length : Int) == 0 then none else some _) = _
            cases hb : (instrS (s.extract at_ (at_ + N))).2
            · rfl
            · rw [show ((cs.length : Int) == 0) = true from by rw [Classical.not_not.1 (fun hne => hgo ⟨hb, hne⟩)]; rfl]; rfl
          rw [hF] at hI
          replace hI : R = (emptyO, 161, (at_ : Int)) := hI
          refine acall.new [1, 2, 3] [] _ _ _ _ (k_furtherN (s.extract at_ (at_ + N)) hls mem a b c cs hC (fun hb => Classical.not_not.1 fun hne => hgo ⟨hb, hne⟩)) rfl rfl rfl rfl ⟨⟨rfl, rfl⟩, .inl (congrArg ts hx), trivial⟩ ⟨⟨rfl, ⟨rfl, rfl⟩, .inl rfl, .inl rfl, .inl rfl, ⟨rfl, rfl⟩, trivial⟩, ⟨rfl, rfl, rfl, rfl⟩, ⟨rfl, rfl, rfl, rfl, .inl rfl⟩, trivial⟩ rfl rfl fun _ => ?_
          conv => whnf
          (rw [hI]; exact ⟨[], rfl, rfl, (by repeat' (first | exact trivial | exact Or.inl (ti_succ (by assumption) (by assumption)) | exact Or.inl rfl | exact rfl | exact Nat.le_refl _ | apply And.intro))⟩)
    · have hge : s.size ≤ at_ := by have := of_decide_eq_false h3; omega
      rw [parseG_end hge] at hI
      replace hI : R = doneP ⟨mem, a, b, c, cs⟩ := hI
      conv => whnf
      refine ⟨fun _ => ?_, fun h => absurd rfl h⟩
      conv => whnf
      have hk := k_check ⟨mem, a, b, c, cs⟩
      unfold doneP at hI
      generalize checkO ⟨mem, a, b, c, cs⟩ = Q at hk hI
      refine acall.gen [] [2, 3] _ _ _ _ hk rfl rfl rfl rfl ⟨⟨⟨rfl, by simp, by rw [List.take_of_length_le (by simp)]⟩, .inl rfl, .inl rfl, .inl rfl, ⟨rfl, by simp, by rw [List.take_of_length_le (by simp)]⟩, trivial⟩, trivial⟩ trivial rfl rfl fun _ => ?_
      conv => whnf
      refine csplit (fun hq => ?_) (fun hq => ?_)
      · replace hq : (Q.1 != 0) = true := hq
        rw [hq] at hI
        replace hI : R = (emptyO, Q.1, 0) := hI
        conv => whnf
        rw [hI]
        exact ⟨[], rfl, rfl, (by repeat' (first | exact trivial | exact Or.inl (ti_succ (by assumption) (by assumption)) | exact Or.inl rfl | exact rfl | exact Nat.le_refl _ | apply And.intro))⟩
      · replace hq : (Q.1 != 0) = false := hq
        rw [hq] at hI
        replace hI : R = (⟨mem, a, b, c, cs⟩, 0, 0) := hI
        exfalso
        rw [hI] at h0
        exact h0 rfl
set_option maxRecDepth 100000 in
set_option maxHeartbeats 2000000 in
theorem k_parseOwn (s : ByteArray) {R : Ob × Int × Int} (hR : R = parseS s) (h0 : R.2.1 = 0) : K 24 [.tr (ts s)] [] (.ret (.tup [.agg [.sl 0 R.1.memory.length, .tr (ti R.1.shared), .tr (ti R.1.locks), .tr (ti R.1.buffer), .sl 1 R.1.cores.length], .tr (ti 0), .tr (ti 0)])) [some (memBk R.1.memory), some (coresBk R.1.cores)] := by
  refine Ctr.new [] hT hmix Tryz.func24 rfl (fun _ _ => by kernel_rfl) rfl fun hok => ?_
  have hsz := (hok.slot 0 rfl).tr.str
  clear hok
  conv => whnf
  refine csplit (fun hbig => ?_) (fun hsm => ?_)
  · replace hR := hR.trans (parseS4 hbig)
    conv => whnf
    exfalso
    rw [hR] at h0
    exact absurd h0 (by decide)
  have hsm : s.size ≤ 16777216 := by have := of_decide_eq_false hsm; omega
  have hH : R = parseH s := by rw [hR]; unfold parseS; rw [show decide ((s.size : Int) > 16777216) = false from decide_eq_false (by omega)]; rfl
  clear hR
  conv => whnf
  refine LoopL.by (pJ s) (pI s R) (pMu s) .h [0, 7] [] (Sub.mk' rfl ⟨.inl rfl, ⟨rfl, rfl⟩, ⟨rfl, rfl⟩, .inl rfl, .inl rfl, trivial⟩ (by repeat' (first | exact trivial | exact Or.inl (ti_succ (by assumption) (by assumption)) | exact Or.inl rfl | exact rfl | exact Nat.le_refl _ | apply And.intro)) rfl rfl) hH ?_
  clear hH
  rintro x hI -
  cases x with
  | h =>
    replace hI : R = parseH s := hI
    have hi := k_indexByte (s.extract 0 s.size) 10
    have hd := lnl_lt s (Nat.zero_le _)
    unfold parseH at hI
    have hln : idxB (s.extract 0 s.size) 10 = lnl s 0 := rfl
    rw [hln] at hi
    generalize lnl s 0 = n at hi hd hI
    conv => whnf
    refine ⟨by decide, (show (0 : Int) ≤ s.size by omega), Int.le_refl _, ?_⟩
    conv => whnf
    refine acall.pure _ (hi) rfl rfl fun _ => ?_
    conv => whnf
    refine csplit (fun hn => ?_) (fun hn => ?_)
    · replace hn : decide (n < 0) = true := hn
      rw [hn] at hI
      replace hI : R = (emptyO, 161, 0) := hI
      conv => whnf
      (exfalso; rw [hI] at h0; exact absurd (show (161 : Int) = 0 from h0) (by decide))
    replace hn : decide (n < 0) = false := hn
    rw [hn] at hI
    obtain ⟨hd1, hd2⟩ := hd hn
    generalize n.toNat = N at hd1 hd2 hI
    subst hd1
    have hk := k_head (s.extract 0 (0 + N)) (by rw [ByteArray.size_extract]; omega)
    have hw : IntKind.i64.wrap (0 + (N : Int)) = ((0 + N : Nat) : Int) := by rw [w64 (by omega) (by omega)]; omega
    have hw2 : IntKind.i64.wrap (0 + IntKind.i64.wrap ((N : Int) + 1)) = ((0 + N + 1 : Nat) : Int) := by rw [w64 (n := (N : Int) + 1) (by omega) (by omega), w64 (by omega) (by omega)]; omega
    have hx : s.extract 0 (IntKind.i64.wrap (0 + (N : Int))).toNat = s.extract 0 (0 + N) := by rw [hw]; rfl
    refine ⟨by decide, (show (0 : Int) ≤ IntKind.i64.wrap (0 + (N : Int)) by rw [hw]; omega), (show IntKind.i64.wrap (0 + (N : Int)) ≤ s.size by rw [hw]; omega), ?_⟩
    conv => whnf
    have hI : R = match headL (splitBl (s.extract 0 (0 + N))) with
      | none => (emptyO, 161, 0)
      | some (a, b, c) => parseM s a b c (0 + N + 1) := hI
    generalize headL (splitBl (s.extract 0 (0 + N))) = L at hk hI
    cases L with
    | none =>
      replace hI : R = (emptyO, 161, 0) := hI
      refine acall.new [1] [] _ _ _ _ hk rfl rfl rfl rfl ⟨⟨rfl, rfl⟩, .inl (congrArg ts hx), trivial⟩ (by repeat' (first | exact trivial | exact Or.inl (ti_succ (by assumption) (by assumption)) | exact Or.inl rfl | exact rfl | exact Nat.le_refl _ | apply And.intro)) rfl rfl fun _ => ?_
      conv => whnf
      (exfalso; rw [hI] at h0; exact absurd (show (161 : Int) = 0 from h0) (by decide))
    | some v =>
      obtain ⟨a, b, c⟩ := v
      replace hI : R = parseM s a b c (0 + N + 1) := hI
      refine acall.new [1] [] _ _ _ _ hk rfl rfl rfl rfl ⟨⟨rfl, rfl⟩, .inl (congrArg ts hx), trivial⟩ (by repeat' (first | exact trivial | exact Or.inl (ti_succ (by assumption) (by assumption)) | exact Or.inl rfl | exact rfl | exact Nat.le_refl _ | apply And.intro)) rfl rfl fun _ => ?_
      conv => whnf
      exact ⟨.m a b c (0 + N + 1), [0, 1], [], Sub.mk' rfl ⟨.inl rfl, ⟨rfl, rfl⟩, ⟨rfl, rfl⟩, .inl (congrArg ti hw2), .inl rfl, trivial⟩ (by repeat' (first | exact trivial | exact Or.inl (ti_succ (by assumption) (by assumption)) | exact Or.inl rfl | exact rfl | exact Nat.le_refl _ | apply And.intro)) rfl rfl, ⟨by omega, hI⟩, by show s.size + 1 < s.size + 2; omega⟩
  | m a b c at_ =>
    obtain ⟨hat, hI⟩ := hI
    have hi := k_indexByte (s.extract at_ s.size) 10
    have hd := lnl_lt s hat
    unfold parseM at hI
    have hln : idxB (s.extract at_ s.size) 10 = lnl s at_ := rfl
    rw [hln] at hi
    generalize lnl s at_ = n at hi hd hI
    conv => whnf
    refine ⟨(show (0 : Int) ≤ at_ by omega), (show (at_ : Int) ≤ s.size by omega), Int.le_refl _, ?_⟩
    conv => whnf
    refine acall.pure _ (hi) rfl rfl fun _ => ?_
    conv => whnf
    refine csplit (fun hn => ?_) (fun hn => ?_)
    · replace hn : decide (n < 0) = true := hn
      rw [hn] at hI
      replace hI : R = (emptyO, 161, (at_ : Int)) := hI
      conv => whnf
      (exfalso; rw [hI] at h0; exact absurd (show (161 : Int) = 0 from h0) (by decide))
    replace hn : decide (n < 0) = false := hn
    rw [hn] at hI
    obtain ⟨hd1, hd2⟩ := hd hn
    generalize n.toNat = N at hd1 hd2 hI
    subst hd1
    have hk := k_memory (s.extract at_ (at_ + N)) (by rw [ByteArray.size_extract]; omega) a b c
    have hw : IntKind.i64.wrap ((at_ : Int) + (N : Int)) = ((at_ + N : Nat) : Int) := by rw [w64 (by omega) (by omega)]; omega
    have hw2 : IntKind.i64.wrap ((at_ : Int) + IntKind.i64.wrap ((N : Int) + 1)) = ((at_ + N + 1 : Nat) : Int) := by rw [w64 (n := (N : Int) + 1) (by omega) (by omega), w64 (by omega) (by omega)]; omega
    have hx : s.extract at_ (IntKind.i64.wrap ((at_ : Int) + (N : Int))).toNat = s.extract at_ (at_ + N) := by rw [hw]; rfl
    refine ⟨(show (0 : Int) ≤ at_ by omega), (show (at_ : Int) ≤ IntKind.i64.wrap ((at_ : Int) + (N : Int)) by rw [hw]; omega), (show IntKind.i64.wrap ((at_ : Int) + (N : Int)) ≤ s.size by rw [hw]; omega), ?_⟩
    conv => whnf
    have hI : R = match memL (splitBl (s.extract at_ (at_ + N))) with
      | none => (emptyO, 161, (at_ : Int))
      | some mem => parseR mem a b c (parseG s (s.size - (at_ + N + 1)) (at_ + N + 1) []) := hI
    generalize memL (splitBl (s.extract at_ (at_ + N))) = L at hk hI
    cases L with
    | none =>
      replace hI : R = (emptyO, 161, (at_ : Int)) := hI
      refine acall.new [1] [] _ _ _ _ hk rfl rfl rfl rfl ⟨⟨rfl, rfl⟩, .inl (congrArg ts hx), trivial⟩ (by repeat' (first | exact trivial | exact Or.inl (ti_succ (by assumption) (by assumption)) | exact Or.inl rfl | exact rfl | exact Nat.le_refl _ | apply And.intro)) rfl rfl fun _ => ?_
      conv => whnf
      (exfalso; rw [hI] at h0; exact absurd (show (161 : Int) = 0 from h0) (by decide))
    | some mem =>
      replace hI : R = parseR mem a b c (parseG s (s.size - (at_ + N + 1)) (at_ + N + 1) []) := hI
      refine acall.new [1] [] _ _ _ _ hk rfl rfl rfl rfl ⟨⟨rfl, rfl⟩, .inl (congrArg ts hx), trivial⟩ (by repeat' (first | exact trivial | exact Or.inl (ti_succ (by assumption) (by assumption)) | exact Or.inl rfl | exact rfl | exact Nat.le_refl _ | apply And.intro)) rfl rfl fun _ => ?_
      conv => whnf
      exact ⟨.r 2 (at_ + N + 1) mem a b c [], [0, 1, 40], [3], Sub.mk' rfl ⟨.inl rfl, ⟨rfl, rfl⟩, ⟨rfl, rfl⟩, .inl (congrArg ti hw2), .inl rfl, trivial⟩
        ⟨⟨rfl, .inl rfl, .inl rfl, .inl rfl, .inl rfl, .inl rfl, trivial⟩, ⟨rfl, ⟨rfl, rfl⟩, .inl rfl, .inl rfl, .inl rfl, ⟨rfl, rfl, rfl, rfl⟩, trivial⟩, ⟨rfl, rfl, rfl, rfl⟩, ⟨rfl, rfl, rfl, by omega⟩, trivial⟩ rfl rfl,
        ⟨by omega, by omega, by omega, Nat.zero_le _, (fun c hc => absurd hc (by simp)), hI⟩, by show s.size - (at_ + N + 1) < s.size + 1; omega⟩
  | r k at_ mem a b c cs =>
    obtain ⟨hk2, hka, hat, hcl, hcd, hI⟩ := hI
    conv => whnf
    refine csplit (fun h2 => ?_) (fun h2 => ?_)
    · exfalso
      have := of_decide_eq_true h2
      omega
    conv => whnf
    refine csplit (fun h3 => ?_) (fun h3 => ?_)
    · have hlt : at_ < s.size := by have := of_decide_eq_true h3; omega
      have hi := k_indexByte (s.extract at_ s.size) 10
      have hd := lnl_lt s hat
      rw [parseG_at hlt] at hI
      have hln : idxB (s.extract at_ s.size) 10 = lnl s at_ := rfl
      rw [hln] at hi
      generalize lnl s at_ = n at hi hd hI
      conv => whnf
      refine ⟨(show (0 : Int) ≤ at_ by omega), (show (at_ : Int) ≤ s.size by omega), Int.le_refl _, ?_⟩
      conv => whnf
      refine acall.pure _ (hi) rfl rfl fun _ => ?_
      conv => whnf
      refine csplit (fun h4 => ?_) (fun h4 => ?_)
      · exfalso
        have : (k : Int) = 0 := by simpa using h4
        omega
      conv => whnf
      refine csplit (fun h5 => ?_) (fun h5 => ?_)
      · exfalso
        have : (k : Int) = 1 := by simpa using h5
        omega
      conv => whnf
      refine csplit (fun hn => ?_) (fun hn => ?_)
      · replace hn : decide (n < 0) = true := hn
        rw [hn] at hI
        replace hI : R = (emptyO, 161, (at_ : Int)) := hI
        conv => whnf
        (exfalso; rw [hI] at h0; exact absurd (show (161 : Int) = 0 from h0) (by decide))
      replace hn : decide (n < 0) = false := hn
      rw [hn] at hI
      obtain ⟨hd1, hd2⟩ := hd hn
      generalize n.toNat = N at hd1 hd2 hI
      subst hd1
      have hls : (s.extract at_ (at_ + N)).size < 4294967281 := by rw [ByteArray.size_extract]; omega
      have hw : IntKind.i64.wrap ((at_ : Int) + (N : Int)) = ((at_ + N : Nat) : Int) := by rw [w64 (by omega) (by omega)]; omega
      have hw2 : IntKind.i64.wrap ((at_ : Int) + IntKind.i64.wrap ((N : Int) + 1)) = ((at_ + N + 1 : Nat) : Int) := by rw [w64 (n := (N : Int) + 1) (by omega) (by omega), w64 (by omega) (by omega)]; omega
      have hk3 : IntKind.i64.wrap ((k : Int) + 1) = ((k + 1 : Nat) : Int) := by rw [w64 (by omega) (by omega)]; omega
      have hx : s.extract at_ (IntKind.i64.wrap ((at_ : Int) + (N : Int))).toNat = s.extract at_ (at_ + N) := by rw [hw]; rfl
      refine ⟨(show (0 : Int) ≤ at_ by omega), (show (at_ : Int) ≤ IntKind.i64.wrap ((at_ : Int) + (N : Int)) by rw [hw]; omega), (show IntKind.i64.wrap ((at_ : Int) + (N : Int)) ≤ s.size by rw [hw]; omega), ?_⟩
      conv => whnf
      have hfu : ∀ cs', parseG s (s.size - at_ - 1) (at_ + N + 1) cs' = parseG s (s.size - (at_ + N + 1)) (at_ + N + 1) cs' := fun cs' => parseG_fuel s _ _ _ _ (by omega) (by omega)
      have hI : R = parseR mem a b c (match furtherS cs (s.extract at_ (at_ + N)) with
        | none => ([], some at_)
        | some cs' => parseG s (s.size - at_ - 1) (at_ + N + 1) cs') := hI
      cases hC : isCore (splitBl (s.extract at_ (at_ + N))) with
      | some nm =>
        have hF : furtherS cs (s.extract at_ (at_ + N)) = some (cs ++ [newC nm]) := by unfold furtherS; rw [hC]
        rw [hF] at hI
        replace hI : R = parseR mem a b c (parseG s (s.size - at_ - 1) (at_ + N + 1) (cs ++ [newC nm])) := hI
        rw [hfu] at hI
        refine acall.new [1, 2, 3] [] _ _ _ _ (k_furtherC (s.extract at_ (at_ + N)) hls mem a b c cs (by omega) nm hC) rfl rfl rfl rfl ⟨⟨rfl, rfl⟩, .inl (congrArg ts hx), trivial⟩ ⟨⟨rfl, ⟨rfl, rfl⟩, .inl rfl, .inl rfl, .inl rfl, ⟨rfl, rfl⟩, trivial⟩, ⟨rfl, rfl, rfl, rfl⟩, ⟨rfl, rfl, rfl, rfl, .inl rfl⟩, trivial⟩ rfl rfl fun _ => ?_
        conv => whnf
        refine ⟨.r (k + 1) (at_ + N + 1) mem a b c (cs ++ [newC nm]), [0, 1, 2, 39], [], Sub.mk' rfl ⟨.inl rfl, ⟨rfl, rfl⟩, ⟨rfl, rfl⟩, .inl (congrArg ti hw2), .inl (congrArg ti hk3), trivial⟩ ⟨⟨rfl, .inl rfl, .inl rfl, .inl rfl, .inl rfl, .inl rfl, trivial⟩, ⟨rfl, ⟨rfl, rfl⟩, .inl rfl, .inl rfl, .inl rfl, ⟨rfl, rfl⟩, trivial⟩, ⟨rfl, rfl, rfl, rfl⟩, ⟨rfl, rfl, rfl, rfl, .inl rfl⟩, trivial⟩ rfl rfl, ⟨by omega, by omega, by omega, ?_, ?_, hI⟩, by show s.size - (at_ + N + 1) < s.size - at_; omega⟩
        · simp only [List.length_append, List.length_cons, List.length_nil]; omega
        · intro d hd
          rcases List.mem_append.1 hd with hd | hd
          · have := hcd d hd; omega
          · simp only [List.mem_singleton] at hd; subst hd; exact Nat.zero_le _
      | none =>
        by_cases hgo : (instrS (s.extract at_ (at_ + N))).2 = true ∧ cs.length ≠ 0
        · obtain ⟨g1, g2⟩ := hgo
          have hF : furtherS cs (s.extract at_ (at_ + N)) = some (addI cs (instrS (s.extract at_ (at_ + N))).1) := by
            unfold furtherS; rw [hC]
            show (bif !(instrS (s.extract at_ (at_ + N))).2 || (cs.length : Int) == 0 then none else some _) = _
            rw [g1, show ((cs.length : Int) == 0) = false from beq_eq_false_iff_ne.2 (by omega)]; rfl
          rw [hF] at hI
          replace hI : R = parseR mem a b c (parseG s (s.size - at_ - 1) (at_ + N + 1) (addI cs (instrS (s.extract at_ (at_ + N))).1)) := hI
          rw [hfu] at hI
          refine acall.new [1, 2, 3] [] _ _ _ _ (k_furtherI (s.extract at_ (at_ + N)) hls mem a b c cs (by omega) (fun d hd => Nat.le_trans (hcd d hd) (by omega)) hC g1 g2) rfl rfl rfl rfl ⟨⟨rfl, rfl⟩, .inl (congrArg ts hx), trivial⟩ ⟨⟨rfl, ⟨rfl, rfl⟩, .inl rfl, .inl rfl, .inl rfl, ⟨rfl, rfl⟩, trivial⟩, ⟨rfl, rfl, rfl, rfl⟩, ⟨rfl, rfl, rfl, rfl, .inl rfl⟩, trivial⟩ rfl rfl fun _ => ?_
          conv => whnf
          refine ⟨.r (k + 1) (at_ + N + 1) mem a b c (addI cs (instrS (s.extract at_ (at_ + N))).1), [0, 1, 2, 3], [], Sub.mk' rfl ⟨.inl rfl, ⟨rfl, rfl⟩, ⟨rfl, rfl⟩, .inl (congrArg ti hw2), .inl (congrArg ti hk3), trivial⟩ ⟨⟨rfl, .inl rfl, .inl rfl, .inl rfl, .inl rfl, .inl rfl, trivial⟩, ⟨rfl, ⟨rfl, rfl⟩, .inl rfl, .inl rfl, .inl rfl, ⟨rfl, rfl⟩, trivial⟩, ⟨rfl, rfl, rfl, rfl⟩, ⟨rfl, rfl, rfl, rfl, .inl rfl⟩, trivial⟩ rfl rfl, ⟨by omega, by omega, by omega, ?_, ?_, hI⟩, by show s.size - (at_ + N + 1) < s.size - at_; omega⟩
          · rw [addI_len]; omega
          · intro d hd
            have := addI_code hcd d hd
            omega
        · have hF : furtherS cs (s.extract at_ (at_ + N)) = none := by
            unfold furtherS; rw [hC]
            show (bif !(instrS (s.extract at_ (at_ + N))).2 || (cs.length : Int) == 0 then none else some _) = _
            cases hb : (instrS (s.extract at_ (at_ + N))).2
            · rfl
            · rw [show ((cs.length : Int) == 0) = true from by rw [Classical.not_not.1 (fun hne => hgo ⟨hb, hne⟩)]; rfl]; rfl
          rw [hF] at hI
          replace hI : R = (emptyO, 161, (at_ : Int)) := hI
          refine acall.new [1, 2, 3] [] _ _ _ _ (k_furtherN (s.extract at_ (at_ + N)) hls mem a b c cs hC (fun hb => Classical.not_not.1 fun hne => hgo ⟨hb, hne⟩)) rfl rfl rfl rfl ⟨⟨rfl, rfl⟩, .inl (congrArg ts hx), trivial⟩ ⟨⟨rfl, ⟨rfl, rfl⟩, .inl rfl, .inl rfl, .inl rfl, ⟨rfl, rfl⟩, trivial⟩, ⟨rfl, rfl, rfl, rfl⟩, ⟨rfl, rfl, rfl, rfl, .inl rfl⟩, trivial⟩ rfl rfl fun _ => ?_
          conv => whnf
          (exfalso; rw [hI] at h0; exact absurd (show (161 : Int) = 0 from h0) (by decide))
    · have hge : s.size ≤ at_ := by have := of_decide_eq_false h3; omega
      rw [parseG_end hge] at hI
      replace hI : R = doneP ⟨mem, a, b, c, cs⟩ := hI
      conv => whnf
      refine ⟨fun _ => ?_, fun h => absurd rfl h⟩
      conv => whnf
      have hk := k_check ⟨mem, a, b, c, cs⟩
      unfold doneP at hI
      generalize checkO ⟨mem, a, b, c, cs⟩ = Q at hk hI
      refine acall.gen [] [2, 3] _ _ _ _ hk rfl rfl rfl rfl ⟨⟨⟨rfl, by simp, by rw [List.take_of_length_le (by simp)]⟩, .inl rfl, .inl rfl, .inl rfl, ⟨rfl, by simp, by rw [List.take_of_length_le (by simp)]⟩, trivial⟩, trivial⟩ trivial rfl rfl fun _ => ?_
      conv => whnf
      refine csplit (fun hq => ?_) (fun hq => ?_)
      · replace hq : (Q.1 != 0) = true := hq
        rw [hq] at hI
        replace hI : R = (emptyO, Q.1, 0) := hI
        conv => whnf
        exfalso
        rw [hI] at h0
        rw [show Q.1 = 0 from h0] at hq
        cases hq
      · replace hq : (Q.1 != 0) = false := hq
        rw [hq] at hI
        replace hI : R = (⟨mem, a, b, c, cs⟩, 0, 0) := hI
        rw [hI]
        conv => whnf
        exact ⟨[2, 3], rfl, rfl, ⟨⟨⟨rfl, rfl⟩, .inl rfl, .inl rfl, .inl rfl, ⟨rfl, rfl⟩, trivial⟩, .inl rfl, .inl rfl, trivial⟩, ⟨rfl, rfl, rfl, rfl⟩, ⟨rfl, rfl, rfl, rfl, .inl rfl⟩, trivial⟩
set_option maxRecDepth 100000 in
set_option maxHeartbeats 2000000 in
theorem k_parseA (s : ByteArray) {R : Ob × Int × Int} (hR : R = parseS s) : K 24 [.tr (ts s)] [] (.ret (.tup [R.1.av, .tr (ti R.2.1), .tr (ti R.2.2)])) [] := by
  refine Ctr.new [] hT hmix Tryz.func24 rfl (fun _ _ => by kernel_rfl) rfl fun hok => ?_
  have hsz := (hok.slot 0 rfl).tr.str
  clear hok
  conv => whnf
  refine csplit (fun hbig => ?_) (fun hsm => ?_)
  · replace hR := hR.trans (parseS4 hbig)
    conv => whnf
    rw [hR]
    exact ⟨[], rfl, rfl, (by repeat' (first | exact trivial | exact Or.inl rfl | exact Or.inr ⟨rfl, _, _, rfl⟩ | exact rfl | exact Nat.le_refl _ | apply And.intro))⟩
  have hsm : s.size ≤ 16777216 := by have := of_decide_eq_false hsm; omega
  have hH : R = parseH s := by rw [hR]; unfold parseS; rw [show decide ((s.size : Int) > 16777216) = false from decide_eq_false (by omega)]; rfl
  clear hR
  conv => whnf
  refine LoopL.by (pJ s) (pI s R) (pMu s) .h [0, 7] [] (Sub.mk' rfl ⟨.inl rfl, ⟨rfl, rfl⟩, ⟨rfl, rfl⟩, .inl rfl, .inl rfl, trivial⟩ (by repeat' (first | exact trivial | exact Or.inl (ti_succ (by assumption) (by assumption)) | exact Or.inl rfl | exact rfl | exact Nat.le_refl _ | apply And.intro)) rfl rfl) hH ?_
  clear hH
  rintro x hI -
  cases x with
  | h =>
    replace hI : R = parseH s := hI
    have hi := k_indexByte (s.extract 0 s.size) 10
    have hd := lnl_lt s (Nat.zero_le _)
    unfold parseH at hI
    have hln : idxB (s.extract 0 s.size) 10 = lnl s 0 := rfl
    rw [hln] at hi
    generalize lnl s 0 = n at hi hd hI
    conv => whnf
    refine ⟨by decide, (show (0 : Int) ≤ s.size by omega), Int.le_refl _, ?_⟩
    conv => whnf
    refine acall.pure _ (hi) rfl rfl fun _ => ?_
    conv => whnf
    refine csplit (fun hn => ?_) (fun hn => ?_)
    · replace hn : decide (n < 0) = true := hn
      rw [hn] at hI
      replace hI : R = (emptyO, 161, 0) := hI
      conv => whnf
      (rw [hI]; exact ⟨[], rfl, rfl, (by repeat' (first | exact trivial | exact Or.inl rfl | exact Or.inr ⟨rfl, _, _, rfl⟩ | exact rfl | exact Nat.le_refl _ | apply And.intro))⟩)
    replace hn : decide (n < 0) = false := hn
    rw [hn] at hI
    obtain ⟨hd1, hd2⟩ := hd hn
    generalize n.toNat = N at hd1 hd2 hI
    subst hd1
    have hk := k_head (s.extract 0 (0 + N)) (by rw [ByteArray.size_extract]; omega)
    have hw : IntKind.i64.wrap (0 + (N : Int)) = ((0 + N : Nat) : Int) := by rw [w64 (by omega) (by omega)]; omega
    have hw2 : IntKind.i64.wrap (0 + IntKind.i64.wrap ((N : Int) + 1)) = ((0 + N + 1 : Nat) : Int) := by rw [w64 (n := (N : Int) + 1) (by omega) (by omega), w64 (by omega) (by omega)]; omega
    have hx : s.extract 0 (IntKind.i64.wrap (0 + (N : Int))).toNat = s.extract 0 (0 + N) := by rw [hw]; rfl
    refine ⟨by decide, (show (0 : Int) ≤ IntKind.i64.wrap (0 + (N : Int)) by rw [hw]; omega), (show IntKind.i64.wrap (0 + (N : Int)) ≤ s.size by rw [hw]; omega), ?_⟩
    conv => whnf
    have hI : R = match headL (splitBl (s.extract 0 (0 + N))) with
      | none => (emptyO, 161, 0)
      | some (a, b, c) => parseM s a b c (0 + N + 1) := hI
    generalize headL (splitBl (s.extract 0 (0 + N))) = L at hk hI
    cases L with
    | none =>
      replace hI : R = (emptyO, 161, 0) := hI
      refine acall.new [1] [] _ _ _ _ hk rfl rfl rfl rfl ⟨⟨rfl, rfl⟩, .inl (congrArg ts hx), trivial⟩ (by repeat' (first | exact trivial | exact Or.inl (ti_succ (by assumption) (by assumption)) | exact Or.inl rfl | exact rfl | exact Nat.le_refl _ | apply And.intro)) rfl rfl fun _ => ?_
      conv => whnf
      (rw [hI]; exact ⟨[], rfl, rfl, (by repeat' (first | exact trivial | exact Or.inl rfl | exact Or.inr ⟨rfl, _, _, rfl⟩ | exact rfl | exact Nat.le_refl _ | apply And.intro))⟩)
    | some v =>
      obtain ⟨a, b, c⟩ := v
      replace hI : R = parseM s a b c (0 + N + 1) := hI
      refine acall.new [1] [] _ _ _ _ hk rfl rfl rfl rfl ⟨⟨rfl, rfl⟩, .inl (congrArg ts hx), trivial⟩ (by repeat' (first | exact trivial | exact Or.inl (ti_succ (by assumption) (by assumption)) | exact Or.inl rfl | exact rfl | exact Nat.le_refl _ | apply And.intro)) rfl rfl fun _ => ?_
      conv => whnf
      exact ⟨.m a b c (0 + N + 1), [0, 1], [], Sub.mk' rfl ⟨.inl rfl, ⟨rfl, rfl⟩, ⟨rfl, rfl⟩, .inl (congrArg ti hw2), .inl rfl, trivial⟩ (by repeat' (first | exact trivial | exact Or.inl (ti_succ (by assumption) (by assumption)) | exact Or.inl rfl | exact rfl | exact Nat.le_refl _ | apply And.intro)) rfl rfl, ⟨by omega, hI⟩, by show s.size + 1 < s.size + 2; omega⟩
  | m a b c at_ =>
    obtain ⟨hat, hI⟩ := hI
    have hi := k_indexByte (s.extract at_ s.size) 10
    have hd := lnl_lt s hat
    unfold parseM at hI
    have hln : idxB (s.extract at_ s.size) 10 = lnl s at_ := rfl
    rw [hln] at hi
    generalize lnl s at_ = n at hi hd hI
    conv => whnf
    refine ⟨(show (0 : Int) ≤ at_ by omega), (show (at_ : Int) ≤ s.size by omega), Int.le_refl _, ?_⟩
    conv => whnf
    refine acall.pure _ (hi) rfl rfl fun _ => ?_
    conv => whnf
    refine csplit (fun hn => ?_) (fun hn => ?_)
    · replace hn : decide (n < 0) = true := hn
      rw [hn] at hI
      replace hI : R = (emptyO, 161, (at_ : Int)) := hI
      conv => whnf
      (rw [hI]; exact ⟨[], rfl, rfl, (by repeat' (first | exact trivial | exact Or.inl rfl | exact Or.inr ⟨rfl, _, _, rfl⟩ | exact rfl | exact Nat.le_refl _ | apply And.intro))⟩)
    replace hn : decide (n < 0) = false := hn
    rw [hn] at hI
    obtain ⟨hd1, hd2⟩ := hd hn
    generalize n.toNat = N at hd1 hd2 hI
    subst hd1
    have hk := k_memory (s.extract at_ (at_ + N)) (by rw [ByteArray.size_extract]; omega) a b c
    have hw : IntKind.i64.wrap ((at_ : Int) + (N : Int)) = ((at_ + N : Nat) : Int) := by rw [w64 (by omega) (by omega)]; omega
    have hw2 : IntKind.i64.wrap ((at_ : Int) + IntKind.i64.wrap ((N : Int) + 1)) = ((at_ + N + 1 : Nat) : Int) := by rw [w64 (n := (N : Int) + 1) (by omega) (by omega), w64 (by omega) (by omega)]; omega
    have hx : s.extract at_ (IntKind.i64.wrap ((at_ : Int) + (N : Int))).toNat = s.extract at_ (at_ + N) := by rw [hw]; rfl
    refine ⟨(show (0 : Int) ≤ at_ by omega), (show (at_ : Int) ≤ IntKind.i64.wrap ((at_ : Int) + (N : Int)) by rw [hw]; omega), (show IntKind.i64.wrap ((at_ : Int) + (N : Int)) ≤ s.size by rw [hw]; omega), ?_⟩
    conv => whnf
    have hI : R = match memL (splitBl (s.extract at_ (at_ + N))) with
      | none => (emptyO, 161, (at_ : Int))
      | some mem => parseR mem a b c (parseG s (s.size - (at_ + N + 1)) (at_ + N + 1) []) := hI
    generalize memL (splitBl (s.extract at_ (at_ + N))) = L at hk hI
    cases L with
    | none =>
      replace hI : R = (emptyO, 161, (at_ : Int)) := hI
      refine acall.new [1] [] _ _ _ _ hk rfl rfl rfl rfl ⟨⟨rfl, rfl⟩, .inl (congrArg ts hx), trivial⟩ (by repeat' (first | exact trivial | exact Or.inl (ti_succ (by assumption) (by assumption)) | exact Or.inl rfl | exact rfl | exact Nat.le_refl _ | apply And.intro)) rfl rfl fun _ => ?_
      conv => whnf
      (rw [hI]; exact ⟨[], rfl, rfl, (by repeat' (first | exact trivial | exact Or.inl rfl | exact Or.inr ⟨rfl, _, _, rfl⟩ | exact rfl | exact Nat.le_refl _ | apply And.intro))⟩)
    | some mem =>
      replace hI : R = parseR mem a b c (parseG s (s.size - (at_ + N + 1)) (at_ + N + 1) []) := hI
      refine acall.new [1] [] _ _ _ _ hk rfl rfl rfl rfl ⟨⟨rfl, rfl⟩, .inl (congrArg ts hx), trivial⟩ (by repeat' (first | exact trivial | exact Or.inl (ti_succ (by assumption) (by assumption)) | exact Or.inl rfl | exact rfl | exact Nat.le_refl _ | apply And.intro)) rfl rfl fun _ => ?_
      conv => whnf
      exact ⟨.r 2 (at_ + N + 1) mem a b c [], [0, 1, 40], [3], Sub.mk' rfl ⟨.inl rfl, ⟨rfl, rfl⟩, ⟨rfl, rfl⟩, .inl (congrArg ti hw2), .inl rfl, trivial⟩
        ⟨⟨rfl, .inl rfl, .inl rfl, .inl rfl, .inl rfl, .inl rfl, trivial⟩, ⟨rfl, ⟨rfl, rfl⟩, .inl rfl, .inl rfl, .inl rfl, ⟨rfl, rfl, rfl, rfl⟩, trivial⟩, ⟨rfl, rfl, rfl, rfl⟩, ⟨rfl, rfl, rfl, by omega⟩, trivial⟩ rfl rfl,
        ⟨by omega, by omega, by omega, Nat.zero_le _, (fun c hc => absurd hc (by simp)), hI⟩, by show s.size - (at_ + N + 1) < s.size + 1; omega⟩
  | r k at_ mem a b c cs =>
    obtain ⟨hk2, hka, hat, hcl, hcd, hI⟩ := hI
    conv => whnf
    refine csplit (fun h2 => ?_) (fun h2 => ?_)
    · exfalso
      have := of_decide_eq_true h2
      omega
    conv => whnf
    refine csplit (fun h3 => ?_) (fun h3 => ?_)
    · have hlt : at_ < s.size := by have := of_decide_eq_true h3; omega
      have hi := k_indexByte (s.extract at_ s.size) 10
      have hd := lnl_lt s hat
      rw [parseG_at hlt] at hI
      have hln : idxB (s.extract at_ s.size) 10 = lnl s at_ := rfl
      rw [hln] at hi
      generalize lnl s at_ = n at hi hd hI
      conv => whnf
      refine ⟨(show (0 : Int) ≤ at_ by omega), (show (at_ : Int) ≤ s.size by omega), Int.le_refl _, ?_⟩
      conv => whnf
      refine acall.pure _ (hi) rfl rfl fun _ => ?_
      conv => whnf
      refine csplit (fun h4 => ?_) (fun h4 => ?_)
      · exfalso
        have : (k : Int) = 0 := by simpa using h4
        omega
      conv => whnf
      refine csplit (fun h5 => ?_) (fun h5 => ?_)
      · exfalso
        have : (k : Int) = 1 := by simpa using h5
        omega
      conv => whnf
      refine csplit (fun hn => ?_) (fun hn => ?_)
      · replace hn : decide (n < 0) = true := hn
        rw [hn] at hI
        replace hI : R = (emptyO, 161, (at_ : Int)) := hI
        conv => whnf
        (rw [hI]; exact ⟨[], rfl, rfl, (by repeat' (first | exact trivial | exact Or.inl rfl | exact Or.inr ⟨rfl, _, _, rfl⟩ | exact rfl | exact Nat.le_refl _ | apply And.intro))⟩)
      replace hn : decide (n < 0) = false := hn
      rw [hn] at hI
      obtain ⟨hd1, hd2⟩ := hd hn
      generalize n.toNat = N at hd1 hd2 hI
      subst hd1
      have hls : (s.extract at_ (at_ + N)).size < 4294967281 := by rw [ByteArray.size_extract]; omega
      have hw : IntKind.i64.wrap ((at_ : Int) + (N : Int)) = ((at_ + N : Nat) : Int) := by rw [w64 (by omega) (by omega)]; omega
      have hw2 : IntKind.i64.wrap ((at_ : Int) + IntKind.i64.wrap ((N : Int) + 1)) = ((at_ + N + 1 : Nat) : Int) := by rw [w64 (n := (N : Int) + 1) (by omega) (by omega), w64 (by omega) (by omega)]; omega
      have hk3 : IntKind.i64.wrap ((k : Int) + 1) = ((k + 1 : Nat) : Int) := by rw [w64 (by omega) (by omega)]; omega
      have hx : s.extract at_ (IntKind.i64.wrap ((at_ : Int) + (N : Int))).toNat = s.extract at_ (at_ + N) := by rw [hw]; rfl
      refine ⟨(show (0 : Int) ≤ at_ by omega), (show (at_ : Int) ≤ IntKind.i64.wrap ((at_ : Int) + (N : Int)) by rw [hw]; omega), (show IntKind.i64.wrap ((at_ : Int) + (N : Int)) ≤ s.size by rw [hw]; omega), ?_⟩
      conv => whnf
      have hfu : ∀ cs', parseG s (s.size - at_ - 1) (at_ + N + 1) cs' = parseG s (s.size - (at_ + N + 1)) (at_ + N + 1) cs' := fun cs' => parseG_fuel s _ _ _ _ (by omega) (by omega)
      have hI : R = parseR mem a b c (match furtherS cs (s.extract at_ (at_ + N)) with
        | none => ([], some at_)
        | some cs' => parseG s (s.size - at_ - 1) (at_ + N + 1) cs') := hI
      cases hC : isCore (splitBl (s.extract at_ (at_ + N))) with
      | some nm =>
        have hF : furtherS cs (s.extract at_ (at_ + N)) = some (cs ++ [newC nm]) := by unfold furtherS; rw [hC]
        rw [hF] at hI
        replace hI : R = parseR mem a b c (parseG s (s.size - at_ - 1) (at_ + N + 1) (cs ++ [newC nm])) := hI
        rw [hfu] at hI
        refine acall.new [1, 2, 3] [] _ _ _ _ (k_furtherC (s.extract at_ (at_ + N)) hls mem a b c cs (by omega) nm hC) rfl rfl rfl rfl ⟨⟨rfl, rfl⟩, .inl (congrArg ts hx), trivial⟩ ⟨⟨rfl, ⟨rfl, rfl⟩, .inl rfl, .inl rfl, .inl rfl, ⟨rfl, rfl⟩, trivial⟩, ⟨rfl, rfl, rfl, rfl⟩, ⟨rfl, rfl, rfl, rfl, .inl rfl⟩, trivial⟩ rfl rfl fun _ => ?_
        conv => whnf
        refine ⟨.r (k + 1) (at_ + N + 1) mem a b c (cs ++ [newC nm]), [0, 1, 2, 39], [], Sub.mk' rfl ⟨.inl rfl, ⟨rfl, rfl⟩, ⟨rfl, rfl⟩, .inl (congrArg ti hw2), .inl (congrArg ti hk3), trivial⟩ ⟨⟨rfl, .inl rfl, .inl rfl, .inl rfl, .inl rfl, .inl rfl, trivial⟩, ⟨rfl, ⟨rfl, rfl⟩, .inl rfl, .inl rfl, .inl rfl, ⟨rfl, rfl⟩, trivial⟩, ⟨rfl, rfl, rfl, rfl⟩, ⟨rfl, rfl, rfl, rfl, .inl rfl⟩, trivial⟩ rfl rfl, ⟨by omega, by omega, by omega, ?_, ?_, hI⟩, by show s.size - (at_ + N + 1) < s.size - at_; omega⟩
        · simp only [List.length_append, List.length_cons, List.length_nil]; omega
        · intro d hd
          rcases List.mem_append.1 hd with hd | hd
          · have := hcd d hd; omega
          · simp only [List.mem_singleton] at hd; subst hd; exact Nat.zero_le _
      | none =>
        by_cases hgo : (instrS (s.extract at_ (at_ + N))).2 = true ∧ cs.length ≠ 0
        · obtain ⟨g1, g2⟩ := hgo
          have hF : furtherS cs (s.extract at_ (at_ + N)) = some (addI cs (instrS (s.extract at_ (at_ + N))).1) := by
            unfold furtherS; rw [hC]
            show (bif !(instrS (s.extract at_ (at_ + N))).2 || (cs.length : Int) == 0 then none else some _) = _
            rw [g1, show ((cs.length : Int) == 0) = false from beq_eq_false_iff_ne.2 (by omega)]; rfl
          rw [hF] at hI
          replace hI : R = parseR mem a b c (parseG s (s.size - at_ - 1) (at_ + N + 1) (addI cs (instrS (s.extract at_ (at_ + N))).1)) := hI
          rw [hfu] at hI
          refine acall.new [1, 2, 3] [] _ _ _ _ (k_furtherI (s.extract at_ (at_ + N)) hls mem a b c cs (by omega) (fun d hd => Nat.le_trans (hcd d hd) (by omega)) hC g1 g2) rfl rfl rfl rfl ⟨⟨rfl, rfl⟩, .inl (congrArg ts hx), trivial⟩ ⟨⟨rfl, ⟨rfl, rfl⟩, .inl rfl, .inl rfl, .inl rfl, ⟨rfl, rfl⟩, trivial⟩, ⟨rfl, rfl, rfl, rfl⟩, ⟨rfl, rfl, rfl, rfl, .inl rfl⟩, trivial⟩ rfl rfl fun _ => ?_
          conv => whnf
          refine ⟨.r (k + 1) (at_ + N + 1) mem a b c (addI cs (instrS (s.extract at_ (at_ + N))).1), [0, 1, 2, 3], [], Sub.mk' rfl ⟨.inl rfl, ⟨rfl, rfl⟩, ⟨rfl, rfl⟩, .inl (congrArg ti hw2), .inl (congrArg ti hk3), trivial⟩ ⟨⟨rfl, .inl rfl, .inl rfl, .inl rfl, .inl rfl, .inl rfl, trivial⟩, ⟨rfl, ⟨rfl, rfl⟩, .inl rfl, .inl rfl, .inl rfl, ⟨rfl, rfl⟩, trivial⟩, ⟨rfl, rfl, rfl, rfl⟩, ⟨rfl, rfl, rfl, rfl, .inl rfl⟩, trivial⟩ rfl rfl, ⟨by omega, by omega, by omega, ?_, ?_, hI⟩, by show s.size - (at_ + N + 1) < s.size - at_; omega⟩
          · rw [addI_len]; omega
          · intro d hd
            have := addI_code hcd d hd
            omega
        · have hF : furtherS cs (s.extract at_ (at_ + N)) = none := by
            unfold furtherS; rw [hC]
            show (bif !(instrS (s.extract at_ (at_ + N))).2 || (cs.length : Int) == 0 then none else some _) = _
            cases hb : (instrS (s.extract at_ (at_ + N))).2
            · rfl
            · rw [show ((cs.length : Int) == 0) = true from by rw [Classical.not_not.1 (fun hne => hgo ⟨hb, hne⟩)]; rfl]; rfl
          rw [hF] at hI
          replace hI : R = (emptyO, 161, (at_ : Int)) := hI
          refine acall.new [1, 2, 3] [] _ _ _ _ (k_furtherN (s.extract at_ (at_ + N)) hls mem a b c cs hC (fun hb => Classical.not_not.1 fun hne => hgo ⟨hb, hne⟩)) rfl rfl rfl rfl ⟨⟨rfl, rfl⟩, .inl (congrArg ts hx), trivial⟩ ⟨⟨rfl, ⟨rfl, rfl⟩, .inl rfl, .inl rfl, .inl rfl, ⟨rfl, rfl⟩, trivial⟩, ⟨rfl, rfl, rfl, rfl⟩, ⟨rfl, rfl, rfl, rfl, .inl rfl⟩, trivial⟩ rfl rfl fun _ => ?_
          conv => whnf
          (rw [hI]; exact ⟨[], rfl, rfl, (by repeat' (first | exact trivial | exact Or.inl rfl | exact Or.inr ⟨rfl, _, _, rfl⟩ | exact rfl | exact Nat.le_refl _ | apply And.intro))⟩)
    · have hge : s.size ≤ at_ := by have := of_decide_eq_false h3; omega
      rw [parseG_end hge] at hI
      replace hI : R = doneP ⟨mem, a, b, c, cs⟩ := hI
      conv => whnf
      refine ⟨fun _ => ?_, fun h => absurd rfl h⟩
      conv => whnf
      have hk := k_check ⟨mem, a, b, c, cs⟩
      unfold doneP at hI
      generalize checkO ⟨mem, a, b, c, cs⟩ = Q at hk hI
      refine acall.gen [] [2, 3] _ _ _ _ hk rfl rfl rfl rfl ⟨⟨⟨rfl, by simp, by rw [List.take_of_length_le (by simp)]⟩, .inl rfl, .inl rfl, .inl rfl, ⟨rfl, by simp, by rw [List.take_of_length_le (by simp)]⟩, trivial⟩, trivial⟩ trivial rfl rfl fun _ => ?_
      conv => whnf
      refine csplit (fun hq => ?_) (fun hq => ?_)
      · replace hq : (Q.1 != 0) = true := hq
        rw [hq] at hI
        replace hI : R = (emptyO, Q.1, 0) := hI
        conv => whnf
        rw [hI]
        exact ⟨[], rfl, rfl, (by repeat' (first | exact trivial | exact Or.inl rfl | exact Or.inr ⟨rfl, _, _, rfl⟩ | exact rfl | exact Nat.le_refl _ | apply And.intro))⟩
      · replace hq : (Q.1 != 0) = false := hq
        rw [hq] at hI
        replace hI : R = (⟨mem, a, b, c, cs⟩, 0, 0) := hI
        rw [hI]
        conv => whnf
        exact ⟨[], rfl, rfl, ⟨⟨⟨rfl, by simp, by rw [List.take_of_length_le (by simp)]⟩, .inl rfl, .inl rfl, .inl rfl, ⟨rfl, by simp, by rw [List.take_of_length_le (by simp)]⟩, trivial⟩, .inl rfl, .inl rfl, trivial⟩, trivial⟩
theorem doneP_cases (o : Ob) : (doneP o = (o, 0, 0) ∧ (checkO o).1 = 0) ∨ ∃ w, w ≠ 0 ∧ doneP o = (emptyO, w, 0) := by
  unfold doneP
  by_cases h : (checkO o).1 = 0
  · left; rw [show ((checkO o).1 != 0) = false by rw [h]; rfl]; exact ⟨rfl, h⟩
  · right; refine ⟨_, h, ?_⟩; rw [show ((checkO o).1 != 0) = true by simpa using h]; rfl
theorem parseS_cases (s : ByteArray) : (∃ o, parseS s = (o, 0, 0) ∧ (checkO o).1 = 0) ∨ ∃ w a, w ≠ 0 ∧ parseS s = (emptyO, w, a) := by
  unfold parseS parseH
  cases decide ((s.size : Int) > 16777216)
  · simp only [cond_false]
    cases decide (lnl s 0 < 0)
    · simp only [cond_false]
      split
      · exact .inr ⟨161, 0, by decide, rfl⟩
      · unfold parseM
        cases decide (lnl s (0 + (lnl s 0).toNat + 1) < 0)
        · simp only [cond_false]
          split
          · exact .inr ⟨161, _, by decide, rfl⟩
          · unfold parseR
            split
            · exact .inr ⟨161, _, by decide, rfl⟩
            · rename_i mem _ _ _
              rcases doneP_cases ⟨mem, _, _, _, _⟩ with ⟨h1, h2⟩ | ⟨w, h1, h2⟩
              · exact .inl ⟨_, h1, h2⟩
              · exact .inr ⟨w, 0, h1, h2⟩
        · exact .inr ⟨161, _, by decide, rfl⟩
    · exact .inr ⟨161, 0, by decide, rfl⟩
  · exact .inr ⟨4, 0, by decide, rfl⟩
theorem k_parseT (s : ByteArray) {R : Ob × Int × Int} (hR : R = parseS s) (h0 : R.2.1 = 0) : K 24 [.tr (ts s)] [] (.ret (.tup [R.1.av, .tr (ti 0), .tr (ti 0)])) [] := by
  have h := k_parseA s hR
  rcases parseS_cases s with ⟨o, e, _⟩ | ⟨w, a, hw, e⟩
  · rw [hR, e] at h ⊢
    exact h
  · rw [hR, e] at h0
    exact absurd h0 hw
end Go.Proofs.YtffhoknkfohfgaaGreatDoor.am

namespace Go.Proofs.YtffhoknkfohfgaaGreatDoor.am
open Go Go.Proofs
def fieldW (i : Ins) (u : Int) : Option ByteArray :=
  bif u == 1 then some (opword i.op) else bif u == 2 then some (regB i.d) else bif u == 4 then some (regB i.a) else bif u == 8 then some (regB i.b) else bif u == 16 then some (prnB i.addr) else bif u == 32 then some (prnB i.to_) else bif u == 64 then some (prnB i.word) else none
def atB (n : Int) : ByteArray := ⟨#[64]⟩ ++ prnB n
/-- the fields' texts of a kind that uses these -/
def fieldsW (i : Ins) : List ByteArray := bif i.kind == 2 && !two i.op then [opword i.op, regB i.d, regB i.a] else (kuse i.kind).filterMap (fieldW i)
def wordsOf (i : Ins) : List ByteArray := (bif seq (kword i.kind) ⟨#[]⟩ then [] else [kword i.kind]) ++ fieldsW i ++ (bif i.from_ != 0 then [atB i.from_] else [])
def textB (i : Ins) : ByteArray := joinB (wordsOf i)
theorem opword_len (op : Int) : (opword op).size ≤ 5 := by
  by_cases h : 19 ≤ op
  · rw [opword_big h]; decide
  by_cases h0 : op < 0
  · unfold opword byK
    rw [show op.toNat = 0 by omega]; decide
  have hc : op = 0 ∨ op = 1 ∨ op = 2 ∨ op = 3 ∨ op = 4 ∨ op = 5 ∨ op = 6 ∨ op = 7 ∨ op = 8 ∨ op = 9 ∨ op = 10 ∨ op = 11 ∨ op = 12 ∨ op = 13 ∨ op = 14 ∨ op = 15 ∨ op = 16 ∨ op = 17 ∨ op = 18 := by omega
  rcases hc with h | h | h | h | h | h | h | h | h | h | h | h | h | h | h | h | h | h | h <;> (subst h; decide)
theorem tail_len (sep : List UInt8) : ∀ r : List (List UInt8), (∀ x ∈ r, x.length ≤ 40) → (Lib.joinTail sep r).length ≤ r.length * (sep.length + 40)
  | [], _ => by simp [Lib.joinTail]
  | x :: r, h => by
    have h1 := h x (by simp)
    have h2 := tail_len sep r fun y hy => h y (by simp [hy])
    unfold Lib.joinTail at h2 ⊢
    simp only [List.map_cons, List.flatten_cons, List.length_append, List.length_cons]
    rw [Nat.succ_mul]
    omega
theorem joinL_le {l : List ByteArray} (h : ∀ x ∈ l, x.size ≤ 40) (hl : l.length ≤ 10) : (joinL l).length ≤ 500 := by
  cases l with
  | nil => simp [joinL, Lib.join]
  | cons x r =>
    unfold joinL
    rw [List.map_cons, Lib.join_cons, List.length_append]
    have h1 := h x (by simp)
    have h2 := tail_len [32] (r.map (·.data.toList)) (fun y hy => by
      simp only [List.mem_map] at hy
      obtain ⟨z, hz, rfl⟩ := hy
      have := h z (by simp [hz])
      have e : z.data.toList.length = z.size := by simp
      omega)
    have e : x.data.toList.length = x.size := by simp
    simp only [List.length_map, List.length_cons, List.length_nil] at h2 hl
    have : r.length * (0 + 1 + 40) ≤ 9 * (0 + 1 + 40) := Nat.mul_le_mul_right _ (by omega)
    omega
theorem reg_len {n : Int} (h : -9223372036854775808 ≤ n ∧ n ≤ 9223372036854775807) : (regB n).size ≤ 40 := by
  have := prn_len h.1 h.2
  show (⟨#[114]⟩ ++ prnB n : ByteArray).size ≤ 40
  rw [size_add]
  have : (⟨#[114]⟩ : ByteArray).size = 1 := rfl
  omega
theorem at_len {n : Int} (h : -9223372036854775808 ≤ n ∧ n ≤ 9223372036854775807) : (atB n).size ≤ 40 := by
  have := prn_len h.1 h.2
  show (⟨#[64]⟩ ++ prnB n : ByteArray).size ≤ 40
  rw [size_add]
  have : (⟨#[64]⟩ : ByteArray).size = 1 := rfl
  omega
theorem prn_len40 {n : Int} (h : -9223372036854775808 ≤ n ∧ n ≤ 9223372036854775807) : (prnB n).size ≤ 40 := Nat.le_trans (prn_len h.1 h.2) (by omega)
theorem op_len40 (op : Int) : (opword op).size ≤ 40 := Nat.le_trans (opword_len op) (by omega)
/-- an instruction's numbers are int64 -/
structure IOk (i : Ins) : Prop where
  d : -9223372036854775808 ≤ i.d ∧ i.d ≤ 9223372036854775807
  a : -9223372036854775808 ≤ i.a ∧ i.a ≤ 9223372036854775807
  b : -9223372036854775808 ≤ i.b ∧ i.b ≤ 9223372036854775807
  addr : -9223372036854775808 ≤ i.addr ∧ i.addr ≤ 9223372036854775807
  to_ : -9223372036854775808 ≤ i.to_ ∧ i.to_ ≤ 9223372036854775807
  word : -9223372036854775808 ≤ i.word ∧ i.word ≤ 9223372036854775807
  from_ : -9223372036854775808 ≤ i.from_ ∧ i.from_ ≤ 9223372036854775807
  kind : 0 ≤ i.kind ∧ i.kind ≤ 255
  op : 0 ≤ i.op ∧ i.op ≤ 255
theorem iok_of {i : Ins} (h : ∀ t ∈ i.cells, TOkT t) : IOk i := by
  unfold Ins.cells at h
  refine ⟨(h (ti i.d) (by simp)).i64, (h (ti i.a) (by simp)).i64, (h (ti i.b) (by simp)).i64, (h (ti i.addr) (by simp)).i64, (h (ti i.to_) (by simp)).i64, (h (ti i.word) (by simp)).i64, (h (ti i.from_) (by simp)).i64, (h (tu i.kind) (by simp)).u8, (h (tu i.op) (by simp)).u8⟩

set_option maxRecDepth 100000 in
set_option maxHeartbeats 2000000 in
theorem k_text0 {op d a b addr to_ word from_ : Int} (hi : IOk ⟨0, op, d, a, b, addr, to_, word, from_⟩) : K 34 [Ins.av ⟨0, op, d, a, b, addr, to_, word, from_⟩] [] (.ret (.tr (ts (textB ⟨0, op, d, a, b, addr, to_, word, from_⟩)))) [] := by
  refine Ctr.cut [2] hT hmix Tryz.func34 rfl (fun _ _ => by kernel_rfl) rfl fun hok => ?_
  clear hok
  have hu := k_used ⟨0, op, d, a, b, addr, to_, word, from_⟩
  obtain ⟨W, hW⟩ : ∃ W, W = kword 0 := ⟨_, rfl⟩
  have hf : K 63 [.tr (tu 0)] [] (.ret (.tup [.agg [.tr (ts W), .tr (tu 0), .tr (tu 0), .tr (tu 0), .tr (tu 0)], .tr (tb (kok 0))])) [] := by rw [hW]; exact k_forms 0
  have e : usedM 0 op = 0 := rfl
  simp only [e] at hu
  clear e
  have eW : wordsOf ⟨0, op, d, a, b, addr, to_, word, from_⟩ = [] ++ (bif from_ != 0 then [atB from_] else []) := by kernel_rfl
  have eT : textB ⟨0, op, d, a, b, addr, to_, word, from_⟩ = joinB (wordsOf ⟨0, op, d, a, b, addr, to_, word, from_⟩) := rfl
  rw [eW] at eT
  clear eW
  rw [eT]
  clear eT
  conv => whnf
  refine CutL.by (fun _ : Unit => ⟨[(1, .ptr 0 0), (3, .ptr 1 0)], [(0, .cells 25 [.tr (tu 0), .tr (tu op), .tr (ti d), .tr (ti a), .tr (ti b), .tr (ti addr), .tr (ti to_), .tr (ti word), .tr (ti from_)]), (1, wrB ⟨0, op, d, a, b, addr, to_, word, from_⟩ 2 []), (2, wdB [])], 10⟩) (fun _ => True) ?_ ?_
  · conv => whnf
    exact ⟨(), [0, 4], [2], Sub.mk' rfl (by repeat' (first | exact trivial | exact Or.inl (ti_succ (by assumption) (by assumption)) | exact Or.inl rfl | exact rfl | exact Nat.le_refl _ | apply And.intro)) (by repeat' (first | exact trivial | exact Or.inl rfl | exact rfl | exact ⟨_, _, _, rfl, Nat.zero_lt_one⟩ | apply And.intro)) rfl rfl, trivial⟩
  rintro _ - -
  conv => whnf
  refine acall.pure _ (hf) rfl rfl fun _ => ?_
  conv => whnf
  refine csplit (fun hs => by rw [hW] at hs; exact Bool.noConfusion (hs.symm.trans (show _ = false by kernel_rfl))) (fun _ => ?_)
  conv => whnf
  refine acall.pure _ (hu) rfl rfl fun _ => ?_
  conv => whnf
  refine LoopL.un 5 ?_
  conv => whnf
  refine ⟨by decide, by decide, rfl, by decide, fun a ha => ?_⟩
  cases ha
  conv => whnf
  refine ⟨fun h => absurd h (by decide), fun _ => ?_⟩
  conv => whnf
  refine ⟨fun _ => ?_, fun h => absurd rfl h⟩
  conv => whnf
  refine ⟨by decide, by decide, rfl, by decide, fun a ha => ?_⟩
  cases ha
  conv => whnf
  refine ⟨fun h => absurd h (by decide), fun _ => ?_⟩
  conv => whnf
  refine ⟨fun _ => ?_, fun h => absurd rfl h⟩
  conv => whnf
  refine ⟨by decide, by decide, rfl, by decide, fun a ha => ?_⟩
  cases ha
  conv => whnf
  refine ⟨fun h => absurd h (by decide), fun _ => ?_⟩
  conv => whnf
  refine ⟨fun _ => ?_, fun h => absurd rfl h⟩
  conv => whnf
  refine ⟨by decide, by decide, rfl, by decide, fun a ha => ?_⟩
  cases ha
  conv => whnf
  refine ⟨fun h => absurd h (by decide), fun _ => ?_⟩
  conv => whnf
  refine ⟨fun _ => ?_, fun h => absurd rfl h⟩
  conv => whnf
  refine ⟨fun _ => ?_, fun h => absurd rfl h⟩
  conv => whnf
  refine csplit (fun hfr => ?_) (fun hfr => ?_)
  · have hpl := prn_len hi.from_.1 hi.from_.2
    conv => whnf
    refine acall.pure _ (k_itoa from_) rfl rfl fun _ => ?_
    conv => whnf
    refine ⟨by show (⟨#[64]⟩ : ByteArray).size + (prnB from_).size ≤ _; have : (⟨#[64]⟩ : ByteArray).size = 1 := rfl; have : (prnB from_).size ≤ 21 := hpl; omega, ?_⟩
    conv => whnf
    refine acall.new [1, 2] [] _ _ _ _ (k_say ⟨0, op, d, a, b, addr, to_, word, from_⟩ (atB from_) [] (by simp)) rfl rfl rfl rfl (by repeat' (first | exact trivial | exact Or.inl (ti_succ (by assumption) (by assumption)) | exact Or.inl rfl | exact rfl | exact Nat.le_refl _ | apply And.intro)) (by repeat' (first | exact trivial | exact Or.inl (ti_succ (by assumption) (by assumption)) | exact Or.inl rfl | exact rfl | exact Nat.le_refl _ | apply And.intro)) rfl rfl fun _ => ?_
    conv => whnf
    refine acall.gen [] [133] _ _ _ _ (k_join [atB from_] (Nat.le_trans (joinL_le (fun x hx => ?_) (by simp)) (by omega))) rfl rfl rfl rfl ⟨⟨rfl, Nat.le_refl _, rfl⟩, .inl rfl, trivial⟩ trivial rfl rfl fun _ => ?_
    · simp only [List.mem_cons, List.not_mem_nil, or_false] at hx
      rcases hx with rfl
      all_goals first | decide | exact op_len40 _ | exact reg_len hi.d | exact reg_len hi.a | exact reg_len hi.b | exact prn_len40 hi.addr | exact prn_len40 hi.to_ | exact prn_len40 hi.word | exact at_len hi.from_
    conv => whnf
    exact ⟨.inl (congrArg (fun l => ts (joinB l)) (by rw [hfr]; rfl)), trivial⟩
  · conv => whnf
    refine acall.gen [] [2] _ _ _ _ (k_join [] (Nat.le_trans (joinL_le (fun x hx => ?_) (by simp)) (by omega))) rfl rfl rfl rfl ⟨⟨rfl, Nat.le_refl _, rfl⟩, .inl rfl, trivial⟩ trivial rfl rfl fun _ => ?_
    · simp only [List.mem_cons, List.not_mem_nil, or_false] at hx
    conv => whnf
    exact ⟨.inl (congrArg (fun l => ts (joinB l)) (by rw [hfr]; rfl)), trivial⟩
set_option maxRecDepth 100000 in
set_option maxHeartbeats 2000000 in
theorem k_text1 {op d a b addr to_ word from_ : Int} (hi : IOk ⟨1, op, d, a, b, addr, to_, word, from_⟩) : K 34 [Ins.av ⟨1, op, d, a, b, addr, to_, word, from_⟩] [] (.ret (.tr (ts (textB ⟨1, op, d, a, b, addr, to_, word, from_⟩)))) [] := by
  refine Ctr.cut [2] hT hmix Tryz.func34 rfl (fun _ _ => by kernel_rfl) rfl fun hok => ?_
  clear hok
  have hu := k_used ⟨1, op, d, a, b, addr, to_, word, from_⟩
  have hf := k_forms 1
  have e : usedM 1 op = 66 := rfl
  simp only [e] at hu
  clear e
  have eW : wordsOf ⟨1, op, d, a, b, addr, to_, word, from_⟩ = [kword 1, regB d, prnB word] ++ (bif from_ != 0 then [atB from_] else []) := by kernel_rfl
  have eT : textB ⟨1, op, d, a, b, addr, to_, word, from_⟩ = joinB (wordsOf ⟨1, op, d, a, b, addr, to_, word, from_⟩) := rfl
  rw [eW] at eT
  clear eW
  rw [eT]
  clear eT
  conv => whnf
  refine CutL.by (fun _ : Unit => ⟨[(1, .ptr 0 0), (3, .ptr 1 0)], [(0, .cells 25 [.tr (tu 1), .tr (tu op), .tr (ti d), .tr (ti a), .tr (ti b), .tr (ti addr), .tr (ti to_), .tr (ti word), .tr (ti from_)]), (1, wrB ⟨1, op, d, a, b, addr, to_, word, from_⟩ 2 []), (2, wdB [])], 10⟩) (fun _ => True) ?_ ?_
  · conv => whnf
    exact ⟨(), [0, 4], [2], Sub.mk' rfl (by repeat' (first | exact trivial | exact Or.inl (ti_succ (by assumption) (by assumption)) | exact Or.inl rfl | exact rfl | exact Nat.le_refl _ | apply And.intro)) (by repeat' (first | exact trivial | exact Or.inl rfl | exact rfl | exact ⟨_, _, _, rfl, Nat.zero_lt_one⟩ | apply And.intro)) rfl rfl, trivial⟩
  rintro _ - -
  conv => whnf
  refine acall.pure _ (hf) rfl rfl fun _ => ?_
  conv => whnf
  refine csplit (fun _ => ?_) (fun hs => Bool.noConfusion (hs.symm.trans (show _ = true by kernel_rfl)))
  conv => whnf
  refine acall.new [1, 2] [] _ _ _ _ (k_say ⟨1, op, d, a, b, addr, to_, word, from_⟩ (kword 1) [] (by simp)) rfl rfl rfl rfl (by repeat' (first | exact trivial | exact Or.inl (ti_succ (by assumption) (by assumption)) | exact Or.inl rfl | exact rfl | exact Nat.le_refl _ | apply And.intro)) (by repeat' (first | exact trivial | exact Or.inl (ti_succ (by assumption) (by assumption)) | exact Or.inl rfl | exact rfl | exact Nat.le_refl _ | apply And.intro)) rfl rfl fun _ => ?_
  conv => whnf
  refine acall.pure _ (hu) rfl rfl fun _ => ?_
  conv => whnf
  refine LoopL.un 5 ?_
  conv => whnf
  refine ⟨by decide, by decide, rfl, by decide, fun a ha => ?_⟩
  cases ha
  conv => whnf
  refine acall.new [1, 25] [] _ _ _ _ (k_w_d ⟨1, op, d, a, b, addr, to_, word, from_⟩ [kword 1] (by simp)) rfl rfl rfl rfl (by repeat' (first | exact trivial | exact Or.inl (ti_succ (by assumption) (by assumption)) | exact Or.inl rfl | exact rfl | exact Nat.le_refl _ | apply And.intro)) (by repeat' (first | exact trivial | exact Or.inl (ti_succ (by assumption) (by assumption)) | exact Or.inl rfl | exact rfl | exact Nat.le_refl _ | apply And.intro)) rfl rfl fun _ => ?_
  conv => whnf
  refine ⟨by decide, by decide, rfl, by decide, fun a ha => ?_⟩
  cases ha
  conv => whnf
  refine acall.new [1, 51] [] _ _ _ _ (k_w_word ⟨1, op, d, a, b, addr, to_, word, from_⟩ [kword 1, regB d] (by simp)) rfl rfl rfl rfl (by repeat' (first | exact trivial | exact Or.inl (ti_succ (by assumption) (by assumption)) | exact Or.inl rfl | exact rfl | exact Nat.le_refl _ | apply And.intro)) (by repeat' (first | exact trivial | exact Or.inl (ti_succ (by assumption) (by assumption)) | exact Or.inl rfl | exact rfl | exact Nat.le_refl _ | apply And.intro)) rfl rfl fun _ => ?_
  conv => whnf
  refine ⟨by decide, by decide, rfl, by decide, fun a ha => ?_⟩
  cases ha
  conv => whnf
  refine ⟨fun h => absurd h (by decide), fun _ => ?_⟩
  conv => whnf
  refine ⟨fun _ => ?_, fun h => absurd rfl h⟩
  conv => whnf
  refine ⟨by decide, by decide, rfl, by decide, fun a ha => ?_⟩
  cases ha
  conv => whnf
  refine ⟨fun h => absurd h (by decide), fun _ => ?_⟩
  conv => whnf
  refine ⟨fun _ => ?_, fun h => absurd rfl h⟩
  conv => whnf
  refine ⟨fun _ => ?_, fun h => absurd rfl h⟩
  conv => whnf
  refine csplit (fun hfr => ?_) (fun hfr => ?_)
  · have hpl := prn_len hi.from_.1 hi.from_.2
    conv => whnf
    refine acall.pure _ (k_itoa from_) rfl rfl fun _ => ?_
    conv => whnf
    refine ⟨by show (⟨#[64]⟩ : ByteArray).size + (prnB from_).size ≤ _; have : (⟨#[64]⟩ : ByteArray).size = 1 := rfl; have : (prnB from_).size ≤ 21 := hpl; omega, ?_⟩
    conv => whnf
    refine acall.new [1, 79] [] _ _ _ _ (k_say ⟨1, op, d, a, b, addr, to_, word, from_⟩ (atB from_) [kword 1, regB d, prnB word] (by simp)) rfl rfl rfl rfl (by repeat' (first | exact trivial | exact Or.inl (ti_succ (by assumption) (by assumption)) | exact Or.inl rfl | exact rfl | exact Nat.le_refl _ | apply And.intro)) (by repeat' (first | exact trivial | exact Or.inl (ti_succ (by assumption) (by assumption)) | exact Or.inl rfl | exact rfl | exact Nat.le_refl _ | apply And.intro)) rfl rfl fun _ => ?_
    conv => whnf
    refine acall.gen [] [137] _ _ _ _ (k_join [kword 1, regB d, prnB word, atB from_] (Nat.le_trans (joinL_le (fun x hx => ?_) (by simp)) (by omega))) rfl rfl rfl rfl ⟨⟨rfl, Nat.le_refl _, rfl⟩, .inl rfl, trivial⟩ trivial rfl rfl fun _ => ?_
    · simp only [List.mem_cons, List.not_mem_nil, or_false] at hx
      rcases hx with rfl | rfl | rfl | rfl
      all_goals first | decide | exact op_len40 _ | exact reg_len hi.d | exact reg_len hi.a | exact reg_len hi.b | exact prn_len40 hi.addr | exact prn_len40 hi.to_ | exact prn_len40 hi.word | exact at_len hi.from_
    conv => whnf
    exact ⟨.inl (congrArg (fun l => ts (joinB l)) (by rw [hfr]; rfl)), trivial⟩
  · conv => whnf
    refine acall.gen [] [79] _ _ _ _ (k_join [kword 1, regB d, prnB word] (Nat.le_trans (joinL_le (fun x hx => ?_) (by simp)) (by omega))) rfl rfl rfl rfl ⟨⟨rfl, Nat.le_refl _, rfl⟩, .inl rfl, trivial⟩ trivial rfl rfl fun _ => ?_
    · simp only [List.mem_cons, List.not_mem_nil, or_false] at hx
      rcases hx with rfl | rfl | rfl
      all_goals first | decide | exact op_len40 _ | exact reg_len hi.d | exact reg_len hi.a | exact reg_len hi.b | exact prn_len40 hi.addr | exact prn_len40 hi.to_ | exact prn_len40 hi.word | exact at_len hi.from_
    conv => whnf
    exact ⟨.inl (congrArg (fun l => ts (joinB l)) (by rw [hfr]; rfl)), trivial⟩
set_option maxRecDepth 100000 in
set_option maxHeartbeats 2000000 in
theorem k_text3 {op d a b addr to_ word from_ : Int} (hi : IOk ⟨3, op, d, a, b, addr, to_, word, from_⟩) : K 34 [Ins.av ⟨3, op, d, a, b, addr, to_, word, from_⟩] [] (.ret (.tr (ts (textB ⟨3, op, d, a, b, addr, to_, word, from_⟩)))) [] := by
  refine Ctr.cut [2] hT hmix Tryz.func34 rfl (fun _ _ => by kernel_rfl) rfl fun hok => ?_
  clear hok
  have hu := k_used ⟨3, op, d, a, b, addr, to_, word, from_⟩
  have hf := k_forms 3
  have e : usedM 3 op = 18 := rfl
  simp only [e] at hu
  clear e
  have eW : wordsOf ⟨3, op, d, a, b, addr, to_, word, from_⟩ = [kword 3, regB d, prnB addr] ++ (bif from_ != 0 then [atB from_] else []) := by kernel_rfl
  have eT : textB ⟨3, op, d, a, b, addr, to_, word, from_⟩ = joinB (wordsOf ⟨3, op, d, a, b, addr, to_, word, from_⟩) := rfl
  rw [eW] at eT
  clear eW
  rw [eT]
  clear eT
  conv => whnf
  refine CutL.by (fun _ : Unit => ⟨[(1, .ptr 0 0), (3, .ptr 1 0)], [(0, .cells 25 [.tr (tu 3), .tr (tu op), .tr (ti d), .tr (ti a), .tr (ti b), .tr (ti addr), .tr (ti to_), .tr (ti word), .tr (ti from_)]), (1, wrB ⟨3, op, d, a, b, addr, to_, word, from_⟩ 2 []), (2, wdB [])], 10⟩) (fun _ => True) ?_ ?_
  · conv => whnf
    exact ⟨(), [0, 4], [2], Sub.mk' rfl (by repeat' (first | exact trivial | exact Or.inl (ti_succ (by assumption) (by assumption)) | exact Or.inl rfl | exact rfl | exact Nat.le_refl _ | apply And.intro)) (by repeat' (first | exact trivial | exact Or.inl rfl | exact rfl | exact ⟨_, _, _, rfl, Nat.zero_lt_one⟩ | apply And.intro)) rfl rfl, trivial⟩
  rintro _ - -
  conv => whnf
  refine acall.pure _ (hf) rfl rfl fun _ => ?_
  conv => whnf
  refine csplit (fun _ => ?_) (fun hs => Bool.noConfusion (hs.symm.trans (show _ = true by kernel_rfl)))
  conv => whnf
  refine acall.new [1, 2] [] _ _ _ _ (k_say ⟨3, op, d, a, b, addr, to_, word, from_⟩ (kword 3) [] (by simp)) rfl rfl rfl rfl (by repeat' (first | exact trivial | exact Or.inl (ti_succ (by assumption) (by assumption)) | exact Or.inl rfl | exact rfl | exact Nat.le_refl _ | apply And.intro)) (by repeat' (first | exact trivial | exact Or.inl (ti_succ (by assumption) (by assumption)) | exact Or.inl rfl | exact rfl | exact Nat.le_refl _ | apply And.intro)) rfl rfl fun _ => ?_
  conv => whnf
  refine acall.pure _ (hu) rfl rfl fun _ => ?_
  conv => whnf
  refine LoopL.un 5 ?_
  conv => whnf
  refine ⟨by decide, by decide, rfl, by decide, fun a ha => ?_⟩
  cases ha
  conv => whnf
  refine acall.new [1, 25] [] _ _ _ _ (k_w_d ⟨3, op, d, a, b, addr, to_, word, from_⟩ [kword 3] (by simp)) rfl rfl rfl rfl (by repeat' (first | exact trivial | exact Or.inl (ti_succ (by assumption) (by assumption)) | exact Or.inl rfl | exact rfl | exact Nat.le_refl _ | apply And.intro)) (by repeat' (first | exact trivial | exact Or.inl (ti_succ (by assumption) (by assumption)) | exact Or.inl rfl | exact rfl | exact Nat.le_refl _ | apply And.intro)) rfl rfl fun _ => ?_
  conv => whnf
  refine ⟨by decide, by decide, rfl, by decide, fun a ha => ?_⟩
  cases ha
  conv => whnf
  refine acall.new [1, 51] [] _ _ _ _ (k_w_addr ⟨3, op, d, a, b, addr, to_, word, from_⟩ [kword 3, regB d] (by simp)) rfl rfl rfl rfl (by repeat' (first | exact trivial | exact Or.inl (ti_succ (by assumption) (by assumption)) | exact Or.inl rfl | exact rfl | exact Nat.le_refl _ | apply And.intro)) (by repeat' (first | exact trivial | exact Or.inl (ti_succ (by assumption) (by assumption)) | exact Or.inl rfl | exact rfl | exact Nat.le_refl _ | apply And.intro)) rfl rfl fun _ => ?_
  conv => whnf
  refine ⟨by decide, by decide, rfl, by decide, fun a ha => ?_⟩
  cases ha
  conv => whnf
  refine ⟨fun h => absurd h (by decide), fun _ => ?_⟩
  conv => whnf
  refine ⟨fun _ => ?_, fun h => absurd rfl h⟩
  conv => whnf
  refine ⟨by decide, by decide, rfl, by decide, fun a ha => ?_⟩
  cases ha
  conv => whnf
  refine ⟨fun h => absurd h (by decide), fun _ => ?_⟩
  conv => whnf
  refine ⟨fun _ => ?_, fun h => absurd rfl h⟩
  conv => whnf
  refine ⟨fun _ => ?_, fun h => absurd rfl h⟩
  conv => whnf
  refine csplit (fun hfr => ?_) (fun hfr => ?_)
  · have hpl := prn_len hi.from_.1 hi.from_.2
    conv => whnf
    refine acall.pure _ (k_itoa from_) rfl rfl fun _ => ?_
    conv => whnf
    refine ⟨by show (⟨#[64]⟩ : ByteArray).size + (prnB from_).size ≤ _; have : (⟨#[64]⟩ : ByteArray).size = 1 := rfl; have : (prnB from_).size ≤ 21 := hpl; omega, ?_⟩
    conv => whnf
    refine acall.new [1, 75] [] _ _ _ _ (k_say ⟨3, op, d, a, b, addr, to_, word, from_⟩ (atB from_) [kword 3, regB d, prnB addr] (by simp)) rfl rfl rfl rfl (by repeat' (first | exact trivial | exact Or.inl (ti_succ (by assumption) (by assumption)) | exact Or.inl rfl | exact rfl | exact Nat.le_refl _ | apply And.intro)) (by repeat' (first | exact trivial | exact Or.inl (ti_succ (by assumption) (by assumption)) | exact Or.inl rfl | exact rfl | exact Nat.le_refl _ | apply And.intro)) rfl rfl fun _ => ?_
    conv => whnf
    refine acall.gen [] [133] _ _ _ _ (k_join [kword 3, regB d, prnB addr, atB from_] (Nat.le_trans (joinL_le (fun x hx => ?_) (by simp)) (by omega))) rfl rfl rfl rfl ⟨⟨rfl, Nat.le_refl _, rfl⟩, .inl rfl, trivial⟩ trivial rfl rfl fun _ => ?_
    · simp only [List.mem_cons, List.not_mem_nil, or_false] at hx
      rcases hx with rfl | rfl | rfl | rfl
      all_goals first | decide | exact op_len40 _ | exact reg_len hi.d | exact reg_len hi.a | exact reg_len hi.b | exact prn_len40 hi.addr | exact prn_len40 hi.to_ | exact prn_len40 hi.word | exact at_len hi.from_
    conv => whnf
    exact ⟨.inl (congrArg (fun l => ts (joinB l)) (by rw [hfr]; rfl)), trivial⟩
  · conv => whnf
    refine acall.gen [] [75] _ _ _ _ (k_join [kword 3, regB d, prnB addr] (Nat.le_trans (joinL_le (fun x hx => ?_) (by simp)) (by omega))) rfl rfl rfl rfl ⟨⟨rfl, Nat.le_refl _, rfl⟩, .inl rfl, trivial⟩ trivial rfl rfl fun _ => ?_
    · simp only [List.mem_cons, List.not_mem_nil, or_false] at hx
      rcases hx with rfl | rfl | rfl
      all_goals first | decide | exact op_len40 _ | exact reg_len hi.d | exact reg_len hi.a | exact reg_len hi.b | exact prn_len40 hi.addr | exact prn_len40 hi.to_ | exact prn_len40 hi.word | exact at_len hi.from_
    conv => whnf
    exact ⟨.inl (congrArg (fun l => ts (joinB l)) (by rw [hfr]; rfl)), trivial⟩
set_option maxRecDepth 100000 in
set_option maxHeartbeats 2000000 in
theorem k_text4 {op d a b addr to_ word from_ : Int} (hi : IOk ⟨4, op, d, a, b, addr, to_, word, from_⟩) : K 34 [Ins.av ⟨4, op, d, a, b, addr, to_, word, from_⟩] [] (.ret (.tr (ts (textB ⟨4, op, d, a, b, addr, to_, word, from_⟩)))) [] := by
  refine Ctr.cut [2] hT hmix Tryz.func34 rfl (fun _ _ => by kernel_rfl) rfl fun hok => ?_
  clear hok
  have hu := k_used ⟨4, op, d, a, b, addr, to_, word, from_⟩
  have hf := k_forms 4
  have e : usedM 4 op = 20 := rfl
  simp only [e] at hu
  clear e
  have eW : wordsOf ⟨4, op, d, a, b, addr, to_, word, from_⟩ = [kword 4, regB a, prnB addr] ++ (bif from_ != 0 then [atB from_] else []) := by kernel_rfl
  have eT : textB ⟨4, op, d, a, b, addr, to_, word, from_⟩ = joinB (wordsOf ⟨4, op, d, a, b, addr, to_, word, from_⟩) := rfl
  rw [eW] at eT
  clear eW
  rw [eT]
  clear eT
  conv => whnf
  refine CutL.by (fun _ : Unit => ⟨[(1, .ptr 0 0), (3, .ptr 1 0)], [(0, .cells 25 [.tr (tu 4), .tr (tu op), .tr (ti d), .tr (ti a), .tr (ti b), .tr (ti addr), .tr (ti to_), .tr (ti word), .tr (ti from_)]), (1, wrB ⟨4, op, d, a, b, addr, to_, word, from_⟩ 2 []), (2, wdB [])], 10⟩) (fun _ => True) ?_ ?_
  · conv => whnf
    exact ⟨(), [0, 4], [2], Sub.mk' rfl (by repeat' (first | exact trivial | exact Or.inl (ti_succ (by assumption) (by assumption)) | exact Or.inl rfl | exact rfl | exact Nat.le_refl _ | apply And.intro)) (by repeat' (first | exact trivial | exact Or.inl rfl | exact rfl | exact ⟨_, _, _, rfl, Nat.zero_lt_one⟩ | apply And.intro)) rfl rfl, trivial⟩
  rintro _ - -
  conv => whnf
  refine acall.pure _ (hf) rfl rfl fun _ => ?_
  conv => whnf
  refine csplit (fun _ => ?_) (fun hs => Bool.noConfusion (hs.symm.trans (show _ = true by kernel_rfl)))
  conv => whnf
  refine acall.new [1, 2] [] _ _ _ _ (k_say ⟨4, op, d, a, b, addr, to_, word, from_⟩ (kword 4) [] (by simp)) rfl rfl rfl rfl (by repeat' (first | exact trivial | exact Or.inl (ti_succ (by assumption) (by assumption)) | exact Or.inl rfl | exact rfl | exact Nat.le_refl _ | apply And.intro)) (by repeat' (first | exact trivial | exact Or.inl (ti_succ (by assumption) (by assumption)) | exact Or.inl rfl | exact rfl | exact Nat.le_refl _ | apply And.intro)) rfl rfl fun _ => ?_
  conv => whnf
  refine acall.pure _ (hu) rfl rfl fun _ => ?_
  conv => whnf
  refine LoopL.un 5 ?_
  conv => whnf
  refine ⟨by decide, by decide, rfl, by decide, fun a ha => ?_⟩
  cases ha
  conv => whnf
  refine acall.new [1, 25] [] _ _ _ _ (k_w_a ⟨4, op, d, a, b, addr, to_, word, from_⟩ [kword 4] (by simp)) rfl rfl rfl rfl (by repeat' (first | exact trivial | exact Or.inl (ti_succ (by assumption) (by assumption)) | exact Or.inl rfl | exact rfl | exact Nat.le_refl _ | apply And.intro)) (by repeat' (first | exact trivial | exact Or.inl (ti_succ (by assumption) (by assumption)) | exact Or.inl rfl | exact rfl | exact Nat.le_refl _ | apply And.intro)) rfl rfl fun _ => ?_
  conv => whnf
  refine ⟨by decide, by decide, rfl, by decide, fun a ha => ?_⟩
  cases ha
  conv => whnf
  refine acall.new [1, 53] [] _ _ _ _ (k_w_addr ⟨4, op, d, a, b, addr, to_, word, from_⟩ [kword 4, regB a] (by simp)) rfl rfl rfl rfl (by repeat' (first | exact trivial | exact Or.inl (ti_succ (by assumption) (by assumption)) | exact Or.inl rfl | exact rfl | exact Nat.le_refl _ | apply And.intro)) (by repeat' (first | exact trivial | exact Or.inl (ti_succ (by assumption) (by assumption)) | exact Or.inl rfl | exact rfl | exact Nat.le_refl _ | apply And.intro)) rfl rfl fun _ => ?_
  conv => whnf
  refine ⟨by decide, by decide, rfl, by decide, fun a ha => ?_⟩
  cases ha
  conv => whnf
  refine ⟨fun h => absurd h (by decide), fun _ => ?_⟩
  conv => whnf
  refine ⟨fun _ => ?_, fun h => absurd rfl h⟩
  conv => whnf
  refine ⟨by decide, by decide, rfl, by decide, fun a ha => ?_⟩
  cases ha
  conv => whnf
  refine ⟨fun h => absurd h (by decide), fun _ => ?_⟩
  conv => whnf
  refine ⟨fun _ => ?_, fun h => absurd rfl h⟩
  conv => whnf
  refine ⟨fun _ => ?_, fun h => absurd rfl h⟩
  conv => whnf
  refine csplit (fun hfr => ?_) (fun hfr => ?_)
  · have hpl := prn_len hi.from_.1 hi.from_.2
    conv => whnf
    refine acall.pure _ (k_itoa from_) rfl rfl fun _ => ?_
    conv => whnf
    refine ⟨by show (⟨#[64]⟩ : ByteArray).size + (prnB from_).size ≤ _; have : (⟨#[64]⟩ : ByteArray).size = 1 := rfl; have : (prnB from_).size ≤ 21 := hpl; omega, ?_⟩
    conv => whnf
    refine acall.new [1, 77] [] _ _ _ _ (k_say ⟨4, op, d, a, b, addr, to_, word, from_⟩ (atB from_) [kword 4, regB a, prnB addr] (by simp)) rfl rfl rfl rfl (by repeat' (first | exact trivial | exact Or.inl (ti_succ (by assumption) (by assumption)) | exact Or.inl rfl | exact rfl | exact Nat.le_refl _ | apply And.intro)) (by repeat' (first | exact trivial | exact Or.inl (ti_succ (by assumption) (by assumption)) | exact Or.inl rfl | exact rfl | exact Nat.le_refl _ | apply And.intro)) rfl rfl fun _ => ?_
    conv => whnf
    refine acall.gen [] [135] _ _ _ _ (k_join [kword 4, regB a, prnB addr, atB from_] (Nat.le_trans (joinL_le (fun x hx => ?_) (by simp)) (by omega))) rfl rfl rfl rfl ⟨⟨rfl, Nat.le_refl _, rfl⟩, .inl rfl, trivial⟩ trivial rfl rfl fun _ => ?_
    · simp only [List.mem_cons, List.not_mem_nil, or_false] at hx
      rcases hx with rfl | rfl | rfl | rfl
      all_goals first | decide | exact op_len40 _ | exact reg_len hi.d | exact reg_len hi.a | exact reg_len hi.b | exact prn_len40 hi.addr | exact prn_len40 hi.to_ | exact prn_len40 hi.word | exact at_len hi.from_
    conv => whnf
    exact ⟨.inl (congrArg (fun l => ts (joinB l)) (by rw [hfr]; rfl)), trivial⟩
  · conv => whnf
    refine acall.gen [] [77] _ _ _ _ (k_join [kword 4, regB a, prnB addr] (Nat.le_trans (joinL_le (fun x hx => ?_) (by simp)) (by omega))) rfl rfl rfl rfl ⟨⟨rfl, Nat.le_refl _, rfl⟩, .inl rfl, trivial⟩ trivial rfl rfl fun _ => ?_
    · simp only [List.mem_cons, List.not_mem_nil, or_false] at hx
      rcases hx with rfl | rfl | rfl
      all_goals first | decide | exact op_len40 _ | exact reg_len hi.d | exact reg_len hi.a | exact reg_len hi.b | exact prn_len40 hi.addr | exact prn_len40 hi.to_ | exact prn_len40 hi.word | exact at_len hi.from_
    conv => whnf
    exact ⟨.inl (congrArg (fun l => ts (joinB l)) (by rw [hfr]; rfl)), trivial⟩
set_option maxRecDepth 100000 in
set_option maxHeartbeats 2000000 in
theorem k_text5 {op d a b addr to_ word from_ : Int} (hi : IOk ⟨5, op, d, a, b, addr, to_, word, from_⟩) : K 34 [Ins.av ⟨5, op, d, a, b, addr, to_, word, from_⟩] [] (.ret (.tr (ts (textB ⟨5, op, d, a, b, addr, to_, word, from_⟩)))) [] := by
  refine Ctr.cut [2] hT hmix Tryz.func34 rfl (fun _ _ => by kernel_rfl) rfl fun hok => ?_
  clear hok
  have hu := k_used ⟨5, op, d, a, b, addr, to_, word, from_⟩
  have hf := k_forms 5
  have e : usedM 5 op = 18 := rfl
  simp only [e] at hu
  clear e
  have eW : wordsOf ⟨5, op, d, a, b, addr, to_, word, from_⟩ = [kword 5, regB d, prnB addr] ++ (bif from_ != 0 then [atB from_] else []) := by kernel_rfl
  have eT : textB ⟨5, op, d, a, b, addr, to_, word, from_⟩ = joinB (wordsOf ⟨5, op, d, a, b, addr, to_, word, from_⟩) := rfl
  rw [eW] at eT
  clear eW
  rw [eT]
  clear eT
  conv => whnf
  refine CutL.by (fun _ : Unit => ⟨[(1, .ptr 0 0), (3, .ptr 1 0)], [(0, .cells 25 [.tr (tu 5), .tr (tu op), .tr (ti d), .tr (ti a), .tr (ti b), .tr (ti addr), .tr (ti to_), .tr (ti word), .tr (ti from_)]), (1, wrB ⟨5, op, d, a, b, addr, to_, word, from_⟩ 2 []), (2, wdB [])], 10⟩) (fun _ => True) ?_ ?_
  · conv => whnf
    exact ⟨(), [0, 4], [2], Sub.mk' rfl (by repeat' (first | exact trivial | exact Or.inl (ti_succ (by assumption) (by assumption)) | exact Or.inl rfl | exact rfl | exact Nat.le_refl _ | apply And.intro)) (by repeat' (first | exact trivial | exact Or.inl rfl | exact rfl | exact ⟨_, _, _, rfl, Nat.zero_lt_one⟩ | apply And.intro)) rfl rfl, trivial⟩
  rintro _ - -
  conv => whnf
  refine acall.pure _ (hf) rfl rfl fun _ => ?_
  conv => whnf
  refine csplit (fun _ => ?_) (fun hs => Bool.noConfusion (hs.symm.trans (show _ = true by kernel_rfl)))
  conv => whnf
  refine acall.new [1, 2] [] _ _ _ _ (k_say ⟨5, op, d, a, b, addr, to_, word, from_⟩ (kword 5) [] (by simp)) rfl rfl rfl rfl (by repeat' (first | exact trivial | exact Or.inl (ti_succ (by assumption) (by assumption)) | exact Or.inl rfl | exact rfl | exact Nat.le_refl _ | apply And.intro)) (by repeat' (first | exact trivial | exact Or.inl (ti_succ (by assumption) (by assumption)) | exact Or.inl rfl | exact rfl | exact Nat.le_refl _ | apply And.intro)) rfl rfl fun _ => ?_
  conv => whnf
  refine acall.pure _ (hu) rfl rfl fun _ => ?_
  conv => whnf
  refine LoopL.un 5 ?_
  conv => whnf
  refine ⟨by decide, by decide, rfl, by decide, fun a ha => ?_⟩
  cases ha
  conv => whnf
  refine acall.new [1, 25] [] _ _ _ _ (k_w_d ⟨5, op, d, a, b, addr, to_, word, from_⟩ [kword 5] (by simp)) rfl rfl rfl rfl (by repeat' (first | exact trivial | exact Or.inl (ti_succ (by assumption) (by assumption)) | exact Or.inl rfl | exact rfl | exact Nat.le_refl _ | apply And.intro)) (by repeat' (first | exact trivial | exact Or.inl (ti_succ (by assumption) (by assumption)) | exact Or.inl rfl | exact rfl | exact Nat.le_refl _ | apply And.intro)) rfl rfl fun _ => ?_
  conv => whnf
  refine ⟨by decide, by decide, rfl, by decide, fun a ha => ?_⟩
  cases ha
  conv => whnf
  refine acall.new [1, 51] [] _ _ _ _ (k_w_addr ⟨5, op, d, a, b, addr, to_, word, from_⟩ [kword 5, regB d] (by simp)) rfl rfl rfl rfl (by repeat' (first | exact trivial | exact Or.inl (ti_succ (by assumption) (by assumption)) | exact Or.inl rfl | exact rfl | exact Nat.le_refl _ | apply And.intro)) (by repeat' (first | exact trivial | exact Or.inl (ti_succ (by assumption) (by assumption)) | exact Or.inl rfl | exact rfl | exact Nat.le_refl _ | apply And.intro)) rfl rfl fun _ => ?_
  conv => whnf
  refine ⟨by decide, by decide, rfl, by decide, fun a ha => ?_⟩
  cases ha
  conv => whnf
  refine ⟨fun h => absurd h (by decide), fun _ => ?_⟩
  conv => whnf
  refine ⟨fun _ => ?_, fun h => absurd rfl h⟩
  conv => whnf
  refine ⟨by decide, by decide, rfl, by decide, fun a ha => ?_⟩
  cases ha
  conv => whnf
  refine ⟨fun h => absurd h (by decide), fun _ => ?_⟩
  conv => whnf
  refine ⟨fun _ => ?_, fun h => absurd rfl h⟩
  conv => whnf
  refine ⟨fun _ => ?_, fun h => absurd rfl h⟩
  conv => whnf
  refine csplit (fun hfr => ?_) (fun hfr => ?_)
  · have hpl := prn_len hi.from_.1 hi.from_.2
    conv => whnf
    refine acall.pure _ (k_itoa from_) rfl rfl fun _ => ?_
    conv => whnf
    refine ⟨by show (⟨#[64]⟩ : ByteArray).size + (prnB from_).size ≤ _; have : (⟨#[64]⟩ : ByteArray).size = 1 := rfl; have : (prnB from_).size ≤ 21 := hpl; omega, ?_⟩
    conv => whnf
    refine acall.new [1, 75] [] _ _ _ _ (k_say ⟨5, op, d, a, b, addr, to_, word, from_⟩ (atB from_) [kword 5, regB d, prnB addr] (by simp)) rfl rfl rfl rfl (by repeat' (first | exact trivial | exact Or.inl (ti_succ (by assumption) (by assumption)) | exact Or.inl rfl | exact rfl | exact Nat.le_refl _ | apply And.intro)) (by repeat' (first | exact trivial | exact Or.inl (ti_succ (by assumption) (by assumption)) | exact Or.inl rfl | exact rfl | exact Nat.le_refl _ | apply And.intro)) rfl rfl fun _ => ?_
    conv => whnf
    refine acall.gen [] [133] _ _ _ _ (k_join [kword 5, regB d, prnB addr, atB from_] (Nat.le_trans (joinL_le (fun x hx => ?_) (by simp)) (by omega))) rfl rfl rfl rfl ⟨⟨rfl, Nat.le_refl _, rfl⟩, .inl rfl, trivial⟩ trivial rfl rfl fun _ => ?_
    · simp only [List.mem_cons, List.not_mem_nil, or_false] at hx
      rcases hx with rfl | rfl | rfl | rfl
      all_goals first | decide | exact op_len40 _ | exact reg_len hi.d | exact reg_len hi.a | exact reg_len hi.b | exact prn_len40 hi.addr | exact prn_len40 hi.to_ | exact prn_len40 hi.word | exact at_len hi.from_
    conv => whnf
    exact ⟨.inl (congrArg (fun l => ts (joinB l)) (by rw [hfr]; rfl)), trivial⟩
  · conv => whnf
    refine acall.gen [] [75] _ _ _ _ (k_join [kword 5, regB d, prnB addr] (Nat.le_trans (joinL_le (fun x hx => ?_) (by simp)) (by omega))) rfl rfl rfl rfl ⟨⟨rfl, Nat.le_refl _, rfl⟩, .inl rfl, trivial⟩ trivial rfl rfl fun _ => ?_
    · simp only [List.mem_cons, List.not_mem_nil, or_false] at hx
      rcases hx with rfl | rfl | rfl
      all_goals first | decide | exact op_len40 _ | exact reg_len hi.d | exact reg_len hi.a | exact reg_len hi.b | exact prn_len40 hi.addr | exact prn_len40 hi.to_ | exact prn_len40 hi.word | exact at_len hi.from_
    conv => whnf
    exact ⟨.inl (congrArg (fun l => ts (joinB l)) (by rw [hfr]; rfl)), trivial⟩
set_option maxRecDepth 100000 in
set_option maxHeartbeats 2000000 in
theorem k_text6 {op d a b addr to_ word from_ : Int} (hi : IOk ⟨6, op, d, a, b, addr, to_, word, from_⟩) : K 34 [Ins.av ⟨6, op, d, a, b, addr, to_, word, from_⟩] [] (.ret (.tr (ts (textB ⟨6, op, d, a, b, addr, to_, word, from_⟩)))) [] := by
  refine Ctr.cut [2] hT hmix Tryz.func34 rfl (fun _ _ => by kernel_rfl) rfl fun hok => ?_
  clear hok
  have hu := k_used ⟨6, op, d, a, b, addr, to_, word, from_⟩
  have hf := k_forms 6
  have e : usedM 6 op = 0 := rfl
  simp only [e] at hu
  clear e
  have eW : wordsOf ⟨6, op, d, a, b, addr, to_, word, from_⟩ = [kword 6] ++ (bif from_ != 0 then [atB from_] else []) := by kernel_rfl
  have eT : textB ⟨6, op, d, a, b, addr, to_, word, from_⟩ = joinB (wordsOf ⟨6, op, d, a, b, addr, to_, word, from_⟩) := rfl
  rw [eW] at eT
  clear eW
  rw [eT]
  clear eT
  conv => whnf
  refine CutL.by (fun _ : Unit => ⟨[(1, .ptr 0 0), (3, .ptr 1 0)], [(0, .cells 25 [.tr (tu 6), .tr (tu op), .tr (ti d), .tr (ti a), .tr (ti b), .tr (ti addr), .tr (ti to_), .tr (ti word), .tr (ti from_)]), (1, wrB ⟨6, op, d, a, b, addr, to_, word, from_⟩ 2 []), (2, wdB [])], 10⟩) (fun _ => True) ?_ ?_
  · conv => whnf
    exact ⟨(), [0, 4], [2], Sub.mk' rfl (by repeat' (first | exact trivial | exact Or.inl (ti_succ (by assumption) (by assumption)) | exact Or.inl rfl | exact rfl | exact Nat.le_refl _ | apply And.intro)) (by repeat' (first | exact trivial | exact Or.inl rfl | exact rfl | exact ⟨_, _, _, rfl, Nat.zero_lt_one⟩ | apply And.intro)) rfl rfl, trivial⟩
  rintro _ - -
  conv => whnf
  refine acall.pure _ (hf) rfl rfl fun _ => ?_
  conv => whnf
  refine csplit (fun _ => ?_) (fun hs => Bool.noConfusion (hs.symm.trans (show _ = true by kernel_rfl)))
  conv => whnf
  refine acall.new [1, 2] [] _ _ _ _ (k_say ⟨6, op, d, a, b, addr, to_, word, from_⟩ (kword 6) [] (by simp)) rfl rfl rfl rfl (by repeat' (first | exact trivial | exact Or.inl (ti_succ (by assumption) (by assumption)) | exact Or.inl rfl | exact rfl | exact Nat.le_refl _ | apply And.intro)) (by repeat' (first | exact trivial | exact Or.inl (ti_succ (by assumption) (by assumption)) | exact Or.inl rfl | exact rfl | exact Nat.le_refl _ | apply And.intro)) rfl rfl fun _ => ?_
  conv => whnf
  refine acall.pure _ (hu) rfl rfl fun _ => ?_
  conv => whnf
  refine LoopL.un 5 ?_
  conv => whnf
  refine ⟨by decide, by decide, rfl, by decide, fun a ha => ?_⟩
  cases ha
  conv => whnf
  refine ⟨fun h => absurd h (by decide), fun _ => ?_⟩
  conv => whnf
  refine ⟨fun _ => ?_, fun h => absurd rfl h⟩
  conv => whnf
  refine ⟨by decide, by decide, rfl, by decide, fun a ha => ?_⟩
  cases ha
  conv => whnf
  refine ⟨fun h => absurd h (by decide), fun _ => ?_⟩
  conv => whnf
  refine ⟨fun _ => ?_, fun h => absurd rfl h⟩
  conv => whnf
  refine ⟨by decide, by decide, rfl, by decide, fun a ha => ?_⟩
  cases ha
  conv => whnf
  refine ⟨fun h => absurd h (by decide), fun _ => ?_⟩
  conv => whnf
  refine ⟨fun _ => ?_, fun h => absurd rfl h⟩
  conv => whnf
  refine ⟨by decide, by decide, rfl, by decide, fun a ha => ?_⟩
  cases ha
  conv => whnf
  refine ⟨fun h => absurd h (by decide), fun _ => ?_⟩
  conv => whnf
  refine ⟨fun _ => ?_, fun h => absurd rfl h⟩
  conv => whnf
  refine ⟨fun _ => ?_, fun h => absurd rfl h⟩
  conv => whnf
  refine csplit (fun hfr => ?_) (fun hfr => ?_)
  · have hpl := prn_len hi.from_.1 hi.from_.2
    conv => whnf
    refine acall.pure _ (k_itoa from_) rfl rfl fun _ => ?_
    conv => whnf
    refine ⟨by show (⟨#[64]⟩ : ByteArray).size + (prnB from_).size ≤ _; have : (⟨#[64]⟩ : ByteArray).size = 1 := rfl; have : (prnB from_).size ≤ 21 := hpl; omega, ?_⟩
    conv => whnf
    refine acall.new [1, 25] [] _ _ _ _ (k_say ⟨6, op, d, a, b, addr, to_, word, from_⟩ (atB from_) [kword 6] (by simp)) rfl rfl rfl rfl (by repeat' (first | exact trivial | exact Or.inl (ti_succ (by assumption) (by assumption)) | exact Or.inl rfl | exact rfl | exact Nat.le_refl _ | apply And.intro)) (by repeat' (first | exact trivial | exact Or.inl (ti_succ (by assumption) (by assumption)) | exact Or.inl rfl | exact rfl | exact Nat.le_refl _ | apply And.intro)) rfl rfl fun _ => ?_
    conv => whnf
    refine acall.gen [] [137] _ _ _ _ (k_join [kword 6, atB from_] (Nat.le_trans (joinL_le (fun x hx => ?_) (by simp)) (by omega))) rfl rfl rfl rfl ⟨⟨rfl, Nat.le_refl _, rfl⟩, .inl rfl, trivial⟩ trivial rfl rfl fun _ => ?_
    · simp only [List.mem_cons, List.not_mem_nil, or_false] at hx
      rcases hx with rfl | rfl
      all_goals first | decide | exact op_len40 _ | exact reg_len hi.d | exact reg_len hi.a | exact reg_len hi.b | exact prn_len40 hi.addr | exact prn_len40 hi.to_ | exact prn_len40 hi.word | exact at_len hi.from_
    conv => whnf
    exact ⟨.inl (congrArg (fun l => ts (joinB l)) (by rw [hfr]; rfl)), trivial⟩
  · conv => whnf
    refine acall.gen [] [25] _ _ _ _ (k_join [kword 6] (Nat.le_trans (joinL_le (fun x hx => ?_) (by simp)) (by omega))) rfl rfl rfl rfl ⟨⟨rfl, Nat.le_refl _, rfl⟩, .inl rfl, trivial⟩ trivial rfl rfl fun _ => ?_
    · simp only [List.mem_cons, List.not_mem_nil, or_false] at hx
      rcases hx with rfl
      all_goals first | decide | exact op_len40 _ | exact reg_len hi.d | exact reg_len hi.a | exact reg_len hi.b | exact prn_len40 hi.addr | exact prn_len40 hi.to_ | exact prn_len40 hi.word | exact at_len hi.from_
    conv => whnf
    exact ⟨.inl (congrArg (fun l => ts (joinB l)) (by rw [hfr]; rfl)), trivial⟩
set_option maxRecDepth 100000 in
set_option maxHeartbeats 2000000 in
theorem k_text7 {op d a b addr to_ word from_ : Int} (hi : IOk ⟨7, op, d, a, b, addr, to_, word, from_⟩) : K 34 [Ins.av ⟨7, op, d, a, b, addr, to_, word, from_⟩] [] (.ret (.tr (ts (textB ⟨7, op, d, a, b, addr, to_, word, from_⟩)))) [] := by
  refine Ctr.cut [2] hT hmix Tryz.func34 rfl (fun _ _ => by kernel_rfl) rfl fun hok => ?_
  clear hok
  have hu := k_used ⟨7, op, d, a, b, addr, to_, word, from_⟩
  have hf := k_forms 7
  have e : usedM 7 op = 4 := rfl
  simp only [e] at hu
  clear e
  have eW : wordsOf ⟨7, op, d, a, b, addr, to_, word, from_⟩ = [kword 7, regB a] ++ (bif from_ != 0 then [atB from_] else []) := by kernel_rfl
  have eT : textB ⟨7, op, d, a, b, addr, to_, word, from_⟩ = joinB (wordsOf ⟨7, op, d, a, b, addr, to_, word, from_⟩) := rfl
  rw [eW] at eT
  clear eW
  rw [eT]
  clear eT
  conv => whnf
  refine CutL.by (fun _ : Unit => ⟨[(1, .ptr 0 0), (3, .ptr 1 0)], [(0, .cells 25 [.tr (tu 7), .tr (tu op), .tr (ti d), .tr (ti a), .tr (ti b), .tr (ti addr), .tr (ti to_), .tr (ti word), .tr (ti from_)]), (1, wrB ⟨7, op, d, a, b, addr, to_, word, from_⟩ 2 []), (2, wdB [])], 10⟩) (fun _ => True) ?_ ?_
  · conv => whnf
    exact ⟨(), [0, 4], [2], Sub.mk' rfl (by repeat' (first | exact trivial | exact Or.inl (ti_succ (by assumption) (by assumption)) | exact Or.inl rfl | exact rfl | exact Nat.le_refl _ | apply And.intro)) (by repeat' (first | exact trivial | exact Or.inl rfl | exact rfl | exact ⟨_, _, _, rfl, Nat.zero_lt_one⟩ | apply And.intro)) rfl rfl, trivial⟩
  rintro _ - -
  conv => whnf
  refine acall.pure _ (hf) rfl rfl fun _ => ?_
  conv => whnf
  refine csplit (fun _ => ?_) (fun hs => Bool.noConfusion (hs.symm.trans (show _ = true by kernel_rfl)))
  conv => whnf
  refine acall.new [1, 2] [] _ _ _ _ (k_say ⟨7, op, d, a, b, addr, to_, word, from_⟩ (kword 7) [] (by simp)) rfl rfl rfl rfl (by repeat' (first | exact trivial | exact Or.inl (ti_succ (by assumption) (by assumption)) | exact Or.inl rfl | exact rfl | exact Nat.le_refl _ | apply And.intro)) (by repeat' (first | exact trivial | exact Or.inl (ti_succ (by assumption) (by assumption)) | exact Or.inl rfl | exact rfl | exact Nat.le_refl _ | apply And.intro)) rfl rfl fun _ => ?_
  conv => whnf
  refine acall.pure _ (hu) rfl rfl fun _ => ?_
  conv => whnf
  refine LoopL.un 5 ?_
  conv => whnf
  refine ⟨by decide, by decide, rfl, by decide, fun a ha => ?_⟩
  cases ha
  conv => whnf
  refine acall.new [1, 25] [] _ _ _ _ (k_w_a ⟨7, op, d, a, b, addr, to_, word, from_⟩ [kword 7] (by simp)) rfl rfl rfl rfl (by repeat' (first | exact trivial | exact Or.inl (ti_succ (by assumption) (by assumption)) | exact Or.inl rfl | exact rfl | exact Nat.le_refl _ | apply And.intro)) (by repeat' (first | exact trivial | exact Or.inl (ti_succ (by assumption) (by assumption)) | exact Or.inl rfl | exact rfl | exact Nat.le_refl _ | apply And.intro)) rfl rfl fun _ => ?_
  conv => whnf
  refine ⟨by decide, by decide, rfl, by decide, fun a ha => ?_⟩
  cases ha
  conv => whnf
  refine ⟨fun h => absurd h (by decide), fun _ => ?_⟩
  conv => whnf
  refine ⟨fun _ => ?_, fun h => absurd rfl h⟩
  conv => whnf
  refine ⟨by decide, by decide, rfl, by decide, fun a ha => ?_⟩
  cases ha
  conv => whnf
  refine ⟨fun h => absurd h (by decide), fun _ => ?_⟩
  conv => whnf
  refine ⟨fun _ => ?_, fun h => absurd rfl h⟩
  conv => whnf
  refine ⟨by decide, by decide, rfl, by decide, fun a ha => ?_⟩
  cases ha
  conv => whnf
  refine ⟨fun h => absurd h (by decide), fun _ => ?_⟩
  conv => whnf
  refine ⟨fun _ => ?_, fun h => absurd rfl h⟩
  conv => whnf
  refine ⟨fun _ => ?_, fun h => absurd rfl h⟩
  conv => whnf
  refine csplit (fun hfr => ?_) (fun hfr => ?_)
  · have hpl := prn_len hi.from_.1 hi.from_.2
    conv => whnf
    refine acall.pure _ (k_itoa from_) rfl rfl fun _ => ?_
    conv => whnf
    refine ⟨by show (⟨#[64]⟩ : ByteArray).size + (prnB from_).size ≤ _; have : (⟨#[64]⟩ : ByteArray).size = 1 := rfl; have : (prnB from_).size ≤ 21 := hpl; omega, ?_⟩
    conv => whnf
    refine acall.new [1, 53] [] _ _ _ _ (k_say ⟨7, op, d, a, b, addr, to_, word, from_⟩ (atB from_) [kword 7, regB a] (by simp)) rfl rfl rfl rfl (by repeat' (first | exact trivial | exact Or.inl (ti_succ (by assumption) (by assumption)) | exact Or.inl rfl | exact rfl | exact Nat.le_refl _ | apply And.intro)) (by repeat' (first | exact trivial | exact Or.inl (ti_succ (by assumption) (by assumption)) | exact Or.inl rfl | exact rfl | exact Nat.le_refl _ | apply And.intro)) rfl rfl fun _ => ?_
    conv => whnf
    refine acall.gen [] [134] _ _ _ _ (k_join [kword 7, regB a, atB from_] (Nat.le_trans (joinL_le (fun x hx => ?_) (by simp)) (by omega))) rfl rfl rfl rfl ⟨⟨rfl, Nat.le_refl _, rfl⟩, .inl rfl, trivial⟩ trivial rfl rfl fun _ => ?_
    · simp only [List.mem_cons, List.not_mem_nil, or_false] at hx
      rcases hx with rfl | rfl | rfl
      all_goals first | decide | exact op_len40 _ | exact reg_len hi.d | exact reg_len hi.a | exact reg_len hi.b | exact prn_len40 hi.addr | exact prn_len40 hi.to_ | exact prn_len40 hi.word | exact at_len hi.from_
    conv => whnf
    exact ⟨.inl (congrArg (fun l => ts (joinB l)) (by rw [hfr]; rfl)), trivial⟩
  · conv => whnf
    refine acall.gen [] [53] _ _ _ _ (k_join [kword 7, regB a] (Nat.le_trans (joinL_le (fun x hx => ?_) (by simp)) (by omega))) rfl rfl rfl rfl ⟨⟨rfl, Nat.le_refl _, rfl⟩, .inl rfl, trivial⟩ trivial rfl rfl fun _ => ?_
    · simp only [List.mem_cons, List.not_mem_nil, or_false] at hx
      rcases hx with rfl | rfl
      all_goals first | decide | exact op_len40 _ | exact reg_len hi.d | exact reg_len hi.a | exact reg_len hi.b | exact prn_len40 hi.addr | exact prn_len40 hi.to_ | exact prn_len40 hi.word | exact at_len hi.from_
    conv => whnf
    exact ⟨.inl (congrArg (fun l => ts (joinB l)) (by rw [hfr]; rfl)), trivial⟩
set_option maxRecDepth 100000 in
set_option maxHeartbeats 2000000 in
theorem k_text8 {op d a b addr to_ word from_ : Int} (hi : IOk ⟨8, op, d, a, b, addr, to_, word, from_⟩) : K 34 [Ins.av ⟨8, op, d, a, b, addr, to_, word, from_⟩] [] (.ret (.tr (ts (textB ⟨8, op, d, a, b, addr, to_, word, from_⟩)))) [] := by
  refine Ctr.cut [2] hT hmix Tryz.func34 rfl (fun _ _ => by kernel_rfl) rfl fun hok => ?_
  clear hok
  have hu := k_used ⟨8, op, d, a, b, addr, to_, word, from_⟩
  have hf := k_forms 8
  have e : usedM 8 op = 32 := rfl
  simp only [e] at hu
  clear e
  have eW : wordsOf ⟨8, op, d, a, b, addr, to_, word, from_⟩ = [kword 8, prnB to_] ++ (bif from_ != 0 then [atB from_] else []) := by kernel_rfl
  have eT : textB ⟨8, op, d, a, b, addr, to_, word, from_⟩ = joinB (wordsOf ⟨8, op, d, a, b, addr, to_, word, from_⟩) := rfl
  rw [eW] at eT
  clear eW
  rw [eT]
  clear eT
  conv => whnf
  refine CutL.by (fun _ : Unit => ⟨[(1, .ptr 0 0), (3, .ptr 1 0)], [(0, .cells 25 [.tr (tu 8), .tr (tu op), .tr (ti d), .tr (ti a), .tr (ti b), .tr (ti addr), .tr (ti to_), .tr (ti word), .tr (ti from_)]), (1, wrB ⟨8, op, d, a, b, addr, to_, word, from_⟩ 2 []), (2, wdB [])], 10⟩) (fun _ => True) ?_ ?_
  · conv => whnf
    exact ⟨(), [0, 4], [2], Sub.mk' rfl (by repeat' (first | exact trivial | exact Or.inl (ti_succ (by assumption) (by assumption)) | exact Or.inl rfl | exact rfl | exact Nat.le_refl _ | apply And.intro)) (by repeat' (first | exact trivial | exact Or.inl rfl | exact rfl | exact ⟨_, _, _, rfl, Nat.zero_lt_one⟩ | apply And.intro)) rfl rfl, trivial⟩
  rintro _ - -
  conv => whnf
  refine acall.pure _ (hf) rfl rfl fun _ => ?_
  conv => whnf
  refine csplit (fun _ => ?_) (fun hs => Bool.noConfusion (hs.symm.trans (show _ = true by kernel_rfl)))
  conv => whnf
  refine acall.new [1, 2] [] _ _ _ _ (k_say ⟨8, op, d, a, b, addr, to_, word, from_⟩ (kword 8) [] (by simp)) rfl rfl rfl rfl (by repeat' (first | exact trivial | exact Or.inl (ti_succ (by assumption) (by assumption)) | exact Or.inl rfl | exact rfl | exact Nat.le_refl _ | apply And.intro)) (by repeat' (first | exact trivial | exact Or.inl (ti_succ (by assumption) (by assumption)) | exact Or.inl rfl | exact rfl | exact Nat.le_refl _ | apply And.intro)) rfl rfl fun _ => ?_
  conv => whnf
  refine acall.pure _ (hu) rfl rfl fun _ => ?_
  conv => whnf
  refine LoopL.un 5 ?_
  conv => whnf
  refine ⟨by decide, by decide, rfl, by decide, fun a ha => ?_⟩
  cases ha
  conv => whnf
  refine acall.new [1, 25] [] _ _ _ _ (k_w_to ⟨8, op, d, a, b, addr, to_, word, from_⟩ [kword 8] (by simp)) rfl rfl rfl rfl (by repeat' (first | exact trivial | exact Or.inl (ti_succ (by assumption) (by assumption)) | exact Or.inl rfl | exact rfl | exact Nat.le_refl _ | apply And.intro)) (by repeat' (first | exact trivial | exact Or.inl (ti_succ (by assumption) (by assumption)) | exact Or.inl rfl | exact rfl | exact Nat.le_refl _ | apply And.intro)) rfl rfl fun _ => ?_
  conv => whnf
  refine ⟨by decide, by decide, rfl, by decide, fun a ha => ?_⟩
  cases ha
  conv => whnf
  refine ⟨fun h => absurd h (by decide), fun _ => ?_⟩
  conv => whnf
  refine ⟨fun _ => ?_, fun h => absurd rfl h⟩
  conv => whnf
  refine ⟨by decide, by decide, rfl, by decide, fun a ha => ?_⟩
  cases ha
  conv => whnf
  refine ⟨fun h => absurd h (by decide), fun _ => ?_⟩
  conv => whnf
  refine ⟨fun _ => ?_, fun h => absurd rfl h⟩
  conv => whnf
  refine ⟨by decide, by decide, rfl, by decide, fun a ha => ?_⟩
  cases ha
  conv => whnf
  refine ⟨fun h => absurd h (by decide), fun _ => ?_⟩
  conv => whnf
  refine ⟨fun _ => ?_, fun h => absurd rfl h⟩
  conv => whnf
  refine ⟨fun _ => ?_, fun h => absurd rfl h⟩
  conv => whnf
  refine csplit (fun hfr => ?_) (fun hfr => ?_)
  · have hpl := prn_len hi.from_.1 hi.from_.2
    conv => whnf
    refine acall.pure _ (k_itoa from_) rfl rfl fun _ => ?_
    conv => whnf
    refine ⟨by show (⟨#[64]⟩ : ByteArray).size + (prnB from_).size ≤ _; have : (⟨#[64]⟩ : ByteArray).size = 1 := rfl; have : (prnB from_).size ≤ 21 := hpl; omega, ?_⟩
    conv => whnf
    refine acall.new [1, 59] [] _ _ _ _ (k_say ⟨8, op, d, a, b, addr, to_, word, from_⟩ (atB from_) [kword 8, prnB to_] (by simp)) rfl rfl rfl rfl (by repeat' (first | exact trivial | exact Or.inl (ti_succ (by assumption) (by assumption)) | exact Or.inl rfl | exact rfl | exact Nat.le_refl _ | apply And.intro)) (by repeat' (first | exact trivial | exact Or.inl (ti_succ (by assumption) (by assumption)) | exact Or.inl rfl | exact rfl | exact Nat.le_refl _ | apply And.intro)) rfl rfl fun _ => ?_
    conv => whnf
    refine acall.gen [] [140] _ _ _ _ (k_join [kword 8, prnB to_, atB from_] (Nat.le_trans (joinL_le (fun x hx => ?_) (by simp)) (by omega))) rfl rfl rfl rfl ⟨⟨rfl, Nat.le_refl _, rfl⟩, .inl rfl, trivial⟩ trivial rfl rfl fun _ => ?_
    · simp only [List.mem_cons, List.not_mem_nil, or_false] at hx
      rcases hx with rfl | rfl | rfl
      all_goals first | decide | exact op_len40 _ | exact reg_len hi.d | exact reg_len hi.a | exact reg_len hi.b | exact prn_len40 hi.addr | exact prn_len40 hi.to_ | exact prn_len40 hi.word | exact at_len hi.from_
    conv => whnf
    exact ⟨.inl (congrArg (fun l => ts (joinB l)) (by rw [hfr]; rfl)), trivial⟩
  · conv => whnf
    refine acall.gen [] [59] _ _ _ _ (k_join [kword 8, prnB to_] (Nat.le_trans (joinL_le (fun x hx => ?_) (by simp)) (by omega))) rfl rfl rfl rfl ⟨⟨rfl, Nat.le_refl _, rfl⟩, .inl rfl, trivial⟩ trivial rfl rfl fun _ => ?_
    · simp only [List.mem_cons, List.not_mem_nil, or_false] at hx
      rcases hx with rfl | rfl
      all_goals first | decide | exact op_len40 _ | exact reg_len hi.d | exact reg_len hi.a | exact reg_len hi.b | exact prn_len40 hi.addr | exact prn_len40 hi.to_ | exact prn_len40 hi.word | exact at_len hi.from_
    conv => whnf
    exact ⟨.inl (congrArg (fun l => ts (joinB l)) (by rw [hfr]; rfl)), trivial⟩
set_option maxRecDepth 100000 in
set_option maxHeartbeats 2000000 in
theorem k_text9 {op d a b addr to_ word from_ : Int} (hi : IOk ⟨9, op, d, a, b, addr, to_, word, from_⟩) : K 34 [Ins.av ⟨9, op, d, a, b, addr, to_, word, from_⟩] [] (.ret (.tr (ts (textB ⟨9, op, d, a, b, addr, to_, word, from_⟩)))) [] := by
  refine Ctr.cut [2] hT hmix Tryz.func34 rfl (fun _ _ => by kernel_rfl) rfl fun hok => ?_
  clear hok
  have hu := k_used ⟨9, op, d, a, b, addr, to_, word, from_⟩
  have hf := k_forms 9
  have e : usedM 9 op = 36 := rfl
  simp only [e] at hu
  clear e
  have eW : wordsOf ⟨9, op, d, a, b, addr, to_, word, from_⟩ = [kword 9, regB a, prnB to_] ++ (bif from_ != 0 then [atB from_] else []) := by kernel_rfl
  have eT : textB ⟨9, op, d, a, b, addr, to_, word, from_⟩ = joinB (wordsOf ⟨9, op, d, a, b, addr, to_, word, from_⟩) := rfl
  rw [eW] at eT
  clear eW
  rw [eT]
  clear eT
  conv => whnf
  refine CutL.by (fun _ : Unit => ⟨[(1, .ptr 0 0), (3, .ptr 1 0)], [(0, .cells 25 [.tr (tu 9), .tr (tu op), .tr (ti d), .tr (ti a), .tr (ti b), .tr (ti addr), .tr (ti to_), .tr (ti word), .tr (ti from_)]), (1, wrB ⟨9, op, d, a, b, addr, to_, word, from_⟩ 2 []), (2, wdB [])], 10⟩) (fun _ => True) ?_ ?_
  · conv => whnf
    exact ⟨(), [0, 4], [2], Sub.mk' rfl (by repeat' (first | exact trivial | exact Or.inl (ti_succ (by assumption) (by assumption)) | exact Or.inl rfl | exact rfl | exact Nat.le_refl _ | apply And.intro)) (by repeat' (first | exact trivial | exact Or.inl rfl | exact rfl | exact ⟨_, _, _, rfl, Nat.zero_lt_one⟩ | apply And.intro)) rfl rfl, trivial⟩
  rintro _ - -
  conv => whnf
  refine acall.pure _ (hf) rfl rfl fun _ => ?_
  conv => whnf
  refine csplit (fun _ => ?_) (fun hs => Bool.noConfusion (hs.symm.trans (show _ = true by kernel_rfl)))
  conv => whnf
  refine acall.new [1, 2] [] _ _ _ _ (k_say ⟨9, op, d, a, b, addr, to_, word, from_⟩ (kword 9) [] (by simp)) rfl rfl rfl rfl (by repeat' (first | exact trivial | exact Or.inl (ti_succ (by assumption) (by assumption)) | exact Or.inl rfl | exact rfl | exact Nat.le_refl _ | apply And.intro)) (by repeat' (first | exact trivial | exact Or.inl (ti_succ (by assumption) (by assumption)) | exact Or.inl rfl | exact rfl | exact Nat.le_refl _ | apply And.intro)) rfl rfl fun _ => ?_
  conv => whnf
  refine acall.pure _ (hu) rfl rfl fun _ => ?_
  conv => whnf
  refine LoopL.un 5 ?_
  conv => whnf
  refine ⟨by decide, by decide, rfl, by decide, fun a ha => ?_⟩
  cases ha
  conv => whnf
  refine acall.new [1, 25] [] _ _ _ _ (k_w_a ⟨9, op, d, a, b, addr, to_, word, from_⟩ [kword 9] (by simp)) rfl rfl rfl rfl (by repeat' (first | exact trivial | exact Or.inl (ti_succ (by assumption) (by assumption)) | exact Or.inl rfl | exact rfl | exact Nat.le_refl _ | apply And.intro)) (by repeat' (first | exact trivial | exact Or.inl (ti_succ (by assumption) (by assumption)) | exact Or.inl rfl | exact rfl | exact Nat.le_refl _ | apply And.intro)) rfl rfl fun _ => ?_
  conv => whnf
  refine ⟨by decide, by decide, rfl, by decide, fun a ha => ?_⟩
  cases ha
  conv => whnf
  refine acall.new [1, 53] [] _ _ _ _ (k_w_to ⟨9, op, d, a, b, addr, to_, word, from_⟩ [kword 9, regB a] (by simp)) rfl rfl rfl rfl (by repeat' (first | exact trivial | exact Or.inl (ti_succ (by assumption) (by assumption)) | exact Or.inl rfl | exact rfl | exact Nat.le_refl _ | apply And.intro)) (by repeat' (first | exact trivial | exact Or.inl (ti_succ (by assumption) (by assumption)) | exact Or.inl rfl | exact rfl | exact Nat.le_refl _ | apply And.intro)) rfl rfl fun _ => ?_
  conv => whnf
  refine ⟨by decide, by decide, rfl, by decide, fun a ha => ?_⟩
  cases ha
  conv => whnf
  refine ⟨fun h => absurd h (by decide), fun _ => ?_⟩
  conv => whnf
  refine ⟨fun _ => ?_, fun h => absurd rfl h⟩
  conv => whnf
  refine ⟨by decide, by decide, rfl, by decide, fun a ha => ?_⟩
  cases ha
  conv => whnf
  refine ⟨fun h => absurd h (by decide), fun _ => ?_⟩
  conv => whnf
  refine ⟨fun _ => ?_, fun h => absurd rfl h⟩
  conv => whnf
  refine ⟨fun _ => ?_, fun h => absurd rfl h⟩
  conv => whnf
  refine csplit (fun hfr => ?_) (fun hfr => ?_)
  · have hpl := prn_len hi.from_.1 hi.from_.2
    conv => whnf
    refine acall.pure _ (k_itoa from_) rfl rfl fun _ => ?_
    conv => whnf
    refine ⟨by show (⟨#[64]⟩ : ByteArray).size + (prnB from_).size ≤ _; have : (⟨#[64]⟩ : ByteArray).size = 1 := rfl; have : (prnB from_).size ≤ 21 := hpl; omega, ?_⟩
    conv => whnf
    refine acall.new [1, 79] [] _ _ _ _ (k_say ⟨9, op, d, a, b, addr, to_, word, from_⟩ (atB from_) [kword 9, regB a, prnB to_] (by simp)) rfl rfl rfl rfl (by repeat' (first | exact trivial | exact Or.inl (ti_succ (by assumption) (by assumption)) | exact Or.inl rfl | exact rfl | exact Nat.le_refl _ | apply And.intro)) (by repeat' (first | exact trivial | exact Or.inl (ti_succ (by assumption) (by assumption)) | exact Or.inl rfl | exact rfl | exact Nat.le_refl _ | apply And.intro)) rfl rfl fun _ => ?_
    conv => whnf
    refine acall.gen [] [137] _ _ _ _ (k_join [kword 9, regB a, prnB to_, atB from_] (Nat.le_trans (joinL_le (fun x hx => ?_) (by simp)) (by omega))) rfl rfl rfl rfl ⟨⟨rfl, Nat.le_refl _, rfl⟩, .inl rfl, trivial⟩ trivial rfl rfl fun _ => ?_
    · simp only [List.mem_cons, List.not_mem_nil, or_false] at hx
      rcases hx with rfl | rfl | rfl | rfl
      all_goals first | decide | exact op_len40 _ | exact reg_len hi.d | exact reg_len hi.a | exact reg_len hi.b | exact prn_len40 hi.addr | exact prn_len40 hi.to_ | exact prn_len40 hi.word | exact at_len hi.from_
    conv => whnf
    exact ⟨.inl (congrArg (fun l => ts (joinB l)) (by rw [hfr]; rfl)), trivial⟩
  · conv => whnf
    refine acall.gen [] [79] _ _ _ _ (k_join [kword 9, regB a, prnB to_] (Nat.le_trans (joinL_le (fun x hx => ?_) (by simp)) (by omega))) rfl rfl rfl rfl ⟨⟨rfl, Nat.le_refl _, rfl⟩, .inl rfl, trivial⟩ trivial rfl rfl fun _ => ?_
    · simp only [List.mem_cons, List.not_mem_nil, or_false] at hx
      rcases hx with rfl | rfl | rfl
      all_goals first | decide | exact op_len40 _ | exact reg_len hi.d | exact reg_len hi.a | exact reg_len hi.b | exact prn_len40 hi.addr | exact prn_len40 hi.to_ | exact prn_len40 hi.word | exact at_len hi.from_
    conv => whnf
    exact ⟨.inl (congrArg (fun l => ts (joinB l)) (by rw [hfr]; rfl)), trivial⟩
set_option maxRecDepth 100000 in
set_option maxHeartbeats 2000000 in
theorem k_text10 {op d a b addr to_ word from_ : Int} (hi : IOk ⟨10, op, d, a, b, addr, to_, word, from_⟩) : K 34 [Ins.av ⟨10, op, d, a, b, addr, to_, word, from_⟩] [] (.ret (.tr (ts (textB ⟨10, op, d, a, b, addr, to_, word, from_⟩)))) [] := by
  refine Ctr.cut [2] hT hmix Tryz.func34 rfl (fun _ _ => by kernel_rfl) rfl fun hok => ?_
  clear hok
  have hu := k_used ⟨10, op, d, a, b, addr, to_, word, from_⟩
  have hf := k_forms 10
  have e : usedM 10 op = 0 := rfl
  simp only [e] at hu
  clear e
  have eW : wordsOf ⟨10, op, d, a, b, addr, to_, word, from_⟩ = [kword 10] ++ (bif from_ != 0 then [atB from_] else []) := by kernel_rfl
  have eT : textB ⟨10, op, d, a, b, addr, to_, word, from_⟩ = joinB (wordsOf ⟨10, op, d, a, b, addr, to_, word, from_⟩) := rfl
  rw [eW] at eT
  clear eW
  rw [eT]
  clear eT
  conv => whnf
  refine CutL.by (fun _ : Unit => ⟨[(1, .ptr 0 0), (3, .ptr 1 0)], [(0, .cells 25 [.tr (tu 10), .tr (tu op), .tr (ti d), .tr (ti a), .tr (ti b), .tr (ti addr), .tr (ti to_), .tr (ti word), .tr (ti from_)]), (1, wrB ⟨10, op, d, a, b, addr, to_, word, from_⟩ 2 []), (2, wdB [])], 10⟩) (fun _ => True) ?_ ?_
  · conv => whnf
    exact ⟨(), [0, 4], [2], Sub.mk' rfl (by repeat' (first | exact trivial | exact Or.inl (ti_succ (by assumption) (by assumption)) | exact Or.inl rfl | exact rfl | exact Nat.le_refl _ | apply And.intro)) (by repeat' (first | exact trivial | exact Or.inl rfl | exact rfl | exact ⟨_, _, _, rfl, Nat.zero_lt_one⟩ | apply And.intro)) rfl rfl, trivial⟩
  rintro _ - -
  conv => whnf
  refine acall.pure _ (hf) rfl rfl fun _ => ?_
  conv => whnf
  refine csplit (fun _ => ?_) (fun hs => Bool.noConfusion (hs.symm.trans (show _ = true by kernel_rfl)))
  conv => whnf
  refine acall.new [1, 2] [] _ _ _ _ (k_say ⟨10, op, d, a, b, addr, to_, word, from_⟩ (kword 10) [] (by simp)) rfl rfl rfl rfl (by repeat' (first | exact trivial | exact Or.inl (ti_succ (by assumption) (by assumption)) | exact Or.inl rfl | exact rfl | exact Nat.le_refl _ | apply And.intro)) (by repeat' (first | exact trivial | exact Or.inl (ti_succ (by assumption) (by assumption)) | exact Or.inl rfl | exact rfl | exact Nat.le_refl _ | apply And.intro)) rfl rfl fun _ => ?_
  conv => whnf
  refine acall.pure _ (hu) rfl rfl fun _ => ?_
  conv => whnf
  refine LoopL.un 5 ?_
  conv => whnf
  refine ⟨by decide, by decide, rfl, by decide, fun a ha => ?_⟩
  cases ha
  conv => whnf
  refine ⟨fun h => absurd h (by decide), fun _ => ?_⟩
  conv => whnf
  refine ⟨fun _ => ?_, fun h => absurd rfl h⟩
  conv => whnf
  refine ⟨by decide, by decide, rfl, by decide, fun a ha => ?_⟩
  cases ha
  conv => whnf
  refine ⟨fun h => absurd h (by decide), fun _ => ?_⟩
  conv => whnf
  refine ⟨fun _ => ?_, fun h => absurd rfl h⟩
  conv => whnf
  refine ⟨by decide, by decide, rfl, by decide, fun a ha => ?_⟩
  cases ha
  conv => whnf
  refine ⟨fun h => absurd h (by decide), fun _ => ?_⟩
  conv => whnf
  refine ⟨fun _ => ?_, fun h => absurd rfl h⟩
  conv => whnf
  refine ⟨by decide, by decide, rfl, by decide, fun a ha => ?_⟩
  cases ha
  conv => whnf
  refine ⟨fun h => absurd h (by decide), fun _ => ?_⟩
  conv => whnf
  refine ⟨fun _ => ?_, fun h => absurd rfl h⟩
  conv => whnf
  refine ⟨fun _ => ?_, fun h => absurd rfl h⟩
  conv => whnf
  refine csplit (fun hfr => ?_) (fun hfr => ?_)
  · have hpl := prn_len hi.from_.1 hi.from_.2
    conv => whnf
    refine acall.pure _ (k_itoa from_) rfl rfl fun _ => ?_
    conv => whnf
    refine ⟨by show (⟨#[64]⟩ : ByteArray).size + (prnB from_).size ≤ _; have : (⟨#[64]⟩ : ByteArray).size = 1 := rfl; have : (prnB from_).size ≤ 21 := hpl; omega, ?_⟩
    conv => whnf
    refine acall.new [1, 25] [] _ _ _ _ (k_say ⟨10, op, d, a, b, addr, to_, word, from_⟩ (atB from_) [kword 10] (by simp)) rfl rfl rfl rfl (by repeat' (first | exact trivial | exact Or.inl (ti_succ (by assumption) (by assumption)) | exact Or.inl rfl | exact rfl | exact Nat.le_refl _ | apply And.intro)) (by repeat' (first | exact trivial | exact Or.inl (ti_succ (by assumption) (by assumption)) | exact Or.inl rfl | exact rfl | exact Nat.le_refl _ | apply And.intro)) rfl rfl fun _ => ?_
    conv => whnf
    refine acall.gen [] [137] _ _ _ _ (k_join [kword 10, atB from_] (Nat.le_trans (joinL_le (fun x hx => ?_) (by simp)) (by omega))) rfl rfl rfl rfl ⟨⟨rfl, Nat.le_refl _, rfl⟩, .inl rfl, trivial⟩ trivial rfl rfl fun _ => ?_
    · simp only [List.mem_cons, List.not_mem_nil, or_false] at hx
      rcases hx with rfl | rfl
      all_goals first | decide | exact op_len40 _ | exact reg_len hi.d | exact reg_len hi.a | exact reg_len hi.b | exact prn_len40 hi.addr | exact prn_len40 hi.to_ | exact prn_len40 hi.word | exact at_len hi.from_
    conv => whnf
    exact ⟨.inl (congrArg (fun l => ts (joinB l)) (by rw [hfr]; rfl)), trivial⟩
  · conv => whnf
    refine acall.gen [] [25] _ _ _ _ (k_join [kword 10] (Nat.le_trans (joinL_le (fun x hx => ?_) (by simp)) (by omega))) rfl rfl rfl rfl ⟨⟨rfl, Nat.le_refl _, rfl⟩, .inl rfl, trivial⟩ trivial rfl rfl fun _ => ?_
    · simp only [List.mem_cons, List.not_mem_nil, or_false] at hx
      rcases hx with rfl
      all_goals first | decide | exact op_len40 _ | exact reg_len hi.d | exact reg_len hi.a | exact reg_len hi.b | exact prn_len40 hi.addr | exact prn_len40 hi.to_ | exact prn_len40 hi.word | exact at_len hi.from_
    conv => whnf
    exact ⟨.inl (congrArg (fun l => ts (joinB l)) (by rw [hfr]; rfl)), trivial⟩
set_option maxRecDepth 100000 in
set_option maxHeartbeats 2000000 in
theorem k_text11 {kind op d a b addr to_ word from_ : Int} (hk : 11 ≤ kind) (hi : IOk ⟨kind, op, d, a, b, addr, to_, word, from_⟩) : K 34 [Ins.av ⟨kind, op, d, a, b, addr, to_, word, from_⟩] [] (.ret (.tr (ts (textB ⟨kind, op, d, a, b, addr, to_, word, from_⟩)))) [] := by
  refine Ctr.cut [2] hT hmix Tryz.func34 rfl (fun _ _ => by kernel_rfl) rfl fun hok => ?_
  clear hok
  have hu := k_used ⟨kind, op, d, a, b, addr, to_, word, from_⟩
  obtain ⟨W, hW⟩ : ∃ W, W = kword 0 := ⟨_, rfl⟩
  have hf : K 63 [.tr (tu kind)] [] (.ret (.tup [.agg [.tr (ts W), .tr (tu 0), .tr (tu 0), .tr (tu 0), .tr (tu 0)], .tr (tb (kok kind))])) [] := by rw [hW]; have := k_forms kind; rw [form_big hk] at this; exact this
  have e : usedM kind op = 0 := by unfold usedM; rw [show (kind == 2) = false from beq_eq_false_iff_ne.2 (by omega), kmask_big hk]; rfl
  simp only [e] at hu
  clear e
  have eW : wordsOf ⟨kind, op, d, a, b, addr, to_, word, from_⟩ = (bif from_ != 0 then [atB from_] else []) := by
    unfold wordsOf fieldsW
    simp only [show (kind == 2) = false from beq_eq_false_iff_ne.2 (by omega), show kword kind = ⟨#[]⟩ from byK_big rfl hk, show kuse kind = [0, 0, 0, 0] from byK_big rfl hk]; kernel_rfl
  have eT : textB ⟨kind, op, d, a, b, addr, to_, word, from_⟩ = joinB (wordsOf ⟨kind, op, d, a, b, addr, to_, word, from_⟩) := rfl
  rw [eW] at eT
  clear eW
  rw [eT]
  clear eT
  conv => whnf
  refine CutL.by (fun _ : Unit => ⟨[(1, .ptr 0 0), (3, .ptr 1 0)], [(0, .cells 25 [.tr (tu kind), .tr (tu op), .tr (ti d), .tr (ti a), .tr (ti b), .tr (ti addr), .tr (ti to_), .tr (ti word), .tr (ti from_)]), (1, wrB ⟨kind, op, d, a, b, addr, to_, word, from_⟩ 2 []), (2, wdB [])], 10⟩) (fun _ => True) ?_ ?_
  · conv => whnf
    exact ⟨(), [0, 4], [2], Sub.mk' rfl (by repeat' (first | exact trivial | exact Or.inl (ti_succ (by assumption) (by assumption)) | exact Or.inl rfl | exact rfl | exact Nat.le_refl _ | apply And.intro)) (by repeat' (first | exact trivial | exact Or.inl rfl | exact rfl | exact ⟨_, _, _, rfl, Nat.zero_lt_one⟩ | apply And.intro)) rfl rfl, trivial⟩
  rintro _ - -
  conv => whnf
  refine acall.pure _ (hf) rfl rfl fun _ => ?_
  conv => whnf
  refine csplit (fun hs => by rw [hW] at hs; exact Bool.noConfusion (hs.symm.trans (show _ = false by kernel_rfl))) (fun _ => ?_)
  conv => whnf
  refine acall.pure _ (hu) rfl rfl fun _ => ?_
  conv => whnf
  refine LoopL.un 5 ?_
  conv => whnf
  refine ⟨by decide, by decide, rfl, by decide, fun a ha => ?_⟩
  cases ha
  conv => whnf
  refine ⟨fun h => absurd h (by decide), fun _ => ?_⟩
  conv => whnf
  refine ⟨fun _ => ?_, fun h => absurd rfl h⟩
  conv => whnf
  refine ⟨by decide, by decide, rfl, by decide, fun a ha => ?_⟩
  cases ha
  conv => whnf
  refine ⟨fun h => absurd h (by decide), fun _ => ?_⟩
  conv => whnf
  refine ⟨fun _ => ?_, fun h => absurd rfl h⟩
  conv => whnf
  refine ⟨by decide, by decide, rfl, by decide, fun a ha => ?_⟩
  cases ha
  conv => whnf
  refine ⟨fun h => absurd h (by decide), fun _ => ?_⟩
  conv => whnf
  refine ⟨fun _ => ?_, fun h => absurd rfl h⟩
  conv => whnf
  refine ⟨by decide, by decide, rfl, by decide, fun a ha => ?_⟩
  cases ha
  conv => whnf
  refine ⟨fun h => absurd h (by decide), fun _ => ?_⟩
  conv => whnf
  refine ⟨fun _ => ?_, fun h => absurd rfl h⟩
  conv => whnf
  refine ⟨fun _ => ?_, fun h => absurd rfl h⟩
  conv => whnf
  refine csplit (fun hfr => ?_) (fun hfr => ?_)
  · have hpl := prn_len hi.from_.1 hi.from_.2
    conv => whnf
    refine acall.pure _ (k_itoa from_) rfl rfl fun _ => ?_
    conv => whnf
    refine ⟨by show (⟨#[64]⟩ : ByteArray).size + (prnB from_).size ≤ _; have : (⟨#[64]⟩ : ByteArray).size = 1 := rfl; have : (prnB from_).size ≤ 21 := hpl; omega, ?_⟩
    conv => whnf
    refine acall.new [1, 2] [] _ _ _ _ (k_say ⟨kind, op, d, a, b, addr, to_, word, from_⟩ (atB from_) [] (by simp)) rfl rfl rfl rfl (by repeat' (first | exact trivial | exact Or.inl (ti_succ (by assumption) (by assumption)) | exact Or.inl rfl | exact rfl | exact Nat.le_refl _ | apply And.intro)) (by repeat' (first | exact trivial | exact Or.inl (ti_succ (by assumption) (by assumption)) | exact Or.inl rfl | exact rfl | exact Nat.le_refl _ | apply And.intro)) rfl rfl fun _ => ?_
    conv => whnf
    refine acall.gen [] [133] _ _ _ _ (k_join [atB from_] (Nat.le_trans (joinL_le (fun x hx => ?_) (by simp)) (by omega))) rfl rfl rfl rfl ⟨⟨rfl, Nat.le_refl _, rfl⟩, .inl rfl, trivial⟩ trivial rfl rfl fun _ => ?_
    · simp only [List.mem_cons, List.not_mem_nil, or_false] at hx
      rcases hx with rfl
      all_goals first | decide | exact op_len40 _ | exact reg_len hi.d | exact reg_len hi.a | exact reg_len hi.b | exact prn_len40 hi.addr | exact prn_len40 hi.to_ | exact prn_len40 hi.word | exact at_len hi.from_
    conv => whnf
    exact ⟨.inl (congrArg (fun l => ts (joinB l)) (by rw [hfr]; rfl)), trivial⟩
  · conv => whnf
    refine acall.gen [] [2] _ _ _ _ (k_join [] (Nat.le_trans (joinL_le (fun x hx => ?_) (by simp)) (by omega))) rfl rfl rfl rfl ⟨⟨rfl, Nat.le_refl _, rfl⟩, .inl rfl, trivial⟩ trivial rfl rfl fun _ => ?_
    · simp only [List.mem_cons, List.not_mem_nil, or_false] at hx
    conv => whnf
    exact ⟨.inl (congrArg (fun l => ts (joinB l)) (by rw [hfr]; rfl)), trivial⟩
set_option maxRecDepth 100000 in
set_option maxHeartbeats 2000000 in
theorem k_text2t {op d a b addr to_ word from_ : Int} (h2 : two op = true) (hi : IOk ⟨2, op, d, a, b, addr, to_, word, from_⟩) : K 34 [Ins.av ⟨2, op, d, a, b, addr, to_, word, from_⟩] [] (.ret (.tr (ts (textB ⟨2, op, d, a, b, addr, to_, word, from_⟩)))) [] := by
  refine Ctr.cut [2] hT hmix Tryz.func34 rfl (fun _ _ => by kernel_rfl) rfl fun hok => ?_
  clear hok
  have hu := k_used ⟨2, op, d, a, b, addr, to_, word, from_⟩
  obtain ⟨W, hW⟩ : ∃ W, W = kword 2 := ⟨_, rfl⟩
  have hf : K 63 [.tr (tu 2)] [] (.ret (.tup [.agg [.tr (ts W), .tr (tu 1), .tr (tu 2), .tr (tu 4), .tr (tu 8)], .tr (tb (kok 2))])) [] := by rw [hW]; exact k_forms 2
  have e : usedM 2 op = 15 := by unfold usedM; rw [h2]; rfl
  simp only [e] at hu
  clear e
  have eW : wordsOf ⟨2, op, d, a, b, addr, to_, word, from_⟩ = [opword op, regB d, regB a, regB b] ++ (bif from_ != 0 then [atB from_] else []) := by unfold wordsOf fieldsW; simp only [h2]; kernel_rfl
  have eT : textB ⟨2, op, d, a, b, addr, to_, word, from_⟩ = joinB (wordsOf ⟨2, op, d, a, b, addr, to_, word, from_⟩) := rfl
  rw [eW] at eT
  clear eW
  rw [eT]
  clear eT
  conv => whnf
  refine CutL.by (fun _ : Unit => ⟨[(1, .ptr 0 0), (3, .ptr 1 0)], [(0, .cells 25 [.tr (tu 2), .tr (tu op), .tr (ti d), .tr (ti a), .tr (ti b), .tr (ti addr), .tr (ti to_), .tr (ti word), .tr (ti from_)]), (1, wrB ⟨2, op, d, a, b, addr, to_, word, from_⟩ 2 []), (2, wdB [])], 10⟩) (fun _ => True) ?_ ?_
  · conv => whnf
    exact ⟨(), [0, 4], [2], Sub.mk' rfl (by repeat' (first | exact trivial | exact Or.inl (ti_succ (by assumption) (by assumption)) | exact Or.inl rfl | exact rfl | exact Nat.le_refl _ | apply And.intro)) (by repeat' (first | exact trivial | exact Or.inl rfl | exact rfl | exact ⟨_, _, _, rfl, Nat.zero_lt_one⟩ | apply And.intro)) rfl rfl, trivial⟩
  rintro _ - -
  conv => whnf
  refine acall.pure _ (hf) rfl rfl fun _ => ?_
  conv => whnf
  refine csplit (fun hs => by rw [hW] at hs; exact Bool.noConfusion (hs.symm.trans (show _ = false by kernel_rfl))) (fun _ => ?_)
  conv => whnf
  refine acall.pure _ (hu) rfl rfl fun _ => ?_
  conv => whnf
  refine LoopL.un 5 ?_
  conv => whnf
  refine ⟨by decide, by decide, rfl, by decide, fun a ha => ?_⟩
  cases ha
  conv => whnf
  refine acall.new [1, 2] [] _ _ _ _ (k_w_op ⟨2, op, d, a, b, addr, to_, word, from_⟩ [] (by simp)) rfl rfl rfl rfl (by repeat' (first | exact trivial | exact Or.inl (ti_succ (by assumption) (by assumption)) | exact Or.inl rfl | exact rfl | exact Nat.le_refl _ | apply And.intro)) (by repeat' (first | exact trivial | exact Or.inl (ti_succ (by assumption) (by assumption)) | exact Or.inl rfl | exact rfl | exact Nat.le_refl _ | apply And.intro)) rfl rfl fun _ => ?_
  conv => whnf
  refine ⟨by decide, by decide, rfl, by decide, fun a ha => ?_⟩
  cases ha
  conv => whnf
  refine acall.new [1, 45] [] _ _ _ _ (k_w_d ⟨2, op, d, a, b, addr, to_, word, from_⟩ [opword op] (by simp)) rfl rfl rfl rfl (by repeat' (first | exact trivial | exact Or.inl (ti_succ (by assumption) (by assumption)) | exact Or.inl rfl | exact rfl | exact Nat.le_refl _ | apply And.intro)) (by repeat' (first | exact trivial | exact Or.inl (ti_succ (by assumption) (by assumption)) | exact Or.inl rfl | exact rfl | exact Nat.le_refl _ | apply And.intro)) rfl rfl fun _ => ?_
  conv => whnf
  refine ⟨by decide, by decide, rfl, by decide, fun a ha => ?_⟩
  cases ha
  conv => whnf
  refine acall.new [1, 63] [] _ _ _ _ (k_w_a ⟨2, op, d, a, b, addr, to_, word, from_⟩ [opword op, regB d] (by simp)) rfl rfl rfl rfl (by repeat' (first | exact trivial | exact Or.inl (ti_succ (by assumption) (by assumption)) | exact Or.inl rfl | exact rfl | exact Nat.le_refl _ | apply And.intro)) (by repeat' (first | exact trivial | exact Or.inl (ti_succ (by assumption) (by assumption)) | exact Or.inl rfl | exact rfl | exact Nat.le_refl _ | apply And.intro)) rfl rfl fun _ => ?_
  conv => whnf
  refine ⟨by decide, by decide, rfl, by decide, fun a ha => ?_⟩
  cases ha
  conv => whnf
  refine acall.new [1, 83] [] _ _ _ _ (k_w_b ⟨2, op, d, a, b, addr, to_, word, from_⟩ [opword op, regB d, regB a] (by simp)) rfl rfl rfl rfl (by repeat' (first | exact trivial | exact Or.inl (ti_succ (by assumption) (by assumption)) | exact Or.inl rfl | exact rfl | exact Nat.le_refl _ | apply And.intro)) (by repeat' (first | exact trivial | exact Or.inl (ti_succ (by assumption) (by assumption)) | exact Or.inl rfl | exact rfl | exact Nat.le_refl _ | apply And.intro)) rfl rfl fun _ => ?_
  conv => whnf
  refine ⟨fun _ => ?_, fun h => absurd rfl h⟩
  conv => whnf
  refine csplit (fun hfr => ?_) (fun hfr => ?_)
  · have hpl := prn_len hi.from_.1 hi.from_.2
    conv => whnf
    refine acall.pure _ (k_itoa from_) rfl rfl fun _ => ?_
    conv => whnf
    refine ⟨by show (⟨#[64]⟩ : ByteArray).size + (prnB from_).size ≤ _; have : (⟨#[64]⟩ : ByteArray).size = 1 := rfl; have : (prnB from_).size ≤ 21 := hpl; omega, ?_⟩
    conv => whnf
    refine acall.new [1, 105] [] _ _ _ _ (k_say ⟨2, op, d, a, b, addr, to_, word, from_⟩ (atB from_) [opword op, regB d, regB a, regB b] (by simp)) rfl rfl rfl rfl (by repeat' (first | exact trivial | exact Or.inl (ti_succ (by assumption) (by assumption)) | exact Or.inl rfl | exact rfl | exact Nat.le_refl _ | apply And.intro)) (by repeat' (first | exact trivial | exact Or.inl (ti_succ (by assumption) (by assumption)) | exact Or.inl rfl | exact rfl | exact Nat.le_refl _ | apply And.intro)) rfl rfl fun _ => ?_
    conv => whnf
    refine acall.gen [] [117] _ _ _ _ (k_join [opword op, regB d, regB a, regB b, atB from_] (Nat.le_trans (joinL_le (fun x hx => ?_) (by simp)) (by omega))) rfl rfl rfl rfl ⟨⟨rfl, Nat.le_refl _, rfl⟩, .inl rfl, trivial⟩ trivial rfl rfl fun _ => ?_
    · simp only [List.mem_cons, List.not_mem_nil, or_false] at hx
      rcases hx with rfl | rfl | rfl | rfl | rfl
      all_goals first | decide | exact op_len40 _ | exact reg_len hi.d | exact reg_len hi.a | exact reg_len hi.b | exact prn_len40 hi.addr | exact prn_len40 hi.to_ | exact prn_len40 hi.word | exact at_len hi.from_
    conv => whnf
    exact ⟨.inl (congrArg (fun l => ts (joinB l)) (by rw [hfr]; rfl)), trivial⟩
  · conv => whnf
    refine acall.gen [] [105] _ _ _ _ (k_join [opword op, regB d, regB a, regB b] (Nat.le_trans (joinL_le (fun x hx => ?_) (by simp)) (by omega))) rfl rfl rfl rfl ⟨⟨rfl, Nat.le_refl _, rfl⟩, .inl rfl, trivial⟩ trivial rfl rfl fun _ => ?_
    · simp only [List.mem_cons, List.not_mem_nil, or_false] at hx
      rcases hx with rfl | rfl | rfl | rfl
      all_goals first | decide | exact op_len40 _ | exact reg_len hi.d | exact reg_len hi.a | exact reg_len hi.b | exact prn_len40 hi.addr | exact prn_len40 hi.to_ | exact prn_len40 hi.word | exact at_len hi.from_
    conv => whnf
    exact ⟨.inl (congrArg (fun l => ts (joinB l)) (by rw [hfr]; rfl)), trivial⟩
set_option maxRecDepth 100000 in
set_option maxHeartbeats 2000000 in
theorem k_text2f {op d a b addr to_ word from_ : Int} (h2 : two op = false) (hi : IOk ⟨2, op, d, a, b, addr, to_, word, from_⟩) : K 34 [Ins.av ⟨2, op, d, a, b, addr, to_, word, from_⟩] [] (.ret (.tr (ts (textB ⟨2, op, d, a, b, addr, to_, word, from_⟩)))) [] := by
  refine Ctr.cut [2] hT hmix Tryz.func34 rfl (fun _ _ => by kernel_rfl) rfl fun hok => ?_
  clear hok
  have hu := k_used ⟨2, op, d, a, b, addr, to_, word, from_⟩
  obtain ⟨W, hW⟩ : ∃ W, W = kword 2 := ⟨_, rfl⟩
  have hf : K 63 [.tr (tu 2)] [] (.ret (.tup [.agg [.tr (ts W), .tr (tu 1), .tr (tu 2), .tr (tu 4), .tr (tu 8)], .tr (tb (kok 2))])) [] := by rw [hW]; exact k_forms 2
  have e : usedM 2 op = 7 := by unfold usedM; rw [h2]; rfl
  simp only [e] at hu
  clear e
  have eW : wordsOf ⟨2, op, d, a, b, addr, to_, word, from_⟩ = [opword op, regB d, regB a] ++ (bif from_ != 0 then [atB from_] else []) := by unfold wordsOf fieldsW; simp only [h2]; kernel_rfl
  have eT : textB ⟨2, op, d, a, b, addr, to_, word, from_⟩ = joinB (wordsOf ⟨2, op, d, a, b, addr, to_, word, from_⟩) := rfl
  rw [eW] at eT
  clear eW
  rw [eT]
  clear eT
  conv => whnf
  refine CutL.by (fun _ : Unit => ⟨[(1, .ptr 0 0), (3, .ptr 1 0)], [(0, .cells 25 [.tr (tu 2), .tr (tu op), .tr (ti d), .tr (ti a), .tr (ti b), .tr (ti addr), .tr (ti to_), .tr (ti word), .tr (ti from_)]), (1, wrB ⟨2, op, d, a, b, addr, to_, word, from_⟩ 2 []), (2, wdB [])], 10⟩) (fun _ => True) ?_ ?_
  · conv => whnf
    exact ⟨(), [0, 4], [2], Sub.mk' rfl (by repeat' (first | exact trivial | exact Or.inl (ti_succ (by assumption) (by assumption)) | exact Or.inl rfl | exact rfl | exact Nat.le_refl _ | apply And.intro)) (by repeat' (first | exact trivial | exact Or.inl rfl | exact rfl | exact ⟨_, _, _, rfl, Nat.zero_lt_one⟩ | apply And.intro)) rfl rfl, trivial⟩
  rintro _ - -
  conv => whnf
  refine acall.pure _ (hf) rfl rfl fun _ => ?_
  conv => whnf
  refine csplit (fun hs => by rw [hW] at hs; exact Bool.noConfusion (hs.symm.trans (show _ = false by kernel_rfl))) (fun _ => ?_)
  conv => whnf
  refine acall.pure _ (hu) rfl rfl fun _ => ?_
  conv => whnf
  refine LoopL.un 5 ?_
  conv => whnf
  refine ⟨by decide, by decide, rfl, by decide, fun a ha => ?_⟩
  cases ha
  conv => whnf
  refine acall.new [1, 2] [] _ _ _ _ (k_w_op ⟨2, op, d, a, b, addr, to_, word, from_⟩ [] (by simp)) rfl rfl rfl rfl (by repeat' (first | exact trivial | exact Or.inl (ti_succ (by assumption) (by assumption)) | exact Or.inl rfl | exact rfl | exact Nat.le_refl _ | apply And.intro)) (by repeat' (first | exact trivial | exact Or.inl (ti_succ (by assumption) (by assumption)) | exact Or.inl rfl | exact rfl | exact Nat.le_refl _ | apply And.intro)) rfl rfl fun _ => ?_
  conv => whnf
  refine ⟨by decide, by decide, rfl, by decide, fun a ha => ?_⟩
  cases ha
  conv => whnf
  refine acall.new [1, 45] [] _ _ _ _ (k_w_d ⟨2, op, d, a, b, addr, to_, word, from_⟩ [opword op] (by simp)) rfl rfl rfl rfl (by repeat' (first | exact trivial | exact Or.inl (ti_succ (by assumption) (by assumption)) | exact Or.inl rfl | exact rfl | exact Nat.le_refl _ | apply And.intro)) (by repeat' (first | exact trivial | exact Or.inl (ti_succ (by assumption) (by assumption)) | exact Or.inl rfl | exact rfl | exact Nat.le_refl _ | apply And.intro)) rfl rfl fun _ => ?_
  conv => whnf
  refine ⟨by decide, by decide, rfl, by decide, fun a ha => ?_⟩
  cases ha
  conv => whnf
  refine acall.new [1, 63] [] _ _ _ _ (k_w_a ⟨2, op, d, a, b, addr, to_, word, from_⟩ [opword op, regB d] (by simp)) rfl rfl rfl rfl (by repeat' (first | exact trivial | exact Or.inl (ti_succ (by assumption) (by assumption)) | exact Or.inl rfl | exact rfl | exact Nat.le_refl _ | apply And.intro)) (by repeat' (first | exact trivial | exact Or.inl (ti_succ (by assumption) (by assumption)) | exact Or.inl rfl | exact rfl | exact Nat.le_refl _ | apply And.intro)) rfl rfl fun _ => ?_
  conv => whnf
  refine ⟨by decide, by decide, rfl, by decide, fun a ha => ?_⟩
  cases ha
  conv => whnf
  refine ⟨fun h => absurd h (by decide), fun _ => ?_⟩
  conv => whnf
  refine ⟨fun _ => ?_, fun h => absurd rfl h⟩
  conv => whnf
  refine ⟨fun _ => ?_, fun h => absurd rfl h⟩
  conv => whnf
  refine csplit (fun hfr => ?_) (fun hfr => ?_)
  · have hpl := prn_len hi.from_.1 hi.from_.2
    conv => whnf
    refine acall.pure _ (k_itoa from_) rfl rfl fun _ => ?_
    conv => whnf
    refine ⟨by show (⟨#[64]⟩ : ByteArray).size + (prnB from_).size ≤ _; have : (⟨#[64]⟩ : ByteArray).size = 1 := rfl; have : (prnB from_).size ≤ 21 := hpl; omega, ?_⟩
    conv => whnf
    refine acall.new [1, 83] [] _ _ _ _ (k_say ⟨2, op, d, a, b, addr, to_, word, from_⟩ (atB from_) [opword op, regB d, regB a] (by simp)) rfl rfl rfl rfl (by repeat' (first | exact trivial | exact Or.inl (ti_succ (by assumption) (by assumption)) | exact Or.inl rfl | exact rfl | exact Nat.le_refl _ | apply And.intro)) (by repeat' (first | exact trivial | exact Or.inl (ti_succ (by assumption) (by assumption)) | exact Or.inl rfl | exact rfl | exact Nat.le_refl _ | apply And.intro)) rfl rfl fun _ => ?_
    conv => whnf
    refine acall.gen [] [118] _ _ _ _ (k_join [opword op, regB d, regB a, atB from_] (Nat.le_trans (joinL_le (fun x hx => ?_) (by simp)) (by omega))) rfl rfl rfl rfl ⟨⟨rfl, Nat.le_refl _, rfl⟩, .inl rfl, trivial⟩ trivial rfl rfl fun _ => ?_
    · simp only [List.mem_cons, List.not_mem_nil, or_false] at hx
      rcases hx with rfl | rfl | rfl | rfl
      all_goals first | decide | exact op_len40 _ | exact reg_len hi.d | exact reg_len hi.a | exact reg_len hi.b | exact prn_len40 hi.addr | exact prn_len40 hi.to_ | exact prn_len40 hi.word | exact at_len hi.from_
    conv => whnf
    exact ⟨.inl (congrArg (fun l => ts (joinB l)) (by rw [hfr]; rfl)), trivial⟩
  · conv => whnf
    refine acall.gen [] [83] _ _ _ _ (k_join [opword op, regB d, regB a] (Nat.le_trans (joinL_le (fun x hx => ?_) (by simp)) (by omega))) rfl rfl rfl rfl ⟨⟨rfl, Nat.le_refl _, rfl⟩, .inl rfl, trivial⟩ trivial rfl rfl fun _ => ?_
    · simp only [List.mem_cons, List.not_mem_nil, or_false] at hx
      rcases hx with rfl | rfl | rfl
      all_goals first | decide | exact op_len40 _ | exact reg_len hi.d | exact reg_len hi.a | exact reg_len hi.b | exact prn_len40 hi.addr | exact prn_len40 hi.to_ | exact prn_len40 hi.word | exact at_len hi.from_
    conv => whnf
    exact ⟨.inl (congrArg (fun l => ts (joinB l)) (by rw [hfr]; rfl)), trivial⟩
theorem k_text (i : Ins) : K 34 [i.av] [] (.ret (.tr (ts (textB i)))) [] := by
  refine Ctr.okd (fun _ _ => by kernel_rfl) fun hok => ?_
  have hi := iok_of (i := i) fun t ht => ((hok _ (.head _)).agg (.tr t) (List.mem_map.2 ⟨t, ht, rfl⟩)).tr
  obtain ⟨kind, op, d, a, b, addr, to_, word, from_⟩ := i
  rcases kcases hi.kind.1 with h | h | h | h | h | h | h | h | h | h | h | h
  case inr.inr.inl =>
    have h : kind = 2 := h
    subst h
    cases h2 : two op with
    | true => exact k_text2t h2 hi
    | false => exact k_text2f h2 hi
  case inr.inr.inr.inr.inr.inr.inr.inr.inr.inr.inr => exact k_text11 h hi
  all_goals
    have h := h
    simp only at h
    subst h
  exact k_text0 hi
  exact k_text1 hi
  exact k_text3 hi
  exact k_text4 hi
  exact k_text5 hi
  exact k_text6 hi
  exact k_text7 hi
  exact k_text8 hi
  exact k_text9 hi
  exact k_text10 hi
end Go.Proofs.YtffhoknkfohfgaaGreatDoor.am
