/- Contract of target.Parse. Contract of target: an instruction's text. Contract of target.Print. The fixed run that each law begins with: its numbers. Contract of begins. Contract of the reference's Copy. -/
import Derived.Test.YtffhoknkfohfgaaDoorT9
import Derived.Test.YtffhoknkfohfgaaDoorT6
import Derived.Test.YtffhoknkfohfgaaDoorT7
set_option linter.all false

namespace Go.Proofs.YtffhoknkfohfgaaDoor.am
open Go Go.Proofs
def emptyO : Ob := ⟨[], 0, 0, 0, []⟩
def lnl (s : ByteArray) (at_ : Nat) : Int := idxB (s.extract at_ s.size) 10
/-- the lines behind the second; or the place of one that is none -/
def parseG (s : ByteArray) : Nat → Nat → List Cor → List Cor × Option Nat
  | 0, _, cs => (cs, none)
  | f + 1, at_, cs => bif decide ((at_ : Int) < s.size) then (bif decide (lnl s at_ < 0) then ([], some at_) else match furtherS cs (s.extract at_ (at_ + (lnl s at_).toNat)) with
    | none => ([], some at_)
    | some cs' => parseG s f (at_ + (lnl s at_).toNat + 1) cs') else (cs, none)
def doneP (o : Ob) : Ob × Int × Int := bif (checkO o).1 != 0 then (emptyO, (checkO o).1, 0) else (o, 0, 0)
def parseR (mem : List Int) (a b c : Int) (q : List Cor × Option Nat) : Ob × Int × Int := match q.2 with
  | some at_ => (emptyO, 161, at_)
  | none => doneP ⟨mem, a, b, c, q.1⟩
def parseM (s : ByteArray) (a b c : Int) (at_ : Nat) : Ob × Int × Int := bif decide (lnl s at_ < 0) then (emptyO, 161, at_) else match memL (splitBl (s.extract at_ (at_ + (lnl s at_).toNat))) with
  | none => (emptyO, 161, at_)
  | some mem => parseR mem a b c (parseG s (s.size - (at_ + (lnl s at_).toNat + 1)) (at_ + (lnl s at_).toNat + 1) [])
def parseH (s : ByteArray) : Ob × Int × Int := bif decide (lnl s 0 < 0) then (emptyO, 161, 0) else match headL (splitBl (s.extract 0 (0 + (lnl s 0).toNat))) with
  | none => (emptyO, 161, 0)
  | some (a, b, c) => parseM s a b c (0 + (lnl s 0).toNat + 1)
def parseS (s : ByteArray) : Ob × Int × Int := bif decide ((s.size : Int) > 16777216) then (emptyO, 4, 0) else parseH s
theorem parseS4 {s : ByteArray} (h : decide ((s.size : Int) > 16777216) = true) : parseS s = (emptyO, 4, 0) := by unfold parseS; rw [h]; rfl
inductive PSt where
  | h
  | m (a b c : Int) (at_ : Nat)
  | r (k at_ : Nat) (mem : List Int) (a b c : Int) (cs : List Cor)
def pJ (s : ByteArray) : PSt → LJ
  | .h => ⟨[(0, .tr (ts s)), (2, .ptr 0 0), (5, .ptr 1 0), (6, .tr (ti 0)), (7, .tr (ti 0))], [(0, obB nilT 0 0 0 nilT), (1, obB nilT 0 0 0 nilT)], 10⟩
  | .m a b c at_ => ⟨[(0, .tr (ts s)), (2, .ptr 0 0), (5, .ptr 1 0), (6, .tr (ti at_)), (7, .tr (ti 1))], [(0, obB nilT 0 0 0 nilT), (1, obB nilT a b c nilT)], 10⟩
  | .r k at_ mem a b c cs => ⟨[(0, .tr (ts s)), (2, .ptr 0 0), (5, .ptr 1 0), (6, .tr (ti at_)), (7, .tr (ti k))], [(0, obB nilT 0 0 0 nilT), (1, obB (.sl 2 mem.length) a b c (.sl 3 cs.length)), (2, memBk mem), (3, coresBk cs)], 10⟩
def pI (s : ByteArray) (R : Ob × Int × Int) : PSt → Prop
  | .h => R = parseH s
  | .m a b c at_ => at_ ≤ s.size ∧ R = parseM s a b c at_
  | .r k at_ mem a b c cs => 2 ≤ k ∧ k ≤ at_ + 2 ∧ at_ ≤ s.size ∧ cs.length ≤ at_ ∧ (∀ c ∈ cs, c.code.length ≤ at_) ∧ R = parseR mem a b c (parseG s (s.size - at_) at_ cs)
def pMu (s : ByteArray) : PSt → Nat
  | .h => s.size + 2
  | .m _ _ _ _ => s.size + 1
  | .r _ at_ _ _ _ _ _ => s.size - at_
theorem ext_size (s : ByteArray) (at_ : Nat) : (s.extract at_ s.size).size = s.size - at_ := by rw [ByteArray.size_extract]; omega
theorem idx_ne : ∀ (l : List UInt8) (c : UInt8), Lib.indexByte l c ≠ (l.length : Int)
  | [], c => by simp [Lib.indexByte]
  | b :: l, c => by
    have h := idx_ne l c
    have h2 := indexByte_le l c
    unfold Lib.indexByte
    simp only [List.length_cons]
    split
    · omega
    · split <;> omega
theorem lnl_lt (s : ByteArray) {at_ : Nat} (h : at_ ≤ s.size) (h0 : decide (lnl s at_ < 0) = false) : lnl s at_ = ((lnl s at_).toNat : Int) ∧ at_ + (lnl s at_).toNat < s.size := by
  have h1 : ¬ lnl s at_ < 0 := of_decide_eq_false h0
  have h2 := (indexByte_le (s.extract at_ s.size).data.toList (10 : Int).toNat.toUInt8).1
  have e : (s.extract at_ s.size).data.toList.length = (s.extract at_ s.size).size := by simp
  rw [ext_size] at e
  have h3 : lnl s at_ ≤ (s.size - at_ : Nat) := by rw [← e]; exact h2
  refine ⟨by omega, ?_⟩
  have h4 : lnl s at_ ≠ ((s.size - at_ : Nat) : Int) := by
    intro hc
    exact idx_ne (s.extract at_ s.size).data.toList (10 : Int).toNat.toUInt8 (by rw [e]; exact hc)
  omega
theorem addI_len (cs : List Cor) (i : Ins) : (addI cs i).length = cs.length := by
  unfold addI
  split
  · rw [List.length_set]
  · rfl
theorem addI_code {cs : List Cor} {i : Ins} {n : Nat} (h : ∀ c ∈ cs, c.code.length ≤ n) : ∀ c ∈ addI cs i, c.code.length ≤ n + 1 := by
  unfold addI
  split
  · rename_i d hd
    intro c hc
    rcases List.mem_or_eq_of_mem_set hc with hc | rfl
    · exact Nat.le_succ_of_le (h c hc)
    · have := h d (List.mem_of_getElem? hd)
      simp only [List.length_append, List.length_cons, List.length_nil]; omega
  · exact fun c hc => Nat.le_succ_of_le (h c hc)
theorem parseG_at {s : ByteArray} {at_ : Nat} {cs : List Cor} (h : at_ < s.size) : parseG s (s.size - at_) at_ cs = bif decide (lnl s at_ < 0) then ([], some at_) else match furtherS cs (s.extract at_ (at_ + (lnl s at_).toNat)) with
    | none => ([], some at_)
    | some cs' => parseG s (s.size - at_ - 1) (at_ + (lnl s at_).toNat + 1) cs' := by
  obtain ⟨f, hf⟩ : ∃ f, s.size - at_ = f + 1 := ⟨s.size - at_ - 1, by omega⟩
  rw [hf]
  show (bif decide ((at_ : Int) < s.size) then _ else _) = _
  rw [show decide ((at_ : Int) < s.size) = true from decide_eq_true (by omega)]
  rfl
theorem parseG_end {s : ByteArray} {at_ : Nat} {cs : List Cor} (h : s.size ≤ at_) (f : Nat) : parseG s f at_ cs = (cs, none) := by
  cases f with
  | zero => rfl
  | succ f =>
    show (bif decide ((at_ : Int) < s.size) then _ else _) = _
    rw [show decide ((at_ : Int) < s.size) = false from decide_eq_false (by omega)]
    rfl
/-- more fuel than there are bytes is as good -/
theorem parseG_fuel (s : ByteArray) : ∀ (f f' at_ : Nat) (cs : List Cor), s.size - at_ ≤ f → s.size - at_ ≤ f' → parseG s f at_ cs = parseG s f' at_ cs
  | 0, f', at_, cs, h, _ => by rw [parseG_end (by omega), parseG_end (by omega)]
  | f + 1, 0, at_, cs, _, h => by rw [parseG_end (by omega), parseG_end (by omega)]
  | f + 1, f' + 1, at_, cs, h, h' => by
    show (bif decide ((at_ : Int) < s.size) then (bif decide (lnl s at_ < 0) then _ else _) else _) = (bif decide ((at_ : Int) < s.size) then (bif decide (lnl s at_ < 0) then _ else _) else _)
    cases hb : decide ((at_ : Int) < s.size)
    · rfl
    · cases decide (lnl s at_ < 0)
      · show (match furtherS cs (s.extract at_ (at_ + (lnl s at_).toNat)) with | none => ([], some at_) | some cs' => parseG s f (at_ + (lnl s at_).toNat + 1) cs') = (match furtherS cs (s.extract at_ (at_ + (lnl s at_).toNat)) with | none => ([], some at_) | some cs' => parseG s f' (at_ + (lnl s at_).toNat + 1) cs')
        cases furtherS cs (s.extract at_ (at_ + (lnl s at_).toNat)) with
        | none => rfl
        | some cs' => exact parseG_fuel s f f' _ cs' (by omega) (by omega)
      · rfl
set_option maxRecDepth 100000 in
set_option maxHeartbeats 2000000 in
theorem k_parseErr (s : ByteArray) {R : Ob × Int × Int} (hR : R = parseS s) (h0 : R.2.1 ≠ 0) : K 9 [.tr (ts s)] [] (.ret (.tup [.agg [nilT, .tr (ti 0), .tr (ti 0), .tr (ti 0), nilT], .tr (ti R.2.1), .tr (ti R.2.2)])) [] := by
  refine Ctr.new [] hT hmix Tryd.func9 rfl (fun _ _ => by kernel_rfl) rfl fun hok => ?_
  have hsz := (hok.slot 0 rfl).tr.str
  clear hok
  conv => whnf
  refine csplit (fun hbig => ?_) (fun hsm => ?_)
  · replace hR := hR.trans (parseS4 hbig)
    conv => whnf
    rw [hR]
    exact ⟨[], rfl, rfl, aut⟩
  have hsm : s.size ≤ 16777216 := by have := of_decide_eq_false hsm; omega
  have hH : R = parseH s := by rw [hR]; unfold parseS; rw [show decide ((s.size : Int) > 16777216) = false from decide_eq_false (by omega)]; rfl
  clear hR
  conv => whnf
  refine LoopL.by (pJ s) (pI s R) (pMu s) .h [0, 7] [] (Sub.mk' rfl ⟨.inl rfl, ⟨rfl, rfl⟩, ⟨rfl, rfl⟩, .inl rfl, .inl rfl, trivial⟩ aut rfl rfl) hH ?_
  clear hH
  rintro x hI -
  cases x with
  | h =>
    replace hI : R = parseH s := hI
    have hi := k_indexByte (s.extract 0 s.size) 10
    have hd := lnl_lt s (Nat.zero_le _)
    unfold parseH at hI
    have hln : idxB (s.extract 0 s.size) 10 = lnl s 0 := rfl
    rw [hln] at hi
    generalize lnl s 0 = n at hi hd hI
    conv => whnf
    refine ⟨by decide, (show (0 : Int) ≤ s.size by omega), Int.le_refl _, ?_⟩
    conv => whnf
    refine acall.pure _ (hi) rfl rfl fun _ => ?_
    conv => whnf
    refine csplit (fun hn => ?_) (fun hn => ?_)
    · replace hn : decide (n < 0) = true := hn
      rw [hn] at hI
      replace hI : R = (emptyO, 161, 0) := hI
      conv => whnf
      (rw [hI]; exact ⟨[], rfl, rfl, aut⟩)
    replace hn : decide (n < 0) = false := hn
    rw [hn] at hI
    obtain ⟨hd1, hd2⟩ := hd hn
    generalize n.toNat = N at hd1 hd2 hI
    subst hd1
    have hk := k_head (s.extract 0 (0 + N)) (by rw [ByteArray.size_extract]; omega)
    have hw : IntKind.i64.wrap (0 + (N : Int)) = ((0 + N : Nat) : Int) := by rw [w64 (by omega) (by omega)]; omega
    have hw2 : IntKind.i64.wrap (0 + IntKind.i64.wrap ((N : Int) + 1)) = ((0 + N + 1 : Nat) : Int) := by rw [w64 (n := (N : Int) + 1) (by omega) (by omega), w64 (by omega) (by omega)]; omega
    have hx : s.extract 0 (IntKind.i64.wrap (0 + (N : Int))).toNat = s.extract 0 (0 + N) := by rw [hw]; rfl
    refine ⟨by decide, (show (0 : Int) ≤ IntKind.i64.wrap (0 + (N : Int)) by rw [hw]; omega), (show IntKind.i64.wrap (0 + (N : Int)) ≤ s.size by rw [hw]; omega), ?_⟩
    conv => whnf
    have hI : R = match headL (splitBl (s.extract 0 (0 + N))) with
      | none => (emptyO, 161, 0)
      | some (a, b, c) => parseM s a b c (0 + N + 1) := hI
    generalize headL (splitBl (s.extract 0 (0 + N))) = L at hk hI
    cases L with
    | none =>
      replace hI : R = (emptyO, 161, 0) := hI
      refine acall.new [1] [] _ _ _ _ hk rfl rfl rfl rfl ⟨⟨rfl, rfl⟩, .inl (congrArg ts hx), trivial⟩ aut rfl rfl fun _ => ?_
      conv => whnf
      (rw [hI]; exact ⟨[], rfl, rfl, aut⟩)
    | some v =>
      obtain ⟨a, b, c⟩ := v
      replace hI : R = parseM s a b c (0 + N + 1) := hI
      refine acall.new [1] [] _ _ _ _ hk rfl rfl rfl rfl ⟨⟨rfl, rfl⟩, .inl (congrArg ts hx), trivial⟩ aut rfl rfl fun _ => ?_
      conv => whnf
      exact ⟨.m a b c (0 + N + 1), [0, 1], [], Sub.mk' rfl ⟨.inl rfl, ⟨rfl, rfl⟩, ⟨rfl, rfl⟩, .inl (congrArg ti hw2), .inl rfl, trivial⟩ aut rfl rfl, ⟨by omega, hI⟩, by show s.size + 1 < s.size + 2; omega⟩
  | m a b c at_ =>
    obtain ⟨hat, hI⟩ := hI
    have hi := k_indexByte (s.extract at_ s.size) 10
    have hd := lnl_lt s hat
    unfold parseM at hI
    have hln : idxB (s.extract at_ s.size) 10 = lnl s at_ := rfl
    rw [hln] at hi
    generalize lnl s at_ = n at hi hd hI
    conv => whnf
    refine ⟨(show (0 : Int) ≤ at_ by omega), (show (at_ : Int) ≤ s.size by omega), Int.le_refl _, ?_⟩
    conv => whnf
    refine acall.pure _ (hi) rfl rfl fun _ => ?_
    conv => whnf
    refine csplit (fun hn => ?_) (fun hn => ?_)
    · replace hn : decide (n < 0) = true := hn
      rw [hn] at hI
      replace hI : R = (emptyO, 161, (at_ : Int)) := hI
      conv => whnf
      (rw [hI]; exact ⟨[], rfl, rfl, aut⟩)
    replace hn : decide (n < 0) = false := hn
    rw [hn] at hI
    obtain ⟨hd1, hd2⟩ := hd hn
    generalize n.toNat = N at hd1 hd2 hI
    subst hd1
    have hk := k_memory (s.extract at_ (at_ + N)) (by rw [ByteArray.size_extract]; omega) a b c
    have hw : IntKind.i64.wrap ((at_ : Int) + (N : Int)) = ((at_ + N : Nat) : Int) := by rw [w64 (by omega) (by omega)]; omega
    have hw2 : IntKind.i64.wrap ((at_ : Int) + IntKind.i64.wrap ((N : Int) + 1)) = ((at_ + N + 1 : Nat) : Int) := by rw [w64 (n := (N : Int) + 1) (by omega) (by omega), w64 (by omega) (by omega)]; omega
    have hx : s.extract at_ (IntKind.i64.wrap ((at_ : Int) + (N : Int))).toNat = s.extract at_ (at_ + N) := by rw [hw]; rfl
    refine ⟨(show (0 : Int) ≤ at_ by omega), (show (at_ : Int) ≤ IntKind.i64.wrap ((at_ : Int) + (N : Int)) by rw [hw]; omega), (show IntKind.i64.wrap ((at_ : Int) + (N : Int)) ≤ s.size by rw [hw]; omega), ?_⟩
    conv => whnf
    have hI : R = match memL (splitBl (s.extract at_ (at_ + N))) with
      | none => (emptyO, 161, (at_ : Int))
      | some mem => parseR mem a b c (parseG s (s.size - (at_ + N + 1)) (at_ + N + 1) []) := hI
    generalize memL (splitBl (s.extract at_ (at_ + N))) = L at hk hI
    cases L with
    | none =>
      replace hI : R = (emptyO, 161, (at_ : Int)) := hI
      refine acall.new [1] [] _ _ _ _ hk rfl rfl rfl rfl ⟨⟨rfl, rfl⟩, .inl (congrArg ts hx), trivial⟩ aut rfl rfl fun _ => ?_
      conv => whnf
      (rw [hI]; exact ⟨[], rfl, rfl, aut⟩)
    | some mem =>
      replace hI : R = parseR mem a b c (parseG s (s.size - (at_ + N + 1)) (at_ + N + 1) []) := hI
      refine acall.new [1] [] _ _ _ _ hk rfl rfl rfl rfl ⟨⟨rfl, rfl⟩, .inl (congrArg ts hx), trivial⟩ aut rfl rfl fun _ => ?_
      conv => whnf
      exact ⟨.r 2 (at_ + N + 1) mem a b c [], [0, 1, 40], [3], Sub.mk' rfl ⟨.inl rfl, ⟨rfl, rfl⟩, ⟨rfl, rfl⟩, .inl (congrArg ti hw2), .inl rfl, trivial⟩
        ⟨⟨rfl, .inl rfl, .inl rfl, .inl rfl, .inl rfl, .inl rfl, trivial⟩, ⟨rfl, ⟨rfl, rfl⟩, .inl rfl, .inl rfl, .inl rfl, ⟨rfl, rfl, rfl, rfl⟩, trivial⟩, ⟨rfl, rfl, rfl, rfl⟩, ⟨rfl, rfl, rfl, by omega⟩, trivial⟩ rfl rfl,
        ⟨by omega, by omega, by omega, Nat.zero_le _, (fun c hc => absurd hc (by simp)), hI⟩, by show s.size - (at_ + N + 1) < s.size + 1; omega⟩
  | r k at_ mem a b c cs =>
    obtain ⟨hk2, hka, hat, hcl, hcd, hI⟩ := hI
    conv => whnf
    refine csplit (fun h2 => ?_) (fun h2 => ?_)
    · exfalso
      have := of_decide_eq_true h2
      omega
    conv => whnf
    refine csplit (fun h3 => ?_) (fun h3 => ?_)
    · have hlt : at_ < s.size := by have := of_decide_eq_true h3; omega
      have hi := k_indexByte (s.extract at_ s.size) 10
      have hd := lnl_lt s hat
      rw [parseG_at hlt] at hI
      have hln : idxB (s.extract at_ s.size) 10 = lnl s at_ := rfl
      rw [hln] at hi
      generalize lnl s at_ = n at hi hd hI
      conv => whnf
      refine ⟨(show (0 : Int) ≤ at_ by omega), (show (at_ : Int) ≤ s.size by omega), Int.le_refl _, ?_⟩
      conv => whnf
      refine acall.pure _ (hi) rfl rfl fun _ => ?_
      conv => whnf
      refine csplit (fun h4 => ?_) (fun h4 => ?_)
      · exfalso
        have : (k : Int) = 0 := by simpa using h4
        omega
      conv => whnf
      refine csplit (fun h5 => ?_) (fun h5 => ?_)
      · exfalso
        have : (k : Int) = 1 := by simpa using h5
        omega
      conv => whnf
      refine csplit (fun hn => ?_) (fun hn => ?_)
      · replace hn : decide (n < 0) = true := hn
        rw [hn] at hI
        replace hI : R = (emptyO, 161, (at_ : Int)) := hI
        conv => whnf
        (rw [hI]; exact ⟨[], rfl, rfl, aut⟩)
      replace hn : decide (n < 0) = false := hn
      rw [hn] at hI
      obtain ⟨hd1, hd2⟩ := hd hn
      generalize n.toNat = N at hd1 hd2 hI
      subst hd1
      have hls : (s.extract at_ (at_ + N)).size < 4294967281 := by rw [ByteArray.size_extract]; omega
      have hw : IntKind.i64.wrap ((at_ : Int) + (N : Int)) = ((at_ + N : Nat) : Int) := by rw [w64 (by omega) (by omega)]; omega
      have hw2 : IntKind.i64.wrap ((at_ : Int) + IntKind.i64.wrap ((N : Int) + 1)) = ((at_ + N + 1 : Nat) : Int) := by rw [w64 (n := (N : Int) + 1) (by omega) (by omega), w64 (by omega) (by omega)]; omega
      have hk3 : IntKind.i64.wrap ((k : Int) + 1) = ((k + 1 : Nat) : Int) := by rw [w64 (by omega) (by omega)]; omega
      have hx : s.extract at_ (IntKind.i64.wrap ((at_ : Int) + (N : Int))).toNat = s.extract at_ (at_ + N) := by rw [hw]; rfl
      refine ⟨(show (0 : Int) ≤ at_ by omega), (show (at_ : Int) ≤ IntKind.i64.wrap ((at_ : Int) + (N : Int)) by rw [hw]; omega), (show IntKind.i64.wrap ((at_ : Int) + (N : Int)) ≤ s.size by rw [hw]; omega), ?_⟩
      conv => whnf
      have hfu : ∀ cs', parseG s (s.size - at_ - 1) (at_ + N + 1) cs' = parseG s (s.size - (at_ + N + 1)) (at_ + N + 1) cs' := fun cs' => parseG_fuel s _ _ _ _ (by omega) (by omega)
      have hI : R = parseR mem a b c (match furtherS cs (s.extract at_ (at_ + N)) with
        | none => ([], some at_)
        | some cs' => parseG s (s.size - at_ - 1) (at_ + N + 1) cs') := hI
      cases hC : isCore (splitBl (s.extract at_ (at_ + N))) with
      | some nm =>
        have hF : furtherS cs (s.extract at_ (at_ + N)) = some (cs ++ [newC nm]) := by unfold furtherS; rw [hC]
        rw [hF] at hI
        replace hI : R = parseR mem a b c (parseG s (s.size - at_ - 1) (at_ + N + 1) (cs ++ [newC nm])) := hI
        rw [hfu] at hI
        refine acall.new [1, 2, 3] [] _ _ _ _ (k_furtherC (s.extract at_ (at_ + N)) hls mem a b c cs (by omega) nm hC) rfl rfl rfl rfl ⟨⟨rfl, rfl⟩, .inl (congrArg ts hx), trivial⟩ ⟨⟨rfl, ⟨rfl, rfl⟩, .inl rfl, .inl rfl, .inl rfl, ⟨rfl, rfl⟩, trivial⟩, ⟨rfl, rfl, rfl, rfl⟩, ⟨rfl, rfl, rfl, rfl, .inl rfl⟩, trivial⟩ rfl rfl fun _ => ?_
        conv => whnf
        refine ⟨.r (k + 1) (at_ + N + 1) mem a b c (cs ++ [newC nm]), [0, 1, 2, 39], [], Sub.mk' rfl ⟨.inl rfl, ⟨rfl, rfl⟩, ⟨rfl, rfl⟩, .inl (congrArg ti hw2), .inl (congrArg ti hk3), trivial⟩ ⟨⟨rfl, .inl rfl, .inl rfl, .inl rfl, .inl rfl, .inl rfl, trivial⟩, ⟨rfl, ⟨rfl, rfl⟩, .inl rfl, .inl rfl, .inl rfl, ⟨rfl, rfl⟩, trivial⟩, ⟨rfl, rfl, rfl, rfl⟩, ⟨rfl, rfl, rfl, rfl, .inl rfl⟩, trivial⟩ rfl rfl, ⟨by omega, by omega, by omega, ?_, ?_, hI⟩, by show s.size - (at_ + N + 1) < s.size - at_; omega⟩
        · simp only [List.length_append, List.length_cons, List.length_nil]; omega
        · intro d hd
          rcases List.mem_append.1 hd with hd | hd
          · have := hcd d hd; omega
          · simp only [List.mem_singleton] at hd; subst hd; exact Nat.zero_le _
      | none =>
        by_cases hgo : (instrS (s.extract at_ (at_ + N))).2 = true ∧ cs.length ≠ 0
        · obtain ⟨g1, g2⟩ := hgo
          have hF : furtherS cs (s.extract at_ (at_ + N)) = some (addI cs (instrS (s.extract at_ (at_ + N))).1) := by
            unfold furtherS; rw [hC]
            show (bif !(instrS (s.extract at_ (at_ + N))).2 || (cs.length : Int) == 0 then none else some _) = _
            rw [g1, show ((cs.length : Int) == 0) = false from beq_eq_false_iff_ne.2 (by omega)]; rfl
          rw [hF] at hI
          replace hI : R = parseR mem a b c (parseG s (s.size - at_ - 1) (at_ + N + 1) (addI cs (instrS (s.extract at_ (at_ + N))).1)) := hI
          rw [hfu] at hI
          refine acall.new [1, 2, 3] [] _ _ _ _ (k_furtherI (s.extract at_ (at_ + N)) hls mem a b c cs (by omega) (fun d hd => Nat.le_trans (hcd d hd) (by omega)) hC g1 g2) rfl rfl rfl rfl ⟨⟨rfl, rfl⟩, .inl (congrArg ts hx), trivial⟩ ⟨⟨rfl, ⟨rfl, rfl⟩, .inl rfl, .inl rfl, .inl rfl, ⟨rfl, rfl⟩, trivial⟩, ⟨rfl, rfl, rfl, rfl⟩, ⟨rfl, rfl, rfl, rfl, .inl rfl⟩, trivial⟩ rfl rfl fun _ => ?_
          conv => whnf
          refine ⟨.r (k + 1) (at_ + N + 1) mem a b c (addI cs (instrS (s.extract at_ (at_ + N))).1), [0, 1, 2, 3], [], Sub.mk' rfl ⟨.inl rfl, ⟨rfl, rfl⟩, ⟨rfl, rfl⟩, .inl (congrArg ti hw2), .inl (congrArg ti hk3), trivial⟩ ⟨⟨rfl, .inl rfl, .inl rfl, .inl rfl, .inl rfl, .inl rfl, trivial⟩, ⟨rfl, ⟨rfl, rfl⟩, .inl rfl, .inl rfl, .inl rfl, ⟨rfl, rfl⟩, trivial⟩, ⟨rfl, rfl, rfl, rfl⟩, ⟨rfl, rfl, rfl, rfl, .inl rfl⟩, trivial⟩ rfl rfl, ⟨by omega, by omega, by omega, ?_, ?_, hI⟩, by show s.size - (at_ + N + 1) < s.size - at_; omega⟩
          · rw [addI_len]; omega
          · intro d hd
            have := addI_code hcd d hd
            omega
        · have hF : furtherS cs (s.extract at_ (at_ + N)) = none := by
            unfold furtherS; rw [hC]
            show (bif !(instrS (s.extract at_ (at_ + N))).2 || (cs.length : Int) == 0 then none else some _) = _
            cases hb : (instrS (s.extract at_ (at_ + N))).2
            · rfl
            · rw [show ((cs.length : Int) == 0) = true from by rw [Classical.not_not.1 (fun hne => hgo ⟨hb, hne⟩)]; rfl]; rfl
          rw [hF] at hI
          replace hI : R = (emptyO, 161, (at_ : Int)) := hI
          refine acall.new [1, 2, 3] [] _ _ _ _ (k_furtherN (s.extract at_ (at_ + N)) hls mem a b c cs hC (fun hb => Classical.not_not.1 fun hne => hgo ⟨hb, hne⟩)) rfl rfl rfl rfl ⟨⟨rfl, rfl⟩, .inl (congrArg ts hx), trivial⟩ ⟨⟨rfl, ⟨rfl, rfl⟩, .inl rfl, .inl rfl, .inl rfl, ⟨rfl, rfl⟩, trivial⟩, ⟨rfl, rfl, rfl, rfl⟩, ⟨rfl, rfl, rfl, rfl, .inl rfl⟩, trivial⟩ rfl rfl fun _ => ?_
          conv => whnf
          (rw [hI]; exact ⟨[], rfl, rfl, aut⟩)
    · have hge : s.size ≤ at_ := by have := of_decide_eq_false h3; omega
      rw [parseG_end hge] at hI
      replace hI : R = doneP ⟨mem, a, b, c, cs⟩ := hI
      conv => whnf
      refine ⟨fun _ => ?_, fun h => absurd rfl h⟩
      conv => whnf
      have hk := k_check ⟨mem, a, b, c, cs⟩
      unfold doneP at hI
      generalize checkO ⟨mem, a, b, c, cs⟩ = Q at hk hI
      refine acall.gen [] [2, 3] _ _ _ _ hk rfl rfl rfl rfl ⟨⟨⟨rfl, by simp, by rw [List.take_of_length_le (by simp)]⟩, .inl rfl, .inl rfl, .inl rfl, ⟨rfl, by simp, by rw [List.take_of_length_le (by simp)]⟩, trivial⟩, trivial⟩ trivial rfl rfl fun _ => ?_
      conv => whnf
      refine csplit (fun hq => ?_) (fun hq => ?_)
      · replace hq : (Q.1 != 0) = true := hq
        rw [hq] at hI
        replace hI : R = (emptyO, Q.1, 0) := hI
        conv => whnf
        rw [hI]
        exact ⟨[], rfl, rfl, aut⟩
      · replace hq : (Q.1 != 0) = false := hq
        rw [hq] at hI
        replace hI : R = (⟨mem, a, b, c, cs⟩, 0, 0) := hI
        exfalso
        rw [hI] at h0
        exact h0 rfl
set_option maxRecDepth 100000 in
set_option maxHeartbeats 2000000 in
theorem k_parseA (s : ByteArray) {R : Ob × Int × Int} (hR : R = parseS s) : K 9 [.tr (ts s)] [] (.ret (.tup [R.1.av, .tr (ti R.2.1), .tr (ti R.2.2)])) [] := by
  refine Ctr.new [] hT hmix Tryd.func9 rfl (fun _ _ => by kernel_rfl) rfl fun hok => ?_
  have hsz := (hok.slot 0 rfl).tr.str
  clear hok
  conv => whnf
  refine csplit (fun hbig => ?_) (fun hsm => ?_)
  · replace hR := hR.trans (parseS4 hbig)
    conv => whnf
    rw [hR]
    exact ⟨[], rfl, rfl, aut2⟩
  have hsm : s.size ≤ 16777216 := by have := of_decide_eq_false hsm; omega
  have hH : R = parseH s := by rw [hR]; unfold parseS; rw [show decide ((s.size : Int) > 16777216) = false from decide_eq_false (by omega)]; rfl
  clear hR
  conv => whnf
  refine LoopL.by (pJ s) (pI s R) (pMu s) .h [0, 7] [] (Sub.mk' rfl ⟨.inl rfl, ⟨rfl, rfl⟩, ⟨rfl, rfl⟩, .inl rfl, .inl rfl, trivial⟩ aut rfl rfl) hH ?_
  clear hH
  rintro x hI -
  cases x with
  | h =>
    replace hI : R = parseH s := hI
    have hi := k_indexByte (s.extract 0 s.size) 10
    have hd := lnl_lt s (Nat.zero_le _)
    unfold parseH at hI
    have hln : idxB (s.extract 0 s.size) 10 = lnl s 0 := rfl
    rw [hln] at hi
    generalize lnl s 0 = n at hi hd hI
    conv => whnf
    refine ⟨by decide, (show (0 : Int) ≤ s.size by omega), Int.le_refl _, ?_⟩
    conv => whnf
    refine acall.pure _ (hi) rfl rfl fun _ => ?_
    conv => whnf
    refine csplit (fun hn => ?_) (fun hn => ?_)
    · replace hn : decide (n < 0) = true := hn
      rw [hn] at hI
      replace hI : R = (emptyO, 161, 0) := hI
      conv => whnf
      (rw [hI]; exact ⟨[], rfl, rfl, aut2⟩)
    replace hn : decide (n < 0) = false := hn
    rw [hn] at hI
    obtain ⟨hd1, hd2⟩ := hd hn
    generalize n.toNat = N at hd1 hd2 hI
    subst hd1
    have hk := k_head (s.extract 0 (0 + N)) (by rw [ByteArray.size_extract]; omega)
    have hw : IntKind.i64.wrap (0 + (N : Int)) = ((0 + N : Nat) : Int) := by rw [w64 (by omega) (by omega)]; omega
    have hw2 : IntKind.i64.wrap (0 + IntKind.i64.wrap ((N : Int) + 1)) = ((0 + N + 1 : Nat) : Int) := by rw [w64 (n := (N : Int) + 1) (by omega) (by omega), w64 (by omega) (by omega)]; omega
    have hx : s.extract 0 (IntKind.i64.wrap (0 + (N : Int))).toNat = s.extract 0 (0 + N) := by rw [hw]; rfl
    refine ⟨by decide, (show (0 : Int) ≤ IntKind.i64.wrap (0 + (N : Int)) by rw [hw]; omega), (show IntKind.i64.wrap (0 + (N : Int)) ≤ s.size by rw [hw]; omega), ?_⟩
    conv => whnf
    have hI : R = match headL (splitBl (s.extract 0 (0 + N))) with
      | none => (emptyO, 161, 0)
      | some (a, b, c) => parseM s a b c (0 + N + 1) := hI
    generalize headL (splitBl (s.extract 0 (0 + N))) = L at hk hI
    cases L with
    | none =>
      replace hI : R = (emptyO, 161, 0) := hI
      refine acall.new [1] [] _ _ _ _ hk rfl rfl rfl rfl ⟨⟨rfl, rfl⟩, .inl (congrArg ts hx), trivial⟩ aut rfl rfl fun _ => ?_
      conv => whnf
      (rw [hI]; exact ⟨[], rfl, rfl, aut2⟩)
    | some v =>
      obtain ⟨a, b, c⟩ := v
      replace hI : R = parseM s a b c (0 + N + 1) := hI
      refine acall.new [1] [] _ _ _ _ hk rfl rfl rfl rfl ⟨⟨rfl, rfl⟩, .inl (congrArg ts hx), trivial⟩ aut rfl rfl fun _ => ?_
      conv => whnf
      exact ⟨.m a b c (0 + N + 1), [0, 1], [], Sub.mk' rfl ⟨.inl rfl, ⟨rfl, rfl⟩, ⟨rfl, rfl⟩, .inl (congrArg ti hw2), .inl rfl, trivial⟩ aut rfl rfl, ⟨by omega, hI⟩, by show s.size + 1 < s.size + 2; omega⟩
  | m a b c at_ =>
    obtain ⟨hat, hI⟩ := hI
    have hi := k_indexByte (s.extract at_ s.size) 10
    have hd := lnl_lt s hat
    unfold parseM at hI
    have hln : idxB (s.extract at_ s.size) 10 = lnl s at_ := rfl
    rw [hln] at hi
    generalize lnl s at_ = n at hi hd hI
    conv => whnf
    refine ⟨(show (0 : Int) ≤ at_ by omega), (show (at_ : Int) ≤ s.size by omega), Int.le_refl _, ?_⟩
    conv => whnf
    refine acall.pure _ (hi) rfl rfl fun _ => ?_
    conv => whnf
    refine csplit (fun hn => ?_) (fun hn => ?_)
    · replace hn : decide (n < 0) = true := hn
      rw [hn] at hI
      replace hI : R = (emptyO, 161, (at_ : Int)) := hI
      conv => whnf
      (rw [hI]; exact ⟨[], rfl, rfl, aut2⟩)
    replace hn : decide (n < 0) = false := hn
    rw [hn] at hI
    obtain ⟨hd1, hd2⟩ := hd hn
    generalize n.toNat = N at hd1 hd2 hI
    subst hd1
    have hk := k_memory (s.extract at_ (at_ + N)) (by rw [ByteArray.size_extract]; omega) a b c
    have hw : IntKind.i64.wrap ((at_ : Int) + (N : Int)) = ((at_ + N : Nat) : Int) := by rw [w64 (by omega) (by omega)]; omega
    have hw2 : IntKind.i64.wrap ((at_ : Int) + IntKind.i64.wrap ((N : Int) + 1)) = ((at_ + N + 1 : Nat) : Int) := by rw [w64 (n := (N : Int) + 1) (by omega) (by omega), w64 (by omega) (by omega)]; omega
    have hx : s.extract at_ (IntKind.i64.wrap ((at_ : Int) + (N : Int))).toNat = s.extract at_ (at_ + N) := by rw [hw]; rfl
    refine ⟨(show (0 : Int) ≤ at_ by omega), (show (at_ : Int) ≤ IntKind.i64.wrap ((at_ : Int) + (N : Int)) by rw [hw]; omega), (show IntKind.i64.wrap ((at_ : Int) + (N : Int)) ≤ s.size by rw [hw]; omega), ?_⟩
    conv => whnf
    have hI : R = match memL (splitBl (s.extract at_ (at_ + N))) with
      | none => (emptyO, 161, (at_ : Int))
      | some mem => parseR mem a b c (parseG s (s.size - (at_ + N + 1)) (at_ + N + 1) []) := hI
    generalize memL (splitBl (s.extract at_ (at_ + N))) = L at hk hI
    cases L with
    | none =>
      replace hI : R = (emptyO, 161, (at_ : Int)) := hI
      refine acall.new [1] [] _ _ _ _ hk rfl rfl rfl rfl ⟨⟨rfl, rfl⟩, .inl (congrArg ts hx), trivial⟩ aut rfl rfl fun _ => ?_
      conv => whnf
      (rw [hI]; exact ⟨[], rfl, rfl, aut2⟩)
    | some mem =>
      replace hI : R = parseR mem a b c (parseG s (s.size - (at_ + N + 1)) (at_ + N + 1) []) := hI
      refine acall.new [1] [] _ _ _ _ hk rfl rfl rfl rfl ⟨⟨rfl, rfl⟩, .inl (congrArg ts hx), trivial⟩ aut rfl rfl fun _ => ?_
      conv => whnf
      exact ⟨.r 2 (at_ + N + 1) mem a b c [], [0, 1, 40], [3], Sub.mk' rfl ⟨.inl rfl, ⟨rfl, rfl⟩, ⟨rfl, rfl⟩, .inl (congrArg ti hw2), .inl rfl, trivial⟩
        ⟨⟨rfl, .inl rfl, .inl rfl, .inl rfl, .inl rfl, .inl rfl, trivial⟩, ⟨rfl, ⟨rfl, rfl⟩, .inl rfl, .inl rfl, .inl rfl, ⟨rfl, rfl, rfl, rfl⟩, trivial⟩, ⟨rfl, rfl, rfl, rfl⟩, ⟨rfl, rfl, rfl, by omega⟩, trivial⟩ rfl rfl,
        ⟨by omega, by omega, by omega, Nat.zero_le _, (fun c hc => absurd hc (by simp)), hI⟩, by show s.size - (at_ + N + 1) < s.size + 1; omega⟩
  | r k at_ mem a b c cs =>
    obtain ⟨hk2, hka, hat, hcl, hcd, hI⟩ := hI
    conv => whnf
    refine csplit (fun h2 => ?_) (fun h2 => ?_)
    · exfalso
      have := of_decide_eq_true h2
      omega
    conv => whnf
    refine csplit (fun h3 => ?_) (fun h3 => ?_)
    · have hlt : at_ < s.size := by have := of_decide_eq_true h3; omega
      have hi := k_indexByte (s.extract at_ s.size) 10
      have hd := lnl_lt s hat
      rw [parseG_at hlt] at hI
      have hln : idxB (s.extract at_ s.size) 10 = lnl s at_ := rfl
      rw [hln] at hi
      generalize lnl s at_ = n at hi hd hI
      conv => whnf
      refine ⟨(show (0 : Int) ≤ at_ by omega), (show (at_ : Int) ≤ s.size by omega), Int.le_refl _, ?_⟩
      conv => whnf
      refine acall.pure _ (hi) rfl rfl fun _ => ?_
      conv => whnf
      refine csplit (fun h4 => ?_) (fun h4 => ?_)
      · exfalso
        have : (k : Int) = 0 := by simpa using h4
        omega
      conv => whnf
      refine csplit (fun h5 => ?_) (fun h5 => ?_)
      · exfalso
        have : (k : Int) = 1 := by simpa using h5
        omega
      conv => whnf
      refine csplit (fun hn => ?_) (fun hn => ?_)
      · replace hn : decide (n < 0) = true := hn
        rw [hn] at hI
        replace hI : R = (emptyO, 161, (at_ : Int)) := hI
        conv => whnf
        (rw [hI]; exact ⟨[], rfl, rfl, aut2⟩)
      replace hn : decide (n < 0) = false := hn
      rw [hn] at hI
      obtain ⟨hd1, hd2⟩ := hd hn
      generalize n.toNat = N at hd1 hd2 hI
      subst hd1
      have hls : (s.extract at_ (at_ + N)).size < 4294967281 := by rw [ByteArray.size_extract]; omega
      have hw : IntKind.i64.wrap ((at_ : Int) + (N : Int)) = ((at_ + N : Nat) : Int) := by rw [w64 (by omega) (by omega)]; omega
      have hw2 : IntKind.i64.wrap ((at_ : Int) + IntKind.i64.wrap ((N : Int) + 1)) = ((at_ + N + 1 : Nat) : Int) := by rw [w64 (n := (N : Int) + 1) (by omega) (by omega), w64 (by omega) (by omega)]; omega
      have hk3 : IntKind.i64.wrap ((k : Int) + 1) = ((k + 1 : Nat) : Int) := by rw [w64 (by omega) (by omega)]; omega
      have hx : s.extract at_ (IntKind.i64.wrap ((at_ : Int) + (N : Int))).toNat = s.extract at_ (at_ + N) := by rw [hw]; rfl
      refine ⟨(show (0 : Int) ≤ at_ by omega), (show (at_ : Int) ≤ IntKind.i64.wrap ((at_ : Int) + (N : Int)) by rw [hw]; omega), (show IntKind.i64.wrap ((at_ : Int) + (N : Int)) ≤ s.size by rw [hw]; omega), ?_⟩
      conv => whnf
      have hfu : ∀ cs', parseG s (s.size - at_ - 1) (at_ + N + 1) cs' = parseG s (s.size - (at_ + N + 1)) (at_ + N + 1) cs' := fun cs' => parseG_fuel s _ _ _ _ (by omega) (by omega)
      have hI : R = parseR mem a b c (match furtherS cs (s.extract at_ (at_ + N)) with
        | none => ([], some at_)
        | some cs' => parseG s (s.size - at_ - 1) (at_ + N + 1) cs') := hI
      cases hC : isCore (splitBl (s.extract at_ (at_ + N))) with
      | some nm =>
        have hF : furtherS cs (s.extract at_ (at_ + N)) = some (cs ++ [newC nm]) := by unfold furtherS; rw [hC]
        rw [hF] at hI
        replace hI : R = parseR mem a b c (parseG s (s.size - at_ - 1) (at_ + N + 1) (cs ++ [newC nm])) := hI
        rw [hfu] at hI
        refine acall.new [1, 2, 3] [] _ _ _ _ (k_furtherC (s.extract at_ (at_ + N)) hls mem a b c cs (by omega) nm hC) rfl rfl rfl rfl ⟨⟨rfl, rfl⟩, .inl (congrArg ts hx), trivial⟩ ⟨⟨rfl, ⟨rfl, rfl⟩, .inl rfl, .inl rfl, .inl rfl, ⟨rfl, rfl⟩, trivial⟩, ⟨rfl, rfl, rfl, rfl⟩, ⟨rfl, rfl, rfl, rfl, .inl rfl⟩, trivial⟩ rfl rfl fun _ => ?_
        conv => whnf
        refine ⟨.r (k + 1) (at_ + N + 1) mem a b c (cs ++ [newC nm]), [0, 1, 2, 39], [], Sub.mk' rfl ⟨.inl rfl, ⟨rfl, rfl⟩, ⟨rfl, rfl⟩, .inl (congrArg ti hw2), .inl (congrArg ti hk3), trivial⟩ ⟨⟨rfl, .inl rfl, .inl rfl, .inl rfl, .inl rfl, .inl rfl, trivial⟩, ⟨rfl, ⟨rfl, rfl⟩, .inl rfl, .inl rfl, .inl rfl, ⟨rfl, rfl⟩, trivial⟩, ⟨rfl, rfl, rfl, rfl⟩, ⟨rfl, rfl, rfl, rfl, .inl rfl⟩, trivial⟩ rfl rfl, ⟨by omega, by omega, by omega, ?_, ?_, hI⟩, by show s.size - (at_ + N + 1) < s.size - at_; omega⟩
        · simp only [List.length_append, List.length_cons, List.length_nil]; omega
        · intro d hd
          rcases List.mem_append.1 hd with hd | hd
          · have := hcd d hd; omega
          · simp only [List.mem_singleton] at hd; subst hd; exact Nat.zero_le _
      | none =>
        by_cases hgo : (instrS (s.extract at_ (at_ + N))).2 = true ∧ cs.length ≠ 0
        · obtain ⟨g1, g2⟩ := hgo
          have hF : furtherS cs (s.extract at_ (at_ + N)) = some (addI cs (instrS (s.extract at_ (at_ + N))).1) := by
            unfold furtherS; rw [hC]
            show (bif !(instrS (s.extract at_ (at_ + N))).2 || (cs.length : Int) == 0 then none else some _) = _
            rw [g1, show ((cs.length : Int) == 0) = false from beq_eq_false_iff_ne.2 (by omega)]; rfl
          rw [hF] at hI
          replace hI : R = parseR mem a b c (parseG s (s.size - at_ - 1) (at_ + N + 1) (addI cs (instrS (s.extract at_ (at_ + N))).1)) := hI
          rw [hfu] at hI
          refine acall.new [1, 2, 3] [] _ _ _ _ (k_furtherI (s.extract at_ (at_ + N)) hls mem a b c cs (by omega) (fun d hd => Nat.le_trans (hcd d hd) (by omega)) hC g1 g2) rfl rfl rfl rfl ⟨⟨rfl, rfl⟩, .inl (congrArg ts hx), trivial⟩ ⟨⟨rfl, ⟨rfl, rfl⟩, .inl rfl, .inl rfl, .inl rfl, ⟨rfl, rfl⟩, trivial⟩, ⟨rfl, rfl, rfl, rfl⟩, ⟨rfl, rfl, rfl, rfl, .inl rfl⟩, trivial⟩ rfl rfl fun _ => ?_
          conv => whnf
          refine ⟨.r (k + 1) (at_ + N + 1) mem a b c (addI cs (instrS (s.extract at_ (at_ + N))).1), [0, 1, 2, 3], [], Sub.mk' rfl ⟨.inl rfl, ⟨rfl, rfl⟩, ⟨rfl, rfl⟩, .inl (congrArg ti hw2), .inl (congrArg ti hk3), trivial⟩ ⟨⟨rfl, .inl rfl, .inl rfl, .inl rfl, .inl rfl, .inl rfl, trivial⟩, ⟨rfl, ⟨rfl, rfl⟩, .inl rfl, .inl rfl, .inl rfl, ⟨rfl, rfl⟩, trivial⟩, ⟨rfl, rfl, rfl, rfl⟩, ⟨rfl, rfl, rfl, rfl, .inl rfl⟩, trivial⟩ rfl rfl, ⟨by omega, by omega, by omega, ?_, ?_, hI⟩, by show s.size - (at_ + N + 1) < s.size - at_; omega⟩
          · rw [addI_len]; omega
          · intro d hd
            have := addI_code hcd d hd
            omega
        · have hF : furtherS cs (s.extract at_ (at_ + N)) = none := by
            unfold furtherS; rw [hC]
            show (bif !(instrS (s.extract at_ (at_ + N))).2 || (cs.length : Int) == 0 then none else some _) = _
            cases hb : (instrS (s.extract at_ (at_ + N))).2
            · rfl
            · rw [show ((cs.length : Int) == 0) = true from by rw [Classical.not_not.1 (fun hne => hgo ⟨hb, hne⟩)]; rfl]; rfl
          rw [hF] at hI
          replace hI : R = (emptyO, 161, (at_ : Int)) := hI
          refine acall.new [1, 2, 3] [] _ _ _ _ (k_furtherN (s.extract at_ (at_ + N)) hls mem a b c cs hC (fun hb => Classical.not_not.1 fun hne => hgo ⟨hb, hne⟩)) rfl rfl rfl rfl ⟨⟨rfl, rfl⟩, .inl (congrArg ts hx), trivial⟩ ⟨⟨rfl, ⟨rfl, rfl⟩, .inl rfl, .inl rfl, .inl rfl, ⟨rfl, rfl⟩, trivial⟩, ⟨rfl, rfl, rfl, rfl⟩, ⟨rfl, rfl, rfl, rfl, .inl rfl⟩, trivial⟩ rfl rfl fun _ => ?_
          conv => whnf
          (rw [hI]; exact ⟨[], rfl, rfl, aut2⟩)
    · have hge : s.size ≤ at_ := by have := of_decide_eq_false h3; omega
      rw [parseG_end hge] at hI
      replace hI : R = doneP ⟨mem, a, b, c, cs⟩ := hI
      conv => whnf
      refine ⟨fun _ => ?_, fun h => absurd rfl h⟩
      conv => whnf
      have hk := k_check ⟨mem, a, b, c, cs⟩
      unfold doneP at hI
      generalize checkO ⟨mem, a, b, c, cs⟩ = Q at hk hI
      refine acall.gen [] [2, 3] _ _ _ _ hk rfl rfl rfl rfl ⟨⟨⟨rfl, by simp, by rw [List.take_of_length_le (by simp)]⟩, .inl rfl, .inl rfl, .inl rfl, ⟨rfl, by simp, by rw [List.take_of_length_le (by simp)]⟩, trivial⟩, trivial⟩ trivial rfl rfl fun _ => ?_
      conv => whnf
      refine csplit (fun hq => ?_) (fun hq => ?_)
      · replace hq : (Q.1 != 0) = true := hq
        rw [hq] at hI
        replace hI : R = (emptyO, Q.1, 0) := hI
        conv => whnf
        rw [hI]
        exact ⟨[], rfl, rfl, aut2⟩
      · replace hq : (Q.1 != 0) = false := hq
        rw [hq] at hI
        replace hI : R = (⟨mem, a, b, c, cs⟩, 0, 0) := hI
        rw [hI]
        conv => whnf
        exact ⟨[], rfl, rfl, ⟨⟨⟨rfl, by simp, by rw [List.take_of_length_le (by simp)]⟩, .inl rfl, .inl rfl, .inl rfl, ⟨rfl, by simp, by rw [List.take_of_length_le (by simp)]⟩, trivial⟩, .inl rfl, .inl rfl, trivial⟩, trivial⟩
theorem doneP_cases (o : Ob) : (doneP o = (o, 0, 0) ∧ (checkO o).1 = 0) ∨ ∃ w, w ≠ 0 ∧ doneP o = (emptyO, w, 0) := by
  unfold doneP
  by_cases h : (checkO o).1 = 0
  · left; rw [show ((checkO o).1 != 0) = false by rw [h]; rfl]; exact ⟨rfl, h⟩
  · right; refine ⟨_, h, ?_⟩; rw [show ((checkO o).1 != 0) = true by simpa using h]; rfl
theorem parseS_cases (s : ByteArray) : (∃ o, parseS s = (o, 0, 0) ∧ (checkO o).1 = 0) ∨ ∃ w a, w ≠ 0 ∧ parseS s = (emptyO, w, a) := by
  unfold parseS parseH
  cases decide ((s.size : Int) > 16777216)
  · simp only [cond_false]
    cases decide (lnl s 0 < 0)
    · simp only [cond_false]
      split
      · exact .inr ⟨161, 0, by decide, rfl⟩
      · unfold parseM
        cases decide (lnl s (0 + (lnl s 0).toNat + 1) < 0)
        · simp only [cond_false]
          split
          · exact .inr ⟨161, _, by decide, rfl⟩
          · unfold parseR
            split
            · exact .inr ⟨161, _, by decide, rfl⟩
            · rename_i mem _ _ _
              rcases doneP_cases ⟨mem, _, _, _, _⟩ with ⟨h1, h2⟩ | ⟨w, h1, h2⟩
              · exact .inl ⟨_, h1, h2⟩
              · exact .inr ⟨w, 0, h1, h2⟩
        · exact .inr ⟨161, _, by decide, rfl⟩
    · exact .inr ⟨161, 0, by decide, rfl⟩
  · exact .inr ⟨4, 0, by decide, rfl⟩
theorem k_parseT (s : ByteArray) {R : Ob × Int × Int} (hR : R = parseS s) (h0 : R.2.1 = 0) : K 9 [.tr (ts s)] [] (.ret (.tup [R.1.av, .tr (ti 0), .tr (ti 0)])) [] := by
  have h := k_parseA s hR
  rcases parseS_cases s with ⟨o, e, _⟩ | ⟨w, a, hw, e⟩
  · rw [hR, e] at h ⊢
    exact h
  · rw [hR, e] at h0
    exact absurd h0 hw
end Go.Proofs.YtffhoknkfohfgaaDoor.am

namespace Go.Proofs.YtffhoknkfohfgaaDoor.am
open Go Go.Proofs
def fieldW (i : Ins) (u : Int) : Option ByteArray :=
  bif u == 1 then some (opword i.op) else bif u == 2 then some (regB i.d) else bif u == 4 then some (regB i.a) else bif u == 8 then some (regB i.b) else bif u == 16 then some (prnB i.addr) else bif u == 32 then some (prnB i.to_) else bif u == 64 then some (prnB i.word) else none
def atB (n : Int) : ByteArray := ⟨#[64]⟩ ++ prnB n
/-- the fields' texts of a kind that uses these -/
def fieldsW (i : Ins) : List ByteArray := bif i.kind == 2 && !two i.op then [opword i.op, regB i.d, regB i.a] else (kuse i.kind).filterMap (fieldW i)
def wordsOf (i : Ins) : List ByteArray := (bif seq (kword i.kind) ⟨#[]⟩ then [] else [kword i.kind]) ++ fieldsW i ++ (bif i.from_ != 0 then [atB i.from_] else [])
def textB (i : Ins) : ByteArray := joinB (wordsOf i)
theorem opword_len (op : Int) : (opword op).size ≤ 5 := by
  by_cases h : 19 ≤ op
  · rw [opword_big h]; decide
  by_cases h0 : op < 0
  · unfold opword byK
    rw [show op.toNat = 0 by omega]; decide
  have hc : op = 0 ∨ op = 1 ∨ op = 2 ∨ op = 3 ∨ op = 4 ∨ op = 5 ∨ op = 6 ∨ op = 7 ∨ op = 8 ∨ op = 9 ∨ op = 10 ∨ op = 11 ∨ op = 12 ∨ op = 13 ∨ op = 14 ∨ op = 15 ∨ op = 16 ∨ op = 17 ∨ op = 18 := by omega
  rcases hc with h | h | h | h | h | h | h | h | h | h | h | h | h | h | h | h | h | h | h <;> (subst h; decide)
theorem tail_len (sep : List UInt8) : ∀ r : List (List UInt8), (∀ x ∈ r, x.length ≤ 40) → (Lib.joinTail sep r).length ≤ r.length * (sep.length + 40)
  | [], _ => by simp [Lib.joinTail]
  | x :: r, h => by
    have h1 := h x (by simp)
    have h2 := tail_len sep r fun y hy => h y (by simp [hy])
    unfold Lib.joinTail at h2 ⊢
    simp only [List.map_cons, List.flatten_cons, List.length_append, List.length_cons]
    rw [Nat.succ_mul]
    omega
theorem joinL_le {l : List ByteArray} (h : ∀ x ∈ l, x.size ≤ 40) (hl : l.length ≤ 10) : (joinL l).length ≤ 500 := by
  cases l with
  | nil => simp [joinL, Lib.join]
  | cons x r =>
    unfold joinL
    rw [List.map_cons, Lib.join_cons, List.length_append]
    have h1 := h x (by simp)
    have h2 := tail_len [32] (r.map (·.data.toList)) (fun y hy => by
      simp only [List.mem_map] at hy
      obtain ⟨z, hz, rfl⟩ := hy
      have := h z (by simp [hz])
      have e : z.data.toList.length = z.size := by simp
      omega)
    have e : x.data.toList.length = x.size := by simp
    simp only [List.length_map, List.length_cons, List.length_nil] at h2 hl
    have : r.length * (0 + 1 + 40) ≤ 9 * (0 + 1 + 40) := Nat.mul_le_mul_right _ (by omega)
    omega
theorem reg_len {n : Int} (h : -9223372036854775808 ≤ n ∧ n ≤ 9223372036854775807) : (regB n).size ≤ 40 := by
  have := prn_len h.1 h.2
  show (⟨#[114]⟩ ++ prnB n : ByteArray).size ≤ 40
  rw [size_add]
  have : (⟨#[114]⟩ : ByteArray).size = 1 := rfl
  omega
theorem at_len {n : Int} (h : -9223372036854775808 ≤ n ∧ n ≤ 9223372036854775807) : (atB n).size ≤ 40 := by
  have := prn_len h.1 h.2
  show (⟨#[64]⟩ ++ prnB n : ByteArray).size ≤ 40
  rw [size_add]
  have : (⟨#[64]⟩ : ByteArray).size = 1 := rfl
  omega
theorem prn_len40 {n : Int} (h : -9223372036854775808 ≤ n ∧ n ≤ 9223372036854775807) : (prnB n).size ≤ 40 := Nat.le_trans (prn_len h.1 h.2) (by omega)
theorem op_len40 (op : Int) : (opword op).size ≤ 40 := Nat.le_trans (opword_len op) (by omega)
/-- an instruction's numbers are int64 -/
structure IOk (i : Ins) : Prop where
  d : -9223372036854775808 ≤ i.d ∧ i.d ≤ 9223372036854775807
  a : -9223372036854775808 ≤ i.a ∧ i.a ≤ 9223372036854775807
  b : -9223372036854775808 ≤ i.b ∧ i.b ≤ 9223372036854775807
  addr : -9223372036854775808 ≤ i.addr ∧ i.addr ≤ 9223372036854775807
  to_ : -9223372036854775808 ≤ i.to_ ∧ i.to_ ≤ 9223372036854775807
  word : -9223372036854775808 ≤ i.word ∧ i.word ≤ 9223372036854775807
  from_ : -9223372036854775808 ≤ i.from_ ∧ i.from_ ≤ 9223372036854775807
  kind : 0 ≤ i.kind ∧ i.kind ≤ 255
  op : 0 ≤ i.op ∧ i.op ≤ 255
theorem iok_of {i : Ins} (h : ∀ t ∈ i.cells, TOkT t) : IOk i := by
  unfold Ins.cells at h
  refine ⟨(h (ti i.d) (by simp)).i64, (h (ti i.a) (by simp)).i64, (h (ti i.b) (by simp)).i64, (h (ti i.addr) (by simp)).i64, (h (ti i.to_) (by simp)).i64, (h (ti i.word) (by simp)).i64, (h (ti i.from_) (by simp)).i64, (h (tu i.kind) (by simp)).u8, (h (tu i.op) (by simp)).u8⟩

set_option maxRecDepth 100000 in
set_option maxHeartbeats 2000000 in
theorem k_text0 {op d a b addr to_ word from_ : Int} (hi : IOk ⟨0, op, d, a, b, addr, to_, word, from_⟩) : K 44 [Ins.av ⟨0, op, d, a, b, addr, to_, word, from_⟩] [] (.ret (.tr (ts (textB ⟨0, op, d, a, b, addr, to_, word, from_⟩)))) [] := by
  refine Ctr.cut [2] hT hmix Tryd.func44 rfl (fun _ _ => by kernel_rfl) rfl fun hok => ?_
  clear hok
  have hu := k_used ⟨0, op, d, a, b, addr, to_, word, from_⟩
  obtain ⟨W, hW⟩ : ∃ W, W = kword 0 := ⟨_, rfl⟩
  have hf : K 37 [.tr (tu 0)] [] (.ret (.tup [.agg [.tr (ts W), .tr (tu 0), .tr (tu 0), .tr (tu 0), .tr (tu 0)], .tr (tb (kok 0))])) [] := by rw [hW]; exact k_forms 0
  have e : usedM 0 op = 0 := rfl
  simp only [e] at hu
  clear e
  have eW : wordsOf ⟨0, op, d, a, b, addr, to_, word, from_⟩ = [] ++ (bif from_ != 0 then [atB from_] else []) := by kernel_rfl
  have eT : textB ⟨0, op, d, a, b, addr, to_, word, from_⟩ = joinB (wordsOf ⟨0, op, d, a, b, addr, to_, word, from_⟩) := rfl
  rw [eW] at eT
  clear eW
  rw [eT]
  clear eT
  conv => whnf
  refine CutL.by (fun _ : Unit => ⟨[(1, .ptr 0 0), (3, .ptr 1 0)], [(0, .cells 37 [.tr (tu 0), .tr (tu op), .tr (ti d), .tr (ti a), .tr (ti b), .tr (ti addr), .tr (ti to_), .tr (ti word), .tr (ti from_)]), (1, wrB ⟨0, op, d, a, b, addr, to_, word, from_⟩ 2 []), (2, wdB [])], 10⟩) (fun _ => True) ?_ ?_
  · conv => whnf
    exact ⟨(), [0, 4], [2], Sub.mk' rfl aut (by repeat' (first | exact trivial | exact Or.inl rfl | exact rfl | exact ⟨_, _, _, rfl, Nat.zero_lt_one⟩ | apply And.intro)) rfl rfl, trivial⟩
  rintro _ - -
  conv => whnf
  refine acall.pure _ (hf) rfl rfl fun _ => ?_
  conv => whnf
  refine csplit (fun hs => by rw [hW] at hs; exact Bool.noConfusion (hs.symm.trans (show _ = false by kernel_rfl))) (fun _ => ?_)
  conv => whnf
  refine acall.pure _ (hu) rfl rfl fun _ => ?_
  conv => whnf
  refine LoopL.un 5 ?_
  conv => whnf
  refine ⟨by decide, by decide, rfl, by decide, fun a ha => ?_⟩
  cases ha
  conv => whnf
  refine ⟨fun h => absurd h (by decide), fun _ => ?_⟩
  conv => whnf
  refine ⟨fun _ => ?_, fun h => absurd rfl h⟩
  conv => whnf
  refine ⟨by decide, by decide, rfl, by decide, fun a ha => ?_⟩
  cases ha
  conv => whnf
  refine ⟨fun h => absurd h (by decide), fun _ => ?_⟩
  conv => whnf
  refine ⟨fun _ => ?_, fun h => absurd rfl h⟩
  conv => whnf
  refine ⟨by decide, by decide, rfl, by decide, fun a ha => ?_⟩
  cases ha
  conv => whnf
  refine ⟨fun h => absurd h (by decide), fun _ => ?_⟩
  conv => whnf
  refine ⟨fun _ => ?_, fun h => absurd rfl h⟩
  conv => whnf
  refine ⟨by decide, by decide, rfl, by decide, fun a ha => ?_⟩
  cases ha
  conv => whnf
  refine ⟨fun h => absurd h (by decide), fun _ => ?_⟩
  conv => whnf
  refine ⟨fun _ => ?_, fun h => absurd rfl h⟩
  conv => whnf
  refine ⟨fun _ => ?_, fun h => absurd rfl h⟩
  conv => whnf
  refine csplit (fun hfr => ?_) (fun hfr => ?_)
  · have hpl := prn_len hi.from_.1 hi.from_.2
    conv => whnf
    refine acall.pure _ (k_itoa from_) rfl rfl fun _ => ?_
    conv => whnf
    refine ⟨by show (⟨#[64]⟩ : ByteArray).size + (prnB from_).size ≤ _; have : (⟨#[64]⟩ : ByteArray).size = 1 := rfl; have : (prnB from_).size ≤ 21 := hpl; omega, ?_⟩
    conv => whnf
    refine acall.new [1, 2] [] _ _ _ _ (k_say ⟨0, op, d, a, b, addr, to_, word, from_⟩ (atB from_) [] (by simp)) rfl rfl rfl rfl aut aut rfl rfl fun _ => ?_
    conv => whnf
    refine acall.gen [] [133] _ _ _ _ (k_join [atB from_] (Nat.le_trans (joinL_le (fun x hx => ?_) (by simp)) (by omega))) rfl rfl rfl rfl ⟨⟨rfl, Nat.le_refl _, rfl⟩, .inl rfl, trivial⟩ trivial rfl rfl fun _ => ?_
    · simp only [List.mem_cons, List.not_mem_nil, or_false] at hx
      rcases hx with rfl
      all_goals first | decide | exact op_len40 _ | exact reg_len hi.d | exact reg_len hi.a | exact reg_len hi.b | exact prn_len40 hi.addr | exact prn_len40 hi.to_ | exact prn_len40 hi.word | exact at_len hi.from_
    conv => whnf
    exact ⟨.inl (congrArg (fun l => ts (joinB l)) (by rw [hfr]; rfl)), trivial⟩
  · conv => whnf
    refine acall.gen [] [2] _ _ _ _ (k_join [] (Nat.le_trans (joinL_le (fun x hx => ?_) (by simp)) (by omega))) rfl rfl rfl rfl ⟨⟨rfl, Nat.le_refl _, rfl⟩, .inl rfl, trivial⟩ trivial rfl rfl fun _ => ?_
    · simp only [List.mem_cons, List.not_mem_nil, or_false] at hx
    conv => whnf
    exact ⟨.inl (congrArg (fun l => ts (joinB l)) (by rw [hfr]; rfl)), trivial⟩
set_option maxRecDepth 100000 in
set_option maxHeartbeats 2000000 in
theorem k_text1 {op d a b addr to_ word from_ : Int} (hi : IOk ⟨1, op, d, a, b, addr, to_, word, from_⟩) : K 44 [Ins.av ⟨1, op, d, a, b, addr, to_, word, from_⟩] [] (.ret (.tr (ts (textB ⟨1, op, d, a, b, addr, to_, word, from_⟩)))) [] := by
  refine Ctr.cut [2] hT hmix Tryd.func44 rfl (fun _ _ => by kernel_rfl) rfl fun hok => ?_
  clear hok
  have hu := k_used ⟨1, op, d, a, b, addr, to_, word, from_⟩
  have hf := k_forms 1
  have e : usedM 1 op = 66 := rfl
  simp only [e] at hu
  clear e
  have eW : wordsOf ⟨1, op, d, a, b, addr, to_, word, from_⟩ = [kword 1, regB d, prnB word] ++ (bif from_ != 0 then [atB from_] else []) := by kernel_rfl
  have eT : textB ⟨1, op, d, a, b, addr, to_, word, from_⟩ = joinB (wordsOf ⟨1, op, d, a, b, addr, to_, word, from_⟩) := rfl
  rw [eW] at eT
  clear eW
  rw [eT]
  clear eT
  conv => whnf
  refine CutL.by (fun _ : Unit => ⟨[(1, .ptr 0 0), (3, .ptr 1 0)], [(0, .cells 37 [.tr (tu 1), .tr (tu op), .tr (ti d), .tr (ti a), .tr (ti b), .tr (ti addr), .tr (ti to_), .tr (ti word), .tr (ti from_)]), (1, wrB ⟨1, op, d, a, b, addr, to_, word, from_⟩ 2 []), (2, wdB [])], 10⟩) (fun _ => True) ?_ ?_
  · conv => whnf
    exact ⟨(), [0, 4], [2], Sub.mk' rfl aut (by repeat' (first | exact trivial | exact Or.inl rfl | exact rfl | exact ⟨_, _, _, rfl, Nat.zero_lt_one⟩ | apply And.intro)) rfl rfl, trivial⟩
  rintro _ - -
  conv => whnf
  refine acall.pure _ (hf) rfl rfl fun _ => ?_
  conv => whnf
  refine csplit (fun _ => ?_) (fun hs => Bool.noConfusion (hs.symm.trans (show _ = true by kernel_rfl)))
  conv => whnf
  refine acall.new [1, 2] [] _ _ _ _ (k_say ⟨1, op, d, a, b, addr, to_, word, from_⟩ (kword 1) [] (by simp)) rfl rfl rfl rfl aut aut rfl rfl fun _ => ?_
  conv => whnf
  refine acall.pure _ (hu) rfl rfl fun _ => ?_
  conv => whnf
  refine LoopL.un 5 ?_
  conv => whnf
  refine ⟨by decide, by decide, rfl, by decide, fun a ha => ?_⟩
  cases ha
  conv => whnf
  refine acall.new [1, 25] [] _ _ _ _ (k_w_d ⟨1, op, d, a, b, addr, to_, word, from_⟩ [kword 1] (by simp)) rfl rfl rfl rfl aut aut rfl rfl fun _ => ?_
  conv => whnf
  refine ⟨by decide, by decide, rfl, by decide, fun a ha => ?_⟩
  cases ha
  conv => whnf
  refine acall.new [1, 51] [] _ _ _ _ (k_w_word ⟨1, op, d, a, b, addr, to_, word, from_⟩ [kword 1, regB d] (by simp)) rfl rfl rfl rfl aut aut rfl rfl fun _ => ?_
  conv => whnf
  refine ⟨by decide, by decide, rfl, by decide, fun a ha => ?_⟩
  cases ha
  conv => whnf
  refine ⟨fun h => absurd h (by decide), fun _ => ?_⟩
  conv => whnf
  refine ⟨fun _ => ?_, fun h => absurd rfl h⟩
  conv => whnf
  refine ⟨by decide, by decide, rfl, by decide, fun a ha => ?_⟩
  cases ha
  conv => whnf
  refine ⟨fun h => absurd h (by decide), fun _ => ?_⟩
  conv => whnf
  refine ⟨fun _ => ?_, fun h => absurd rfl h⟩
  conv => whnf
  refine ⟨fun _ => ?_, fun h => absurd rfl h⟩
  conv => whnf
  refine csplit (fun hfr => ?_) (fun hfr => ?_)
  · have hpl := prn_len hi.from_.1 hi.from_.2
    conv => whnf
    refine acall.pure _ (k_itoa from_) rfl rfl fun _ => ?_
    conv => whnf
    refine ⟨by show (⟨#[64]⟩ : ByteArray).size + (prnB from_).size ≤ _; have : (⟨#[64]⟩ : ByteArray).size = 1 := rfl; have : (prnB from_).size ≤ 21 := hpl; omega, ?_⟩
    conv => whnf
    refine acall.new [1, 79] [] _ _ _ _ (k_say ⟨1, op, d, a, b, addr, to_, word, from_⟩ (atB from_) [kword 1, regB d, prnB word] (by simp)) rfl rfl rfl rfl aut aut rfl rfl fun _ => ?_
    conv => whnf
    refine acall.gen [] [137] _ _ _ _ (k_join [kword 1, regB d, prnB word, atB from_] (Nat.le_trans (joinL_le (fun x hx => ?_) (by simp)) (by omega))) rfl rfl rfl rfl ⟨⟨rfl, Nat.le_refl _, rfl⟩, .inl rfl, trivial⟩ trivial rfl rfl fun _ => ?_
    · simp only [List.mem_cons, List.not_mem_nil, or_false] at hx
      rcases hx with rfl | rfl | rfl | rfl
      all_goals first | decide | exact op_len40 _ | exact reg_len hi.d | exact reg_len hi.a | exact reg_len hi.b | exact prn_len40 hi.addr | exact prn_len40 hi.to_ | exact prn_len40 hi.word | exact at_len hi.from_
    conv => whnf
    exact ⟨.inl (congrArg (fun l => ts (joinB l)) (by rw [hfr]; rfl)), trivial⟩
  · conv => whnf
    refine acall.gen [] [79] _ _ _ _ (k_join [kword 1, regB d, prnB word] (Nat.le_trans (joinL_le (fun x hx => ?_) (by simp)) (by omega))) rfl rfl rfl rfl ⟨⟨rfl, Nat.le_refl _, rfl⟩, .inl rfl, trivial⟩ trivial rfl rfl fun _ => ?_
    · simp only [List.mem_cons, List.not_mem_nil, or_false] at hx
      rcases hx with rfl | rfl | rfl
      all_goals first | decide | exact op_len40 _ | exact reg_len hi.d | exact reg_len hi.a | exact reg_len hi.b | exact prn_len40 hi.addr | exact prn_len40 hi.to_ | exact prn_len40 hi.word | exact at_len hi.from_
    conv => whnf
    exact ⟨.inl (congrArg (fun l => ts (joinB l)) (by rw [hfr]; rfl)), trivial⟩
set_option maxRecDepth 100000 in
set_option maxHeartbeats 2000000 in
theorem k_text3 {op d a b addr to_ word from_ : Int} (hi : IOk ⟨3, op, d, a, b, addr, to_, word, from_⟩) : K 44 [Ins.av ⟨3, op, d, a, b, addr, to_, word, from_⟩] [] (.ret (.tr (ts (textB ⟨3, op, d, a, b, addr, to_, word, from_⟩)))) [] := by
  refine Ctr.cut [2] hT hmix Tryd.func44 rfl (fun _ _ => by kernel_rfl) rfl fun hok => ?_
  clear hok
  have hu := k_used ⟨3, op, d, a, b, addr, to_, word, from_⟩
  have hf := k_forms 3
  have e : usedM 3 op = 18 := rfl
  simp only [e] at hu
  clear e
  have eW : wordsOf ⟨3, op, d, a, b, addr, to_, word, from_⟩ = [kword 3, regB d, prnB addr] ++ (bif from_ != 0 then [atB from_] else []) := by kernel_rfl
  have eT : textB ⟨3, op, d, a, b, addr, to_, word, from_⟩ = joinB (wordsOf ⟨3, op, d, a, b, addr, to_, word, from_⟩) := rfl
  rw [eW] at eT
  clear eW
  rw [eT]
  clear eT
  conv => whnf
  refine CutL.by (fun _ : Unit => ⟨[(1, .ptr 0 0), (3, .ptr 1 0)], [(0, .cells 37 [.tr (tu 3), .tr (tu op), .tr (ti d), .tr (ti a), .tr (ti b), .tr (ti addr), .tr (ti to_), .tr (ti word), .tr (ti from_)]), (1, wrB ⟨3, op, d, a, b, addr, to_, word, from_⟩ 2 []), (2, wdB [])], 10⟩) (fun _ => True) ?_ ?_
  · conv => whnf
    exact ⟨(), [0, 4], [2], Sub.mk' rfl aut (by repeat' (first | exact trivial | exact Or.inl rfl | exact rfl | exact ⟨_, _, _, rfl, Nat.zero_lt_one⟩ | apply And.intro)) rfl rfl, trivial⟩
  rintro _ - -
  conv => whnf
  refine acall.pure _ (hf) rfl rfl fun _ => ?_
  conv => whnf
  refine csplit (fun _ => ?_) (fun hs => Bool.noConfusion (hs.symm.trans (show _ = true by kernel_rfl)))
  conv => whnf
  refine acall.new [1, 2] [] _ _ _ _ (k_say ⟨3, op, d, a, b, addr, to_, word, from_⟩ (kword 3) [] (by simp)) rfl rfl rfl rfl aut aut rfl rfl fun _ => ?_
  conv => whnf
  refine acall.pure _ (hu) rfl rfl fun _ => ?_
  conv => whnf
  refine LoopL.un 5 ?_
  conv => whnf
  refine ⟨by decide, by decide, rfl, by decide, fun a ha => ?_⟩
  cases ha
  conv => whnf
  refine acall.new [1, 25] [] _ _ _ _ (k_w_d ⟨3, op, d, a, b, addr, to_, word, from_⟩ [kword 3] (by simp)) rfl rfl rfl rfl aut aut rfl rfl fun _ => ?_
  conv => whnf
  refine ⟨by decide, by decide, rfl, by decide, fun a ha => ?_⟩
  cases ha
  conv => whnf
  refine acall.new [1, 51] [] _ _ _ _ (k_w_addr ⟨3, op, d, a, b, addr, to_, word, from_⟩ [kword 3, regB d] (by simp)) rfl rfl rfl rfl aut aut rfl rfl fun _ => ?_
  conv => whnf
  refine ⟨by decide, by decide, rfl, by decide, fun a ha => ?_⟩
  cases ha
  conv => whnf
  refine ⟨fun h => absurd h (by decide), fun _ => ?_⟩
  conv => whnf
  refine ⟨fun _ => ?_, fun h => absurd rfl h⟩
  conv => whnf
  refine ⟨by decide, by decide, rfl, by decide, fun a ha => ?_⟩
  cases ha
  conv => whnf
  refine ⟨fun h => absurd h (by decide), fun _ => ?_⟩
  conv => whnf
  refine ⟨fun _ => ?_, fun h => absurd rfl h⟩
  conv => whnf
  refine ⟨fun _ => ?_, fun h => absurd rfl h⟩
  conv => whnf
  refine csplit (fun hfr => ?_) (fun hfr => ?_)
  · have hpl := prn_len hi.from_.1 hi.from_.2
    conv => whnf
    refine acall.pure _ (k_itoa from_) rfl rfl fun _ => ?_
    conv => whnf
    refine ⟨by show (⟨#[64]⟩ : ByteArray).size + (prnB from_).size ≤ _; have : (⟨#[64]⟩ : ByteArray).size = 1 := rfl; have : (prnB from_).size ≤ 21 := hpl; omega, ?_⟩
    conv => whnf
    refine acall.new [1, 75] [] _ _ _ _ (k_say ⟨3, op, d, a, b, addr, to_, word, from_⟩ (atB from_) [kword 3, regB d, prnB addr] (by simp)) rfl rfl rfl rfl aut aut rfl rfl fun _ => ?_
    conv => whnf
    refine acall.gen [] [133] _ _ _ _ (k_join [kword 3, regB d, prnB addr, atB from_] (Nat.le_trans (joinL_le (fun x hx => ?_) (by simp)) (by omega))) rfl rfl rfl rfl ⟨⟨rfl, Nat.le_refl _, rfl⟩, .inl rfl, trivial⟩ trivial rfl rfl fun _ => ?_
    · simp only [List.mem_cons, List.not_mem_nil, or_false] at hx
      rcases hx with rfl | rfl | rfl | rfl
      all_goals first | decide | exact op_len40 _ | exact reg_len hi.d | exact reg_len hi.a | exact reg_len hi.b | exact prn_len40 hi.addr | exact prn_len40 hi.to_ | exact prn_len40 hi.word | exact at_len hi.from_
    conv => whnf
    exact ⟨.inl (congrArg (fun l => ts (joinB l)) (by rw [hfr]; rfl)), trivial⟩
  · conv => whnf
    refine acall.gen [] [75] _ _ _ _ (k_join [kword 3, regB d, prnB addr] (Nat.le_trans (joinL_le (fun x hx => ?_) (by simp)) (by omega))) rfl rfl rfl rfl ⟨⟨rfl, Nat.le_refl _, rfl⟩, .inl rfl, trivial⟩ trivial rfl rfl fun _ => ?_
    · simp only [List.mem_cons, List.not_mem_nil, or_false] at hx
      rcases hx with rfl | rfl | rfl
      all_goals first | decide | exact op_len40 _ | exact reg_len hi.d | exact reg_len hi.a | exact reg_len hi.b | exact prn_len40 hi.addr | exact prn_len40 hi.to_ | exact prn_len40 hi.word | exact at_len hi.from_
    conv => whnf
    exact ⟨.inl (congrArg (fun l => ts (joinB l)) (by rw [hfr]; rfl)), trivial⟩
set_option maxRecDepth 100000 in
set_option maxHeartbeats 2000000 in
theorem k_text4 {op d a b addr to_ word from_ : Int} (hi : IOk ⟨4, op, d, a, b, addr, to_, word, from_⟩) : K 44 [Ins.av ⟨4, op, d, a, b, addr, to_, word, from_⟩] [] (.ret (.tr (ts (textB ⟨4, op, d, a, b, addr, to_, word, from_⟩)))) [] := by
  refine Ctr.cut [2] hT hmix Tryd.func44 rfl (fun _ _ => by kernel_rfl) rfl fun hok => ?_
  clear hok
  have hu := k_used ⟨4, op, d, a, b, addr, to_, word, from_⟩
  have hf := k_forms 4
  have e : usedM 4 op = 20 := rfl
  simp only [e] at hu
  clear e
  have eW : wordsOf ⟨4, op, d, a, b, addr, to_, word, from_⟩ = [kword 4, regB a, prnB addr] ++ (bif from_ != 0 then [atB from_] else []) := by kernel_rfl
  have eT : textB ⟨4, op, d, a, b, addr, to_, word, from_⟩ = joinB (wordsOf ⟨4, op, d, a, b, addr, to_, word, from_⟩) := rfl
  rw [eW] at eT
  clear eW
  rw [eT]
  clear eT
  conv => whnf
  refine CutL.by (fun _ : Unit => ⟨[(1, .ptr 0 0), (3, .ptr 1 0)], [(0, .cells 37 [.tr (tu 4), .tr (tu op), .tr (ti d), .tr (ti a), .tr (ti b), .tr (ti addr), .tr (ti to_), .tr (ti word), .tr (ti from_)]), (1, wrB ⟨4, op, d, a, b, addr, to_, word, from_⟩ 2 []), (2, wdB [])], 10⟩) (fun _ => True) ?_ ?_
  · conv => whnf
    exact ⟨(), [0, 4], [2], Sub.mk' rfl aut (by repeat' (first | exact trivial | exact Or.inl rfl | exact rfl | exact ⟨_, _, _, rfl, Nat.zero_lt_one⟩ | apply And.intro)) rfl rfl, trivial⟩
  rintro _ - -
  conv => whnf
  refine acall.pure _ (hf) rfl rfl fun _ => ?_
  conv => whnf
  refine csplit (fun _ => ?_) (fun hs => Bool.noConfusion (hs.symm.trans (show _ = true by kernel_rfl)))
  conv => whnf
  refine acall.new [1, 2] [] _ _ _ _ (k_say ⟨4, op, d, a, b, addr, to_, word, from_⟩ (kword 4) [] (by simp)) rfl rfl rfl rfl aut aut rfl rfl fun _ => ?_
  conv => whnf
  refine acall.pure _ (hu) rfl rfl fun _ => ?_
  conv => whnf
  refine LoopL.un 5 ?_
  conv => whnf
  refine ⟨by decide, by decide, rfl, by decide, fun a ha => ?_⟩
  cases ha
  conv => whnf
  refine acall.new [1, 25] [] _ _ _ _ (k_w_a ⟨4, op, d, a, b, addr, to_, word, from_⟩ [kword 4] (by simp)) rfl rfl rfl rfl aut aut rfl rfl fun _ => ?_
  conv => whnf
  refine ⟨by decide, by decide, rfl, by decide, fun a ha => ?_⟩
  cases ha
  conv => whnf
  refine acall.new [1, 53] [] _ _ _ _ (k_w_addr ⟨4, op, d, a, b, addr, to_, word, from_⟩ [kword 4, regB a] (by simp)) rfl rfl rfl rfl aut aut rfl rfl fun _ => ?_
  conv => whnf
  refine ⟨by decide, by decide, rfl, by decide, fun a ha => ?_⟩
  cases ha
  conv => whnf
  refine ⟨fun h => absurd h (by decide), fun _ => ?_⟩
  conv => whnf
  refine ⟨fun _ => ?_, fun h => absurd rfl h⟩
  conv => whnf
  refine ⟨by decide, by decide, rfl, by decide, fun a ha => ?_⟩
  cases ha
  conv => whnf
  refine ⟨fun h => absurd h (by decide), fun _ => ?_⟩
  conv => whnf
  refine ⟨fun _ => ?_, fun h => absurd rfl h⟩
  conv => whnf
  refine ⟨fun _ => ?_, fun h => absurd rfl h⟩
  conv => whnf
  refine csplit (fun hfr => ?_) (fun hfr => ?_)
  · have hpl := prn_len hi.from_.1 hi.from_.2
    conv => whnf
    refine acall.pure _ (k_itoa from_) rfl rfl fun _ => ?_
    conv => whnf
    refine ⟨by show (⟨#[64]⟩ : ByteArray).size + (prnB from_).size ≤ _; have : (⟨#[64]⟩ : ByteArray).size = 1 := rfl; have : (prnB from_).size ≤ 21 := hpl; omega, ?_⟩
    conv => whnf
    refine acall.new [1, 77] [] _ _ _ _ (k_say ⟨4, op, d, a, b, addr, to_, word, from_⟩ (atB from_) [kword 4, regB a, prnB addr] (by simp)) rfl rfl rfl rfl aut aut rfl rfl fun _ => ?_
    conv => whnf
    refine acall.gen [] [135] _ _ _ _ (k_join [kword 4, regB a, prnB addr, atB from_] (Nat.le_trans (joinL_le (fun x hx => ?_) (by simp)) (by omega))) rfl rfl rfl rfl ⟨⟨rfl, Nat.le_refl _, rfl⟩, .inl rfl, trivial⟩ trivial rfl rfl fun _ => ?_
    · simp only [List.mem_cons, List.not_mem_nil, or_false] at hx
      rcases hx with rfl | rfl | rfl | rfl
      all_goals first | decide | exact op_len40 _ | exact reg_len hi.d | exact reg_len hi.a | exact reg_len hi.b | exact prn_len40 hi.addr | exact prn_len40 hi.to_ | exact prn_len40 hi.word | exact at_len hi.from_
    conv => whnf
    exact ⟨.inl (congrArg (fun l => ts (joinB l)) (by rw [hfr]; rfl)), trivial⟩
  · conv => whnf
    refine acall.gen [] [77] _ _ _ _ (k_join [kword 4, regB a, prnB addr] (Nat.le_trans (joinL_le (fun x hx => ?_) (by simp)) (by omega))) rfl rfl rfl rfl ⟨⟨rfl, Nat.le_refl _, rfl⟩, .inl rfl, trivial⟩ trivial rfl rfl fun _ => ?_
    · simp only [List.mem_cons, List.not_mem_nil, or_false] at hx
      rcases hx with rfl | rfl | rfl
      all_goals first | decide | exact op_len40 _ | exact reg_len hi.d | exact reg_len hi.a | exact reg_len hi.b | exact prn_len40 hi.addr | exact prn_len40 hi.to_ | exact prn_len40 hi.word | exact at_len hi.from_
    conv => whnf
    exact ⟨.inl (congrArg (fun l => ts (joinB l)) (by rw [hfr]; rfl)), trivial⟩
set_option maxRecDepth 100000 in
set_option maxHeartbeats 2000000 in
theorem k_text5 {op d a b addr to_ word from_ : Int} (hi : IOk ⟨5, op, d, a, b, addr, to_, word, from_⟩) : K 44 [Ins.av ⟨5, op, d, a, b, addr, to_, word, from_⟩] [] (.ret (.tr (ts (textB ⟨5, op, d, a, b, addr, to_, word, from_⟩)))) [] := by
  refine Ctr.cut [2] hT hmix Tryd.func44 rfl (fun _ _ => by kernel_rfl) rfl fun hok => ?_
  clear hok
  have hu := k_used ⟨5, op, d, a, b, addr, to_, word, from_⟩
  have hf := k_forms 5
  have e : usedM 5 op = 18 := rfl
  simp only [e] at hu
  clear e
  have eW : wordsOf ⟨5, op, d, a, b, addr, to_, word, from_⟩ = [kword 5, regB d, prnB addr] ++ (bif from_ != 0 then [atB from_] else []) := by kernel_rfl
  have eT : textB ⟨5, op, d, a, b, addr, to_, word, from_⟩ = joinB (wordsOf ⟨5, op, d, a, b, addr, to_, word, from_⟩) := rfl
  rw [eW] at eT
  clear eW
  rw [eT]
  clear eT
  conv => whnf
  refine CutL.by (fun _ : Unit => ⟨[(1, .ptr 0 0), (3, .ptr 1 0)], [(0, .cells 37 [.tr (tu 5), .tr (tu op), .tr (ti d), .tr (ti a), .tr (ti b), .tr (ti addr), .tr (ti to_), .tr (ti word), .tr (ti from_)]), (1, wrB ⟨5, op, d, a, b, addr, to_, word, from_⟩ 2 []), (2, wdB [])], 10⟩) (fun _ => True) ?_ ?_
  · conv => whnf
    exact ⟨(), [0, 4], [2], Sub.mk' rfl aut (by repeat' (first | exact trivial | exact Or.inl rfl | exact rfl | exact ⟨_, _, _, rfl, Nat.zero_lt_one⟩ | apply And.intro)) rfl rfl, trivial⟩
  rintro _ - -
  conv => whnf
  refine acall.pure _ (hf) rfl rfl fun _ => ?_
  conv => whnf
  refine csplit (fun _ => ?_) (fun hs => Bool.noConfusion (hs.symm.trans (show _ = true by kernel_rfl)))
  conv => whnf
  refine acall.new [1, 2] [] _ _ _ _ (k_say ⟨5, op, d, a, b, addr, to_, word, from_⟩ (kword 5) [] (by simp)) rfl rfl rfl rfl aut aut rfl rfl fun _ => ?_
  conv => whnf
  refine acall.pure _ (hu) rfl rfl fun _ => ?_
  conv => whnf
  refine LoopL.un 5 ?_
  conv => whnf
  refine ⟨by decide, by decide, rfl, by decide, fun a ha => ?_⟩
  cases ha
  conv => whnf
  refine acall.new [1, 25] [] _ _ _ _ (k_w_d ⟨5, op, d, a, b, addr, to_, word, from_⟩ [kword 5] (by simp)) rfl rfl rfl rfl aut aut rfl rfl fun _ => ?_
  conv => whnf
  refine ⟨by decide, by decide, rfl, by decide, fun a ha => ?_⟩
  cases ha
  conv => whnf
  refine acall.new [1, 51] [] _ _ _ _ (k_w_addr ⟨5, op, d, a, b, addr, to_, word, from_⟩ [kword 5, regB d] (by simp)) rfl rfl rfl rfl aut aut rfl rfl fun _ => ?_
  conv => whnf
  refine ⟨by decide, by decide, rfl, by decide, fun a ha => ?_⟩
  cases ha
  conv => whnf
  refine ⟨fun h => absurd h (by decide), fun _ => ?_⟩
  conv => whnf
  refine ⟨fun _ => ?_, fun h => absurd rfl h⟩
  conv => whnf
  refine ⟨by decide, by decide, rfl, by decide, fun a ha => ?_⟩
  cases ha
  conv => whnf
  refine ⟨fun h => absurd h (by decide), fun _ => ?_⟩
  conv => whnf
  refine ⟨fun _ => ?_, fun h => absurd rfl h⟩
  conv => whnf
  refine ⟨fun _ => ?_, fun h => absurd rfl h⟩
  conv => whnf
  refine csplit (fun hfr => ?_) (fun hfr => ?_)
  · have hpl := prn_len hi.from_.1 hi.from_.2
    conv => whnf
    refine acall.pure _ (k_itoa from_) rfl rfl fun _ => ?_
    conv => whnf
    refine ⟨by show (⟨#[64]⟩ : ByteArray).size + (prnB from_).size ≤ _; have : (⟨#[64]⟩ : ByteArray).size = 1 := rfl; have : (prnB from_).size ≤ 21 := hpl; omega, ?_⟩
    conv => whnf
    refine acall.new [1, 75] [] _ _ _ _ (k_say ⟨5, op, d, a, b, addr, to_, word, from_⟩ (atB from_) [kword 5, regB d, prnB addr] (by simp)) rfl rfl rfl rfl aut aut rfl rfl fun _ => ?_
    conv => whnf
    refine acall.gen [] [133] _ _ _ _ (k_join [kword 5, regB d, prnB addr, atB from_] (Nat.le_trans (joinL_le (fun x hx => ?_) (by simp)) (by omega))) rfl rfl rfl rfl ⟨⟨rfl, Nat.le_refl _, rfl⟩, .inl rfl, trivial⟩ trivial rfl rfl fun _ => ?_
    · simp only [List.mem_cons, List.not_mem_nil, or_false] at hx
      rcases hx with rfl | rfl | rfl | rfl
      all_goals first | decide | exact op_len40 _ | exact reg_len hi.d | exact reg_len hi.a | exact reg_len hi.b | exact prn_len40 hi.addr | exact prn_len40 hi.to_ | exact prn_len40 hi.word | exact at_len hi.from_
    conv => whnf
    exact ⟨.inl (congrArg (fun l => ts (joinB l)) (by rw [hfr]; rfl)), trivial⟩
  · conv => whnf
    refine acall.gen [] [75] _ _ _ _ (k_join [kword 5, regB d, prnB addr] (Nat.le_trans (joinL_le (fun x hx => ?_) (by simp)) (by omega))) rfl rfl rfl rfl ⟨⟨rfl, Nat.le_refl _, rfl⟩, .inl rfl, trivial⟩ trivial rfl rfl fun _ => ?_
    · simp only [List.mem_cons, List.not_mem_nil, or_false] at hx
      rcases hx with rfl | rfl | rfl
      all_goals first | decide | exact op_len40 _ | exact reg_len hi.d | exact reg_len hi.a | exact reg_len hi.b | exact prn_len40 hi.addr | exact prn_len40 hi.to_ | exact prn_len40 hi.word | exact at_len hi.from_
    conv => whnf
    exact ⟨.inl (congrArg (fun l => ts (joinB l)) (by rw [hfr]; rfl)), trivial⟩
set_option maxRecDepth 100000 in
set_option maxHeartbeats 2000000 in
theorem k_text6 {op d a b addr to_ word from_ : Int} (hi : IOk ⟨6, op, d, a, b, addr, to_, word, from_⟩) : K 44 [Ins.av ⟨6, op, d, a, b, addr, to_, word, from_⟩] [] (.ret (.tr (ts (textB ⟨6, op, d, a, b, addr, to_, word, from_⟩)))) [] := by
  refine Ctr.cut [2] hT hmix Tryd.func44 rfl (fun _ _ => by kernel_rfl) rfl fun hok => ?_
  clear hok
  have hu := k_used ⟨6, op, d, a, b, addr, to_, word, from_⟩
  have hf := k_forms 6
  have e : usedM 6 op = 0 := rfl
  simp only [e] at hu
  clear e
  have eW : wordsOf ⟨6, op, d, a, b, addr, to_, word, from_⟩ = [kword 6] ++ (bif from_ != 0 then [atB from_] else []) := by kernel_rfl
  have eT : textB ⟨6, op, d, a, b, addr, to_, word, from_⟩ = joinB (wordsOf ⟨6, op, d, a, b, addr, to_, word, from_⟩) := rfl
  rw [eW] at eT
  clear eW
  rw [eT]
  clear eT
  conv => whnf
  refine CutL.by (fun _ : Unit => ⟨[(1, .ptr 0 0), (3, .ptr 1 0)], [(0, .cells 37 [.tr (tu 6), .tr (tu op), .tr (ti d), .tr (ti a), .tr (ti b), .tr (ti addr), .tr (ti to_), .tr (ti word), .tr (ti from_)]), (1, wrB ⟨6, op, d, a, b, addr, to_, word, from_⟩ 2 []), (2, wdB [])], 10⟩) (fun _ => True) ?_ ?_
  · conv => whnf
    exact ⟨(), [0, 4], [2], Sub.mk' rfl aut (by repeat' (first | exact trivial | exact Or.inl rfl | exact rfl | exact ⟨_, _, _, rfl, Nat.zero_lt_one⟩ | apply And.intro)) rfl rfl, trivial⟩
  rintro _ - -
  conv => whnf
  refine acall.pure _ (hf) rfl rfl fun _ => ?_
  conv => whnf
  refine csplit (fun _ => ?_) (fun hs => Bool.noConfusion (hs.symm.trans (show _ = true by kernel_rfl)))
  conv => whnf
  refine acall.new [1, 2] [] _ _ _ _ (k_say ⟨6, op, d, a, b, addr, to_, word, from_⟩ (kword 6) [] (by simp)) rfl rfl rfl rfl aut aut rfl rfl fun _ => ?_
  conv => whnf
  refine acall.pure _ (hu) rfl rfl fun _ => ?_
  conv => whnf
  refine LoopL.un 5 ?_
  conv => whnf
  refine ⟨by decide, by decide, rfl, by decide, fun a ha => ?_⟩
  cases ha
  conv => whnf
  refine ⟨fun h => absurd h (by decide), fun _ => ?_⟩
  conv => whnf
  refine ⟨fun _ => ?_, fun h => absurd rfl h⟩
  conv => whnf
  refine ⟨by decide, by decide, rfl, by decide, fun a ha => ?_⟩
  cases ha
  conv => whnf
  refine ⟨fun h => absurd h (by decide), fun _ => ?_⟩
  conv => whnf
  refine ⟨fun _ => ?_, fun h => absurd rfl h⟩
  conv => whnf
  refine ⟨by decide, by decide, rfl, by decide, fun a ha => ?_⟩
  cases ha
  conv => whnf
  refine ⟨fun h => absurd h (by decide), fun _ => ?_⟩
  conv => whnf
  refine ⟨fun _ => ?_, fun h => absurd rfl h⟩
  conv => whnf
  refine ⟨by decide, by decide, rfl, by decide, fun a ha => ?_⟩
  cases ha
  conv => whnf
  refine ⟨fun h => absurd h (by decide), fun _ => ?_⟩
  conv => whnf
  refine ⟨fun _ => ?_, fun h => absurd rfl h⟩
  conv => whnf
  refine ⟨fun _ => ?_, fun h => absurd rfl h⟩
  conv => whnf
  refine csplit (fun hfr => ?_) (fun hfr => ?_)
  · have hpl := prn_len hi.from_.1 hi.from_.2
    conv => whnf
    refine acall.pure _ (k_itoa from_) rfl rfl fun _ => ?_
    conv => whnf
    refine ⟨by show (⟨#[64]⟩ : ByteArray).size + (prnB from_).size ≤ _; have : (⟨#[64]⟩ : ByteArray).size = 1 := rfl; have : (prnB from_).size ≤ 21 := hpl; omega, ?_⟩
    conv => whnf
    refine acall.new [1, 25] [] _ _ _ _ (k_say ⟨6, op, d, a, b, addr, to_, word, from_⟩ (atB from_) [kword 6] (by simp)) rfl rfl rfl rfl aut aut rfl rfl fun _ => ?_
    conv => whnf
    refine acall.gen [] [137] _ _ _ _ (k_join [kword 6, atB from_] (Nat.le_trans (joinL_le (fun x hx => ?_) (by simp)) (by omega))) rfl rfl rfl rfl ⟨⟨rfl, Nat.le_refl _, rfl⟩, .inl rfl, trivial⟩ trivial rfl rfl fun _ => ?_
    · simp only [List.mem_cons, List.not_mem_nil, or_false] at hx
      rcases hx with rfl | rfl
      all_goals first | decide | exact op_len40 _ | exact reg_len hi.d | exact reg_len hi.a | exact reg_len hi.b | exact prn_len40 hi.addr | exact prn_len40 hi.to_ | exact prn_len40 hi.word | exact at_len hi.from_
    conv => whnf
    exact ⟨.inl (congrArg (fun l => ts (joinB l)) (by rw [hfr]; rfl)), trivial⟩
  · conv => whnf
    refine acall.gen [] [25] _ _ _ _ (k_join [kword 6] (Nat.le_trans (joinL_le (fun x hx => ?_) (by simp)) (by omega))) rfl rfl rfl rfl ⟨⟨rfl, Nat.le_refl _, rfl⟩, .inl rfl, trivial⟩ trivial rfl rfl fun _ => ?_
    · simp only [List.mem_cons, List.not_mem_nil, or_false] at hx
      rcases hx with rfl
      all_goals first | decide | exact op_len40 _ | exact reg_len hi.d | exact reg_len hi.a | exact reg_len hi.b | exact prn_len40 hi.addr | exact prn_len40 hi.to_ | exact prn_len40 hi.word | exact at_len hi.from_
    conv => whnf
    exact ⟨.inl (congrArg (fun l => ts (joinB l)) (by rw [hfr]; rfl)), trivial⟩
set_option maxRecDepth 100000 in
set_option maxHeartbeats 2000000 in
theorem k_text7 {op d a b addr to_ word from_ : Int} (hi : IOk ⟨7, op, d, a, b, addr, to_, word, from_⟩) : K 44 [Ins.av ⟨7, op, d, a, b, addr, to_, word, from_⟩] [] (.ret (.tr (ts (textB ⟨7, op, d, a, b, addr, to_, word, from_⟩)))) [] := by
  refine Ctr.cut [2] hT hmix Tryd.func44 rfl (fun _ _ => by kernel_rfl) rfl fun hok => ?_
  clear hok
  have hu := k_used ⟨7, op, d, a, b, addr, to_, word, from_⟩
  have hf := k_forms 7
  have e : usedM 7 op = 4 := rfl
  simp only [e] at hu
  clear e
  have eW : wordsOf ⟨7, op, d, a, b, addr, to_, word, from_⟩ = [kword 7, regB a] ++ (bif from_ != 0 then [atB from_] else []) := by kernel_rfl
  have eT : textB ⟨7, op, d, a, b, addr, to_, word, from_⟩ = joinB (wordsOf ⟨7, op, d, a, b, addr, to_, word, from_⟩) := rfl
  rw [eW] at eT
  clear eW
  rw [eT]
  clear eT
  conv => whnf
  refine CutL.by (fun _ : Unit => ⟨[(1, .ptr 0 0), (3, .ptr 1 0)], [(0, .cells 37 [.tr (tu 7), .tr (tu op), .tr (ti d), .tr (ti a), .tr (ti b), .tr (ti addr), .tr (ti to_), .tr (ti word), .tr (ti from_)]), (1, wrB ⟨7, op, d, a, b, addr, to_, word, from_⟩ 2 []), (2, wdB [])], 10⟩) (fun _ => True) ?_ ?_
  · conv => whnf
    exact ⟨(), [0, 4], [2], Sub.mk' rfl aut (by repeat' (first | exact trivial | exact Or.inl rfl | exact rfl | exact ⟨_, _, _, rfl, Nat.zero_lt_one⟩ | apply And.intro)) rfl rfl, trivial⟩
  rintro _ - -
  conv => whnf
  refine acall.pure _ (hf) rfl rfl fun _ => ?_
  conv => whnf
  refine csplit (fun _ => ?_) (fun hs => Bool.noConfusion (hs.symm.trans (show _ = true by kernel_rfl)))
  conv => whnf
  refine acall.new [1, 2] [] _ _ _ _ (k_say ⟨7, op, d, a, b, addr, to_, word, from_⟩ (kword 7) [] (by simp)) rfl rfl rfl rfl aut aut rfl rfl fun _ => ?_
  conv => whnf
  refine acall.pure _ (hu) rfl rfl fun _ => ?_
  conv => whnf
  refine LoopL.un 5 ?_
  conv => whnf
  refine ⟨by decide, by decide, rfl, by decide, fun a ha => ?_⟩
  cases ha
  conv => whnf
  refine acall.new [1, 25] [] _ _ _ _ (k_w_a ⟨7, op, d, a, b, addr, to_, word, from_⟩ [kword 7] (by simp)) rfl rfl rfl rfl aut aut rfl rfl fun _ => ?_
  conv => whnf
  refine ⟨by decide, by decide, rfl, by decide, fun a ha => ?_⟩
  cases ha
  conv => whnf
  refine ⟨fun h => absurd h (by decide), fun _ => ?_⟩
  conv => whnf
  refine ⟨fun _ => ?_, fun h => absurd rfl h⟩
  conv => whnf
  refine ⟨by decide, by decide, rfl, by decide, fun a ha => ?_⟩
  cases ha
  conv => whnf
  refine ⟨fun h => absurd h (by decide), fun _ => ?_⟩
  conv => whnf
  refine ⟨fun _ => ?_, fun h => absurd rfl h⟩
  conv => whnf
  refine ⟨by decide, by decide, rfl, by decide, fun a ha => ?_⟩
  cases ha
  conv => whnf
  refine ⟨fun h => absurd h (by decide), fun _ => ?_⟩
  conv => whnf
  refine ⟨fun _ => ?_, fun h => absurd rfl h⟩
  conv => whnf
  refine ⟨fun _ => ?_, fun h => absurd rfl h⟩
  conv => whnf
  refine csplit (fun hfr => ?_) (fun hfr => ?_)
  · have hpl := prn_len hi.from_.1 hi.from_.2
    conv => whnf
    refine acall.pure _ (k_itoa from_) rfl rfl fun _ => ?_
    conv => whnf
    refine ⟨by show (⟨#[64]⟩ : ByteArray).size + (prnB from_).size ≤ _; have : (⟨#[64]⟩ : ByteArray).size = 1 := rfl; have : (prnB from_).size ≤ 21 := hpl; omega, ?_⟩
    conv => whnf
    refine acall.new [1, 53] [] _ _ _ _ (k_say ⟨7, op, d, a, b, addr, to_, word, from_⟩ (atB from_) [kword 7, regB a] (by simp)) rfl rfl rfl rfl aut aut rfl rfl fun _ => ?_
    conv => whnf
    refine acall.gen [] [134] _ _ _ _ (k_join [kword 7, regB a, atB from_] (Nat.le_trans (joinL_le (fun x hx => ?_) (by simp)) (by omega))) rfl rfl rfl rfl ⟨⟨rfl, Nat.le_refl _, rfl⟩, .inl rfl, trivial⟩ trivial rfl rfl fun _ => ?_
    · simp only [List.mem_cons, List.not_mem_nil, or_false] at hx
      rcases hx with rfl | rfl | rfl
      all_goals first | decide | exact op_len40 _ | exact reg_len hi.d | exact reg_len hi.a | exact reg_len hi.b | exact prn_len40 hi.addr | exact prn_len40 hi.to_ | exact prn_len40 hi.word | exact at_len hi.from_
    conv => whnf
    exact ⟨.inl (congrArg (fun l => ts (joinB l)) (by rw [hfr]; rfl)), trivial⟩
  · conv => whnf
    refine acall.gen [] [53] _ _ _ _ (k_join [kword 7, regB a] (Nat.le_trans (joinL_le (fun x hx => ?_) (by simp)) (by omega))) rfl rfl rfl rfl ⟨⟨rfl, Nat.le_refl _, rfl⟩, .inl rfl, trivial⟩ trivial rfl rfl fun _ => ?_
    · simp only [List.mem_cons, List.not_mem_nil, or_false] at hx
      rcases hx with rfl | rfl
      all_goals first | decide | exact op_len40 _ | exact reg_len hi.d | exact reg_len hi.a | exact reg_len hi.b | exact prn_len40 hi.addr | exact prn_len40 hi.to_ | exact prn_len40 hi.word | exact at_len hi.from_
    conv => whnf
    exact ⟨.inl (congrArg (fun l => ts (joinB l)) (by rw [hfr]; rfl)), trivial⟩
set_option maxRecDepth 100000 in
set_option maxHeartbeats 2000000 in
theorem k_text8 {op d a b addr to_ word from_ : Int} (hi : IOk ⟨8, op, d, a, b, addr, to_, word, from_⟩) : K 44 [Ins.av ⟨8, op, d, a, b, addr, to_, word, from_⟩] [] (.ret (.tr (ts (textB ⟨8, op, d, a, b, addr, to_, word, from_⟩)))) [] := by
  refine Ctr.cut [2] hT hmix Tryd.func44 rfl (fun _ _ => by kernel_rfl) rfl fun hok => ?_
  clear hok
  have hu := k_used ⟨8, op, d, a, b, addr, to_, word, from_⟩
  have hf := k_forms 8
  have e : usedM 8 op = 32 := rfl
  simp only [e] at hu
  clear e
  have eW : wordsOf ⟨8, op, d, a, b, addr, to_, word, from_⟩ = [kword 8, prnB to_] ++ (bif from_ != 0 then [atB from_] else []) := by kernel_rfl
  have eT : textB ⟨8, op, d, a, b, addr, to_, word, from_⟩ = joinB (wordsOf ⟨8, op, d, a, b, addr, to_, word, from_⟩) := rfl
  rw [eW] at eT
  clear eW
  rw [eT]
  clear eT
  conv => whnf
  refine CutL.by (fun _ : Unit => ⟨[(1, .ptr 0 0), (3, .ptr 1 0)], [(0, .cells 37 [.tr (tu 8), .tr (tu op), .tr (ti d), .tr (ti a), .tr (ti b), .tr (ti addr), .tr (ti to_), .tr (ti word), .tr (ti from_)]), (1, wrB ⟨8, op, d, a, b, addr, to_, word, from_⟩ 2 []), (2, wdB [])], 10⟩) (fun _ => True) ?_ ?_
  · conv => whnf
    exact ⟨(), [0, 4], [2], Sub.mk' rfl aut (by repeat' (first | exact trivial | exact Or.inl rfl | exact rfl | exact ⟨_, _, _, rfl, Nat.zero_lt_one⟩ | apply And.intro)) rfl rfl, trivial⟩
  rintro _ - -
  conv => whnf
  refine acall.pure _ (hf) rfl rfl fun _ => ?_
  conv => whnf
  refine csplit (fun _ => ?_) (fun hs => Bool.noConfusion (hs.symm.trans (show _ = true by kernel_rfl)))
  conv => whnf
  refine acall.new [1, 2] [] _ _ _ _ (k_say ⟨8, op, d, a, b, addr, to_, word, from_⟩ (kword 8) [] (by simp)) rfl rfl rfl rfl aut aut rfl rfl fun _ => ?_
  conv => whnf
  refine acall.pure _ (hu) rfl rfl fun _ => ?_
  conv => whnf
  refine LoopL.un 5 ?_
  conv => whnf
  refine ⟨by decide, by decide, rfl, by decide, fun a ha => ?_⟩
  cases ha
  conv => whnf
  refine acall.new [1, 25] [] _ _ _ _ (k_w_to ⟨8, op, d, a, b, addr, to_, word, from_⟩ [kword 8] (by simp)) rfl rfl rfl rfl aut aut rfl rfl fun _ => ?_
  conv => whnf
  refine ⟨by decide, by decide, rfl, by decide, fun a ha => ?_⟩
  cases ha
  conv => whnf
  refine ⟨fun h => absurd h (by decide), fun _ => ?_⟩
  conv => whnf
  refine ⟨fun _ => ?_, fun h => absurd rfl h⟩
  conv => whnf
  refine ⟨by decide, by decide, rfl, by decide, fun a ha => ?_⟩
  cases ha
  conv => whnf
  refine ⟨fun h => absurd h (by decide), fun _ => ?_⟩
  conv => whnf
  refine ⟨fun _ => ?_, fun h => absurd rfl h⟩
  conv => whnf
  refine ⟨by decide, by decide, rfl, by decide, fun a ha => ?_⟩
  cases ha
  conv => whnf
  refine ⟨fun h => absurd h (by decide), fun _ => ?_⟩
  conv => whnf
  refine ⟨fun _ => ?_, fun h => absurd rfl h⟩
  conv => whnf
  refine ⟨fun _ => ?_, fun h => absurd rfl h⟩
  conv => whnf
  refine csplit (fun hfr => ?_) (fun hfr => ?_)
  · have hpl := prn_len hi.from_.1 hi.from_.2
    conv => whnf
    refine acall.pure _ (k_itoa from_) rfl rfl fun _ => ?_
    conv => whnf
    refine ⟨by show (⟨#[64]⟩ : ByteArray).size + (prnB from_).size ≤ _; have : (⟨#[64]⟩ : ByteArray).size = 1 := rfl; have : (prnB from_).size ≤ 21 := hpl; omega, ?_⟩
    conv => whnf
    refine acall.new [1, 59] [] _ _ _ _ (k_say ⟨8, op, d, a, b, addr, to_, word, from_⟩ (atB from_) [kword 8, prnB to_] (by simp)) rfl rfl rfl rfl aut aut rfl rfl fun _ => ?_
    conv => whnf
    refine acall.gen [] [140] _ _ _ _ (k_join [kword 8, prnB to_, atB from_] (Nat.le_trans (joinL_le (fun x hx => ?_) (by simp)) (by omega))) rfl rfl rfl rfl ⟨⟨rfl, Nat.le_refl _, rfl⟩, .inl rfl, trivial⟩ trivial rfl rfl fun _ => ?_
    · simp only [List.mem_cons, List.not_mem_nil, or_false] at hx
      rcases hx with rfl | rfl | rfl
      all_goals first | decide | exact op_len40 _ | exact reg_len hi.d | exact reg_len hi.a | exact reg_len hi.b | exact prn_len40 hi.addr | exact prn_len40 hi.to_ | exact prn_len40 hi.word | exact at_len hi.from_
    conv => whnf
    exact ⟨.inl (congrArg (fun l => ts (joinB l)) (by rw [hfr]; rfl)), trivial⟩
  · conv => whnf
    refine acall.gen [] [59] _ _ _ _ (k_join [kword 8, prnB to_] (Nat.le_trans (joinL_le (fun x hx => ?_) (by simp)) (by omega))) rfl rfl rfl rfl ⟨⟨rfl, Nat.le_refl _, rfl⟩, .inl rfl, trivial⟩ trivial rfl rfl fun _ => ?_
    · simp only [List.mem_cons, List.not_mem_nil, or_false] at hx
      rcases hx with rfl | rfl
      all_goals first | decide | exact op_len40 _ | exact reg_len hi.d | exact reg_len hi.a | exact reg_len hi.b | exact prn_len40 hi.addr | exact prn_len40 hi.to_ | exact prn_len40 hi.word | exact at_len hi.from_
    conv => whnf
    exact ⟨.inl (congrArg (fun l => ts (joinB l)) (by rw [hfr]; rfl)), trivial⟩
set_option maxRecDepth 100000 in
set_option maxHeartbeats 2000000 in
theorem k_text9 {op d a b addr to_ word from_ : Int} (hi : IOk ⟨9, op, d, a, b, addr, to_, word, from_⟩) : K 44 [Ins.av ⟨9, op, d, a, b, addr, to_, word, from_⟩] [] (.ret (.tr (ts (textB ⟨9, op, d, a, b, addr, to_, word, from_⟩)))) [] := by
  refine Ctr.cut [2] hT hmix Tryd.func44 rfl (fun _ _ => by kernel_rfl) rfl fun hok => ?_
  clear hok
  have hu := k_used ⟨9, op, d, a, b, addr, to_, word, from_⟩
  have hf := k_forms 9
  have e : usedM 9 op = 36 := rfl
  simp only [e] at hu
  clear e
  have eW : wordsOf ⟨9, op, d, a, b, addr, to_, word, from_⟩ = [kword 9, regB a, prnB to_] ++ (bif from_ != 0 then [atB from_] else []) := by kernel_rfl
  have eT : textB ⟨9, op, d, a, b, addr, to_, word, from_⟩ = joinB (wordsOf ⟨9, op, d, a, b, addr, to_, word, from_⟩) := rfl
  rw [eW] at eT
  clear eW
  rw [eT]
  clear eT
  conv => whnf
  refine CutL.by (fun _ : Unit => ⟨[(1, .ptr 0 0), (3, .ptr 1 0)], [(0, .cells 37 [.tr (tu 9), .tr (tu op), .tr (ti d), .tr (ti a), .tr (ti b), .tr (ti addr), .tr (ti to_), .tr (ti word), .tr (ti from_)]), (1, wrB ⟨9, op, d, a, b, addr, to_, word, from_⟩ 2 []), (2, wdB [])], 10⟩) (fun _ => True) ?_ ?_
  · conv => whnf
    exact ⟨(), [0, 4], [2], Sub.mk' rfl aut (by repeat' (first | exact trivial | exact Or.inl rfl | exact rfl | exact ⟨_, _, _, rfl, Nat.zero_lt_one⟩ | apply And.intro)) rfl rfl, trivial⟩
  rintro _ - -
  conv => whnf
  refine acall.pure _ (hf) rfl rfl fun _ => ?_
  conv => whnf
  refine csplit (fun _ => ?_) (fun hs => Bool.noConfusion (hs.symm.trans (show _ = true by kernel_rfl)))
  conv => whnf
  refine acall.new [1, 2] [] _ _ _ _ (k_say ⟨9, op, d, a, b, addr, to_, word, from_⟩ (kword 9) [] (by simp)) rfl rfl rfl rfl aut aut rfl rfl fun _ => ?_
  conv => whnf
  refine acall.pure _ (hu) rfl rfl fun _ => ?_
  conv => whnf
  refine LoopL.un 5 ?_
  conv => whnf
  refine ⟨by decide, by decide, rfl, by decide, fun a ha => ?_⟩
  cases ha
  conv => whnf
  refine acall.new [1, 25] [] _ _ _ _ (k_w_a ⟨9, op, d, a, b, addr, to_, word, from_⟩ [kword 9] (by simp)) rfl rfl rfl rfl aut aut rfl rfl fun _ => ?_
  conv => whnf
  refine ⟨by decide, by decide, rfl, by decide, fun a ha => ?_⟩
  cases ha
  conv => whnf
  refine acall.new [1, 53] [] _ _ _ _ (k_w_to ⟨9, op, d, a, b, addr, to_, word, from_⟩ [kword 9, regB a] (by simp)) rfl rfl rfl rfl aut aut rfl rfl fun _ => ?_
  conv => whnf
  refine ⟨by decide, by decide, rfl, by decide, fun a ha => ?_⟩
  cases ha
  conv => whnf
  refine ⟨fun h => absurd h (by decide), fun _ => ?_⟩
  conv => whnf
  refine ⟨fun _ => ?_, fun h => absurd rfl h⟩
  conv => whnf
  refine ⟨by decide, by decide, rfl, by decide, fun a ha => ?_⟩
  cases ha
  conv => whnf
  refine ⟨fun h => absurd h (by decide), fun _ => ?_⟩
  conv => whnf
  refine ⟨fun _ => ?_, fun h => absurd rfl h⟩
  conv => whnf
  refine ⟨fun _ => ?_, fun h => absurd rfl h⟩
  conv => whnf
  refine csplit (fun hfr => ?_) (fun hfr => ?_)
  · have hpl := prn_len hi.from_.1 hi.from_.2
    conv => whnf
    refine acall.pure _ (k_itoa from_) rfl rfl fun _ => ?_
    conv => whnf
    refine ⟨by show (⟨#[64]⟩ : ByteArray).size + (prnB from_).size ≤ _; have : (⟨#[64]⟩ : ByteArray).size = 1 := rfl; have : (prnB from_).size ≤ 21 := hpl; omega, ?_⟩
    conv => whnf
    refine acall.new [1, 79] [] _ _ _ _ (k_say ⟨9, op, d, a, b, addr, to_, word, from_⟩ (atB from_) [kword 9, regB a, prnB to_] (by simp)) rfl rfl rfl rfl aut aut rfl rfl fun _ => ?_
    conv => whnf
    refine acall.gen [] [137] _ _ _ _ (k_join [kword 9, regB a, prnB to_, atB from_] (Nat.le_trans (joinL_le (fun x hx => ?_) (by simp)) (by omega))) rfl rfl rfl rfl ⟨⟨rfl, Nat.le_refl _, rfl⟩, .inl rfl, trivial⟩ trivial rfl rfl fun _ => ?_
    · simp only [List.mem_cons, List.not_mem_nil, or_false] at hx
      rcases hx with rfl | rfl | rfl | rfl
      all_goals first | decide | exact op_len40 _ | exact reg_len hi.d | exact reg_len hi.a | exact reg_len hi.b | exact prn_len40 hi.addr | exact prn_len40 hi.to_ | exact prn_len40 hi.word | exact at_len hi.from_
    conv => whnf
    exact ⟨.inl (congrArg (fun l => ts (joinB l)) (by rw [hfr]; rfl)), trivial⟩
  · conv => whnf
    refine acall.gen [] [79] _ _ _ _ (k_join [kword 9, regB a, prnB to_] (Nat.le_trans (joinL_le (fun x hx => ?_) (by simp)) (by omega))) rfl rfl rfl rfl ⟨⟨rfl, Nat.le_refl _, rfl⟩, .inl rfl, trivial⟩ trivial rfl rfl fun _ => ?_
    · simp only [List.mem_cons, List.not_mem_nil, or_false] at hx
      rcases hx with rfl | rfl | rfl
      all_goals first | decide | exact op_len40 _ | exact reg_len hi.d | exact reg_len hi.a | exact reg_len hi.b | exact prn_len40 hi.addr | exact prn_len40 hi.to_ | exact prn_len40 hi.word | exact at_len hi.from_
    conv => whnf
    exact ⟨.inl (congrArg (fun l => ts (joinB l)) (by rw [hfr]; rfl)), trivial⟩
set_option maxRecDepth 100000 in
set_option maxHeartbeats 2000000 in
theorem k_text10 {op d a b addr to_ word from_ : Int} (hi : IOk ⟨10, op, d, a, b, addr, to_, word, from_⟩) : K 44 [Ins.av ⟨10, op, d, a, b, addr, to_, word, from_⟩] [] (.ret (.tr (ts (textB ⟨10, op, d, a, b, addr, to_, word, from_⟩)))) [] := by
  refine Ctr.cut [2] hT hmix Tryd.func44 rfl (fun _ _ => by kernel_rfl) rfl fun hok => ?_
  clear hok
  have hu := k_used ⟨10, op, d, a, b, addr, to_, word, from_⟩
  have hf := k_forms 10
  have e : usedM 10 op = 0 := rfl
  simp only [e] at hu
  clear e
  have eW : wordsOf ⟨10, op, d, a, b, addr, to_, word, from_⟩ = [kword 10] ++ (bif from_ != 0 then [atB from_] else []) := by kernel_rfl
  have eT : textB ⟨10, op, d, a, b, addr, to_, word, from_⟩ = joinB (wordsOf ⟨10, op, d, a, b, addr, to_, word, from_⟩) := rfl
  rw [eW] at eT
  clear eW
  rw [eT]
  clear eT
  conv => whnf
  refine CutL.by (fun _ : Unit => ⟨[(1, .ptr 0 0), (3, .ptr 1 0)], [(0, .cells 37 [.tr (tu 10), .tr (tu op), .tr (ti d), .tr (ti a), .tr (ti b), .tr (ti addr), .tr (ti to_), .tr (ti word), .tr (ti from_)]), (1, wrB ⟨10, op, d, a, b, addr, to_, word, from_⟩ 2 []), (2, wdB [])], 10⟩) (fun _ => True) ?_ ?_
  · conv => whnf
    exact ⟨(), [0, 4], [2], Sub.mk' rfl aut (by repeat' (first | exact trivial | exact Or.inl rfl | exact rfl | exact ⟨_, _, _, rfl, Nat.zero_lt_one⟩ | apply And.intro)) rfl rfl, trivial⟩
  rintro _ - -
  conv => whnf
  refine acall.pure _ (hf) rfl rfl fun _ => ?_
  conv => whnf
  refine csplit (fun _ => ?_) (fun hs => Bool.noConfusion (hs.symm.trans (show _ = true by kernel_rfl)))
  conv => whnf
  refine acall.new [1, 2] [] _ _ _ _ (k_say ⟨10, op, d, a, b, addr, to_, word, from_⟩ (kword 10) [] (by simp)) rfl rfl rfl rfl aut aut rfl rfl fun _ => ?_
  conv => whnf
  refine acall.pure _ (hu) rfl rfl fun _ => ?_
  conv => whnf
  refine LoopL.un 5 ?_
  conv => whnf
  refine ⟨by decide, by decide, rfl, by decide, fun a ha => ?_⟩
  cases ha
  conv => whnf
  refine ⟨fun h => absurd h (by decide), fun _ => ?_⟩
  conv => whnf
  refine ⟨fun _ => ?_, fun h => absurd rfl h⟩
  conv => whnf
  refine ⟨by decide, by decide, rfl, by decide, fun a ha => ?_⟩
  cases ha
  conv => whnf
  refine ⟨fun h => absurd h (by decide), fun _ => ?_⟩
  conv => whnf
  refine ⟨fun _ => ?_, fun h => absurd rfl h⟩
  conv => whnf
  refine ⟨by decide, by decide, rfl, by decide, fun a ha => ?_⟩
  cases ha
  conv => whnf
  refine ⟨fun h => absurd h (by decide), fun _ => ?_⟩
  conv => whnf
  refine ⟨fun _ => ?_, fun h => absurd rfl h⟩
  conv => whnf
  refine ⟨by decide, by decide, rfl, by decide, fun a ha => ?_⟩
  cases ha
  conv => whnf
  refine ⟨fun h => absurd h (by decide), fun _ => ?_⟩
  conv => whnf
  refine ⟨fun _ => ?_, fun h => absurd rfl h⟩
  conv => whnf
  refine ⟨fun _ => ?_, fun h => absurd rfl h⟩
  conv => whnf
  refine csplit (fun hfr => ?_) (fun hfr => ?_)
  · have hpl := prn_len hi.from_.1 hi.from_.2
    conv => whnf
    refine acall.pure _ (k_itoa from_) rfl rfl fun _ => ?_
    conv => whnf
    refine ⟨by show (⟨#[64]⟩ : ByteArray).size + (prnB from_).size ≤ _; have : (⟨#[64]⟩ : ByteArray).size = 1 := rfl; have : (prnB from_).size ≤ 21 := hpl; omega, ?_⟩
    conv => whnf
    refine acall.new [1, 25] [] _ _ _ _ (k_say ⟨10, op, d, a, b, addr, to_, word, from_⟩ (atB from_) [kword 10] (by simp)) rfl rfl rfl rfl aut aut rfl rfl fun _ => ?_
    conv => whnf
    refine acall.gen [] [137] _ _ _ _ (k_join [kword 10, atB from_] (Nat.le_trans (joinL_le (fun x hx => ?_) (by simp)) (by omega))) rfl rfl rfl rfl ⟨⟨rfl, Nat.le_refl _, rfl⟩, .inl rfl, trivial⟩ trivial rfl rfl fun _ => ?_
    · simp only [List.mem_cons, List.not_mem_nil, or_false] at hx
      rcases hx with rfl | rfl
      all_goals first | decide | exact op_len40 _ | exact reg_len hi.d | exact reg_len hi.a | exact reg_len hi.b | exact prn_len40 hi.addr | exact prn_len40 hi.to_ | exact prn_len40 hi.word | exact at_len hi.from_
    conv => whnf
    exact ⟨.inl (congrArg (fun l => ts (joinB l)) (by rw [hfr]; rfl)), trivial⟩
  · conv => whnf
    refine acall.gen [] [25] _ _ _ _ (k_join [kword 10] (Nat.le_trans (joinL_le (fun x hx => ?_) (by simp)) (by omega))) rfl rfl rfl rfl ⟨⟨rfl, Nat.le_refl _, rfl⟩, .inl rfl, trivial⟩ trivial rfl rfl fun _ => ?_
    · simp only [List.mem_cons, List.not_mem_nil, or_false] at hx
      rcases hx with rfl
      all_goals first | decide | exact op_len40 _ | exact reg_len hi.d | exact reg_len hi.a | exact reg_len hi.b | exact prn_len40 hi.addr | exact prn_len40 hi.to_ | exact prn_len40 hi.word | exact at_len hi.from_
    conv => whnf
    exact ⟨.inl (congrArg (fun l => ts (joinB l)) (by rw [hfr]; rfl)), trivial⟩
set_option maxRecDepth 100000 in
set_option maxHeartbeats 2000000 in
theorem k_text11 {kind op d a b addr to_ word from_ : Int} (hk : 11 ≤ kind) (hi : IOk ⟨kind, op, d, a, b, addr, to_, word, from_⟩) : K 44 [Ins.av ⟨kind, op, d, a, b, addr, to_, word, from_⟩] [] (.ret (.tr (ts (textB ⟨kind, op, d, a, b, addr, to_, word, from_⟩)))) [] := by
  refine Ctr.cut [2] hT hmix Tryd.func44 rfl (fun _ _ => by kernel_rfl) rfl fun hok => ?_
  clear hok
  have hu := k_used ⟨kind, op, d, a, b, addr, to_, word, from_⟩
  obtain ⟨W, hW⟩ : ∃ W, W = kword 0 := ⟨_, rfl⟩
  have hf : K 37 [.tr (tu kind)] [] (.ret (.tup [.agg [.tr (ts W), .tr (tu 0), .tr (tu 0), .tr (tu 0), .tr (tu 0)], .tr (tb (kok kind))])) [] := by rw [hW]; have := k_forms kind; rw [form_big hk] at this; exact this
  have e : usedM kind op = 0 := by unfold usedM; rw [show (kind == 2) = false from beq_eq_false_iff_ne.2 (by omega), kmask_big hk]; rfl
  simp only [e] at hu
  clear e
  have eW : wordsOf ⟨kind, op, d, a, b, addr, to_, word, from_⟩ = (bif from_ != 0 then [atB from_] else []) := by
    unfold wordsOf fieldsW
    simp only [show (kind == 2) = false from beq_eq_false_iff_ne.2 (by omega), show kword kind = ⟨#[]⟩ from byK_big rfl hk, show kuse kind = [0, 0, 0, 0] from byK_big rfl hk]; kernel_rfl
  have eT : textB ⟨kind, op, d, a, b, addr, to_, word, from_⟩ = joinB (wordsOf ⟨kind, op, d, a, b, addr, to_, word, from_⟩) := rfl
  rw [eW] at eT
  clear eW
  rw [eT]
  clear eT
  conv => whnf
  refine CutL.by (fun _ : Unit => ⟨[(1, .ptr 0 0), (3, .ptr 1 0)], [(0, .cells 37 [.tr (tu kind), .tr (tu op), .tr (ti d), .tr (ti a), .tr (ti b), .tr (ti addr), .tr (ti to_), .tr (ti word), .tr (ti from_)]), (1, wrB ⟨kind, op, d, a, b, addr, to_, word, from_⟩ 2 []), (2, wdB [])], 10⟩) (fun _ => True) ?_ ?_
  · conv => whnf
    exact ⟨(), [0, 4], [2], Sub.mk' rfl aut (by repeat' (first | exact trivial | exact Or.inl rfl | exact rfl | exact ⟨_, _, _, rfl, Nat.zero_lt_one⟩ | apply And.intro)) rfl rfl, trivial⟩
  rintro _ - -
  conv => whnf
  refine acall.pure _ (hf) rfl rfl fun _ => ?_
  conv => whnf
  refine csplit (fun hs => by rw [hW] at hs; exact Bool.noConfusion (hs.symm.trans (show _ = false by kernel_rfl))) (fun _ => ?_)
  conv => whnf
  refine acall.pure _ (hu) rfl rfl fun _ => ?_
  conv => whnf
  refine LoopL.un 5 ?_
  conv => whnf
  refine ⟨by decide, by decide, rfl, by decide, fun a ha => ?_⟩
  cases ha
  conv => whnf
  refine ⟨fun h => absurd h (by decide), fun _ => ?_⟩
  conv => whnf
  refine ⟨fun _ => ?_, fun h => absurd rfl h⟩
  conv => whnf
  refine ⟨by decide, by decide, rfl, by decide, fun a ha => ?_⟩
  cases ha
  conv => whnf
  refine ⟨fun h => absurd h (by decide), fun _ => ?_⟩
  conv => whnf
  refine ⟨fun _ => ?_, fun h => absurd rfl h⟩
  conv => whnf
  refine ⟨by decide, by decide, rfl, by decide, fun a ha => ?_⟩
  cases ha
  conv => whnf
  refine ⟨fun h => absurd h (by decide), fun _ => ?_⟩
  conv => whnf
  refine ⟨fun _ => ?_, fun h => absurd rfl h⟩
  conv => whnf
  refine ⟨by decide, by decide, rfl, by decide, fun a ha => ?_⟩
  cases ha
  conv => whnf
  refine ⟨fun h => absurd h (by decide), fun _ => ?_⟩
  conv => whnf
  refine ⟨fun _ => ?_, fun h => absurd rfl h⟩
  conv => whnf
  refine ⟨fun _ => ?_, fun h => absurd rfl h⟩
  conv => whnf
  refine csplit (fun hfr => ?_) (fun hfr => ?_)
  · have hpl := prn_len hi.from_.1 hi.from_.2
    conv => whnf
    refine acall.pure _ (k_itoa from_) rfl rfl fun _ => ?_
    conv => whnf
    refine ⟨by show (⟨#[64]⟩ : ByteArray).size + (prnB from_).size ≤ _; have : (⟨#[64]⟩ : ByteArray).size = 1 := rfl; have : (prnB from_).size ≤ 21 := hpl; omega, ?_⟩
    conv => whnf
    refine acall.new [1, 2] [] _ _ _ _ (k_say ⟨kind, op, d, a, b, addr, to_, word, from_⟩ (atB from_) [] (by simp)) rfl rfl rfl rfl aut aut rfl rfl fun _ => ?_
    conv => whnf
    refine acall.gen [] [133] _ _ _ _ (k_join [atB from_] (Nat.le_trans (joinL_le (fun x hx => ?_) (by simp)) (by omega))) rfl rfl rfl rfl ⟨⟨rfl, Nat.le_refl _, rfl⟩, .inl rfl, trivial⟩ trivial rfl rfl fun _ => ?_
    · simp only [List.mem_cons, List.not_mem_nil, or_false] at hx
      rcases hx with rfl
      all_goals first | decide | exact op_len40 _ | exact reg_len hi.d | exact reg_len hi.a | exact reg_len hi.b | exact prn_len40 hi.addr | exact prn_len40 hi.to_ | exact prn_len40 hi.word | exact at_len hi.from_
    conv => whnf
    exact ⟨.inl (congrArg (fun l => ts (joinB l)) (by rw [hfr]; rfl)), trivial⟩
  · conv => whnf
    refine acall.gen [] [2] _ _ _ _ (k_join [] (Nat.le_trans (joinL_le (fun x hx => ?_) (by simp)) (by omega))) rfl rfl rfl rfl ⟨⟨rfl, Nat.le_refl _, rfl⟩, .inl rfl, trivial⟩ trivial rfl rfl fun _ => ?_
    · simp only [List.mem_cons, List.not_mem_nil, or_false] at hx
    conv => whnf
    exact ⟨.inl (congrArg (fun l => ts (joinB l)) (by rw [hfr]; rfl)), trivial⟩
set_option maxRecDepth 100000 in
set_option maxHeartbeats 2000000 in
theorem k_text2t {op d a b addr to_ word from_ : Int} (h2 : two op = true) (hi : IOk ⟨2, op, d, a, b, addr, to_, word, from_⟩) : K 44 [Ins.av ⟨2, op, d, a, b, addr, to_, word, from_⟩] [] (.ret (.tr (ts (textB ⟨2, op, d, a, b, addr, to_, word, from_⟩)))) [] := by
  refine Ctr.cut [2] hT hmix Tryd.func44 rfl (fun _ _ => by kernel_rfl) rfl fun hok => ?_
  clear hok
  have hu := k_used ⟨2, op, d, a, b, addr, to_, word, from_⟩
  obtain ⟨W, hW⟩ : ∃ W, W = kword 2 := ⟨_, rfl⟩
  have hf : K 37 [.tr (tu 2)] [] (.ret (.tup [.agg [.tr (ts W), .tr (tu 1), .tr (tu 2), .tr (tu 4), .tr (tu 8)], .tr (tb (kok 2))])) [] := by rw [hW]; exact k_forms 2
  have e : usedM 2 op = 15 := by unfold usedM; rw [h2]; rfl
  simp only [e] at hu
  clear e
  have eW : wordsOf ⟨2, op, d, a, b, addr, to_, word, from_⟩ = [opword op, regB d, regB a, regB b] ++ (bif from_ != 0 then [atB from_] else []) := by unfold wordsOf fieldsW; simp only [h2]; kernel_rfl
  have eT : textB ⟨2, op, d, a, b, addr, to_, word, from_⟩ = joinB (wordsOf ⟨2, op, d, a, b, addr, to_, word, from_⟩) := rfl
  rw [eW] at eT
  clear eW
  rw [eT]
  clear eT
  conv => whnf
  refine CutL.by (fun _ : Unit => ⟨[(1, .ptr 0 0), (3, .ptr 1 0)], [(0, .cells 37 [.tr (tu 2), .tr (tu op), .tr (ti d), .tr (ti a), .tr (ti b), .tr (ti addr), .tr (ti to_), .tr (ti word), .tr (ti from_)]), (1, wrB ⟨2, op, d, a, b, addr, to_, word, from_⟩ 2 []), (2, wdB [])], 10⟩) (fun _ => True) ?_ ?_
  · conv => whnf
    exact ⟨(), [0, 4], [2], Sub.mk' rfl aut (by repeat' (first | exact trivial | exact Or.inl rfl | exact rfl | exact ⟨_, _, _, rfl, Nat.zero_lt_one⟩ | apply And.intro)) rfl rfl, trivial⟩
  rintro _ - -
  conv => whnf
  refine acall.pure _ (hf) rfl rfl fun _ => ?_
  conv => whnf
  refine csplit (fun hs => by rw [hW] at hs; exact Bool.noConfusion (hs.symm.trans (show _ = false by kernel_rfl))) (fun _ => ?_)
  conv => whnf
  refine acall.pure _ (hu) rfl rfl fun _ => ?_
  conv => whnf
  refine LoopL.un 5 ?_
  conv => whnf
  refine ⟨by decide, by decide, rfl, by decide, fun a ha => ?_⟩
  cases ha
  conv => whnf
  refine acall.new [1, 2] [] _ _ _ _ (k_w_op ⟨2, op, d, a, b, addr, to_, word, from_⟩ [] (by simp)) rfl rfl rfl rfl aut aut rfl rfl fun _ => ?_
  conv => whnf
  refine ⟨by decide, by decide, rfl, by decide, fun a ha => ?_⟩
  cases ha
  conv => whnf
  refine acall.new [1, 45] [] _ _ _ _ (k_w_d ⟨2, op, d, a, b, addr, to_, word, from_⟩ [opword op] (by simp)) rfl rfl rfl rfl aut aut rfl rfl fun _ => ?_
  conv => whnf
  refine ⟨by decide, by decide, rfl, by decide, fun a ha => ?_⟩
  cases ha
  conv => whnf
  refine acall.new [1, 63] [] _ _ _ _ (k_w_a ⟨2, op, d, a, b, addr, to_, word, from_⟩ [opword op, regB d] (by simp)) rfl rfl rfl rfl aut aut rfl rfl fun _ => ?_
  conv => whnf
  refine ⟨by decide, by decide, rfl, by decide, fun a ha => ?_⟩
  cases ha
  conv => whnf
  refine acall.new [1, 83] [] _ _ _ _ (k_w_b ⟨2, op, d, a, b, addr, to_, word, from_⟩ [opword op, regB d, regB a] (by simp)) rfl rfl rfl rfl aut aut rfl rfl fun _ => ?_
  conv => whnf
  refine ⟨fun _ => ?_, fun h => absurd rfl h⟩
  conv => whnf
  refine csplit (fun hfr => ?_) (fun hfr => ?_)
  · have hpl := prn_len hi.from_.1 hi.from_.2
    conv => whnf
    refine acall.pure _ (k_itoa from_) rfl rfl fun _ => ?_
    conv => whnf
    refine ⟨by show (⟨#[64]⟩ : ByteArray).size + (prnB from_).size ≤ _; have : (⟨#[64]⟩ : ByteArray).size = 1 := rfl; have : (prnB from_).size ≤ 21 := hpl; omega, ?_⟩
    conv => whnf
    refine acall.new [1, 105] [] _ _ _ _ (k_say ⟨2, op, d, a, b, addr, to_, word, from_⟩ (atB from_) [opword op, regB d, regB a, regB b] (by simp)) rfl rfl rfl rfl aut aut rfl rfl fun _ => ?_
    conv => whnf
    refine acall.gen [] [117] _ _ _ _ (k_join [opword op, regB d, regB a, regB b, atB from_] (Nat.le_trans (joinL_le (fun x hx => ?_) (by simp)) (by omega))) rfl rfl rfl rfl ⟨⟨rfl, Nat.le_refl _, rfl⟩, .inl rfl, trivial⟩ trivial rfl rfl fun _ => ?_
    · simp only [List.mem_cons, List.not_mem_nil, or_false] at hx
      rcases hx with rfl | rfl | rfl | rfl | rfl
      all_goals first | decide | exact op_len40 _ | exact reg_len hi.d | exact reg_len hi.a | exact reg_len hi.b | exact prn_len40 hi.addr | exact prn_len40 hi.to_ | exact prn_len40 hi.word | exact at_len hi.from_
    conv => whnf
    exact ⟨.inl (congrArg (fun l => ts (joinB l)) (by rw [hfr]; rfl)), trivial⟩
  · conv => whnf
    refine acall.gen [] [105] _ _ _ _ (k_join [opword op, regB d, regB a, regB b] (Nat.le_trans (joinL_le (fun x hx => ?_) (by simp)) (by omega))) rfl rfl rfl rfl ⟨⟨rfl, Nat.le_refl _, rfl⟩, .inl rfl, trivial⟩ trivial rfl rfl fun _ => ?_
    · simp only [List.mem_cons, List.not_mem_nil, or_false] at hx
      rcases hx with rfl | rfl | rfl | rfl
      all_goals first | decide | exact op_len40 _ | exact reg_len hi.d | exact reg_len hi.a | exact reg_len hi.b | exact prn_len40 hi.addr | exact prn_len40 hi.to_ | exact prn_len40 hi.word | exact at_len hi.from_
    conv => whnf
    exact ⟨.inl (congrArg (fun l => ts (joinB l)) (by rw [hfr]; rfl)), trivial⟩
set_option maxRecDepth 100000 in
set_option maxHeartbeats 2000000 in
theorem k_text2f {op d a b addr to_ word from_ : Int} (h2 : two op = false) (hi : IOk ⟨2, op, d, a, b, addr, to_, word, from_⟩) : K 44 [Ins.av ⟨2, op, d, a, b, addr, to_, word, from_⟩] [] (.ret (.tr (ts (textB ⟨2, op, d, a, b, addr, to_, word, from_⟩)))) [] := by
  refine Ctr.cut [2] hT hmix Tryd.func44 rfl (fun _ _ => by kernel_rfl) rfl fun hok => ?_
  clear hok
  have hu := k_used ⟨2, op, d, a, b, addr, to_, word, from_⟩
  obtain ⟨W, hW⟩ : ∃ W, W = kword 2 := ⟨_, rfl⟩
  have hf : K 37 [.tr (tu 2)] [] (.ret (.tup [.agg [.tr (ts W), .tr (tu 1), .tr (tu 2), .tr (tu 4), .tr (tu 8)], .tr (tb (kok 2))])) [] := by rw [hW]; exact k_forms 2
  have e : usedM 2 op = 7 := by unfold usedM; rw [h2]; rfl
  simp only [e] at hu
  clear e
  have eW : wordsOf ⟨2, op, d, a, b, addr, to_, word, from_⟩ = [opword op, regB d, regB a] ++ (bif from_ != 0 then [atB from_] else []) := by unfold wordsOf fieldsW; simp only [h2]; kernel_rfl
  have eT : textB ⟨2, op, d, a, b, addr, to_, word, from_⟩ = joinB (wordsOf ⟨2, op, d, a, b, addr, to_, word, from_⟩) := rfl
  rw [eW] at eT
  clear eW
  rw [eT]
  clear eT
  conv => whnf
  refine CutL.by (fun _ : Unit => ⟨[(1, .ptr 0 0), (3, .ptr 1 0)], [(0, .cells 37 [.tr (tu 2), .tr (tu op), .tr (ti d), .tr (ti a), .tr (ti b), .tr (ti addr), .tr (ti to_), .tr (ti word), .tr (ti from_)]), (1, wrB ⟨2, op, d, a, b, addr, to_, word, from_⟩ 2 []), (2, wdB [])], 10⟩) (fun _ => True) ?_ ?_
  · conv => whnf
    exact ⟨(), [0, 4], [2], Sub.mk' rfl aut (by repeat' (first | exact trivial | exact Or.inl rfl | exact rfl | exact ⟨_, _, _, rfl, Nat.zero_lt_one⟩ | apply And.intro)) rfl rfl, trivial⟩
  rintro _ - -
  conv => whnf
  refine acall.pure _ (hf) rfl rfl fun _ => ?_
  conv => whnf
  refine csplit (fun hs => by rw [hW] at hs; exact Bool.noConfusion (hs.symm.trans (show _ = false by kernel_rfl))) (fun _ => ?_)
  conv => whnf
  refine acall.pure _ (hu) rfl rfl fun _ => ?_
  conv => whnf
  refine LoopL.un 5 ?_
  conv => whnf
  refine ⟨by decide, by decide, rfl, by decide, fun a ha => ?_⟩
  cases ha
  conv => whnf
  refine acall.new [1, 2] [] _ _ _ _ (k_w_op ⟨2, op, d, a, b, addr, to_, word, from_⟩ [] (by simp)) rfl rfl rfl rfl aut aut rfl rfl fun _ => ?_
  conv => whnf
  refine ⟨by decide, by decide, rfl, by decide, fun a ha => ?_⟩
  cases ha
  conv => whnf
  refine acall.new [1, 45] [] _ _ _ _ (k_w_d ⟨2, op, d, a, b, addr, to_, word, from_⟩ [opword op] (by simp)) rfl rfl rfl rfl aut aut rfl rfl fun _ => ?_
  conv => whnf
  refine ⟨by decide, by decide, rfl, by decide, fun a ha => ?_⟩
  cases ha
  conv => whnf
  refine acall.new [1, 63] [] _ _ _ _ (k_w_a ⟨2, op, d, a, b, addr, to_, word, from_⟩ [opword op, regB d] (by simp)) rfl rfl rfl rfl aut aut rfl rfl fun _ => ?_
  conv => whnf
  refine ⟨by decide, by decide, rfl, by decide, fun a ha => ?_⟩
  cases ha
  conv => whnf
  refine ⟨fun h => absurd h (by decide), fun _ => ?_⟩
  conv => whnf
  refine ⟨fun _ => ?_, fun h => absurd rfl h⟩
  conv => whnf
  refine ⟨fun _ => ?_, fun h => absurd rfl h⟩
  conv => whnf
  refine csplit (fun hfr => ?_) (fun hfr => ?_)
  · have hpl := prn_len hi.from_.1 hi.from_.2
    conv => whnf
    refine acall.pure _ (k_itoa from_) rfl rfl fun _ => ?_
    conv => whnf
    refine ⟨by show (⟨#[64]⟩ : ByteArray).size + (prnB from_).size ≤ _; have : (⟨#[64]⟩ : ByteArray).size = 1 := rfl; have : (prnB from_).size ≤ 21 := hpl; omega, ?_⟩
    conv => whnf
    refine acall.new [1, 83] [] _ _ _ _ (k_say ⟨2, op, d, a, b, addr, to_, word, from_⟩ (atB from_) [opword op, regB d, regB a] (by simp)) rfl rfl rfl rfl aut aut rfl rfl fun _ => ?_
    conv => whnf
    refine acall.gen [] [118] _ _ _ _ (k_join [opword op, regB d, regB a, atB from_] (Nat.le_trans (joinL_le (fun x hx => ?_) (by simp)) (by omega))) rfl rfl rfl rfl ⟨⟨rfl, Nat.le_refl _, rfl⟩, .inl rfl, trivial⟩ trivial rfl rfl fun _ => ?_
    · simp only [List.mem_cons, List.not_mem_nil, or_false] at hx
      rcases hx with rfl | rfl | rfl | rfl
      all_goals first | decide | exact op_len40 _ | exact reg_len hi.d | exact reg_len hi.a | exact reg_len hi.b | exact prn_len40 hi.addr | exact prn_len40 hi.to_ | exact prn_len40 hi.word | exact at_len hi.from_
    conv => whnf
    exact ⟨.inl (congrArg (fun l => ts (joinB l)) (by rw [hfr]; rfl)), trivial⟩
  · conv => whnf
    refine acall.gen [] [83] _ _ _ _ (k_join [opword op, regB d, regB a] (Nat.le_trans (joinL_le (fun x hx => ?_) (by simp)) (by omega))) rfl rfl rfl rfl ⟨⟨rfl, Nat.le_refl _, rfl⟩, .inl rfl, trivial⟩ trivial rfl rfl fun _ => ?_
    · simp only [List.mem_cons, List.not_mem_nil, or_false] at hx
      rcases hx with rfl | rfl | rfl
      all_goals first | decide | exact op_len40 _ | exact reg_len hi.d | exact reg_len hi.a | exact reg_len hi.b | exact prn_len40 hi.addr | exact prn_len40 hi.to_ | exact prn_len40 hi.word | exact at_len hi.from_
    conv => whnf
    exact ⟨.inl (congrArg (fun l => ts (joinB l)) (by rw [hfr]; rfl)), trivial⟩
theorem k_text (i : Ins) : K 44 [i.av] [] (.ret (.tr (ts (textB i)))) [] := by
  refine Ctr.okd (fun _ _ => by kernel_rfl) fun hok => ?_
  have hi := iok_of (i := i) fun t ht => ((hok _ (.head _)).agg (.tr t) (List.mem_map.2 ⟨t, ht, rfl⟩)).tr
  obtain ⟨kind, op, d, a, b, addr, to_, word, from_⟩ := i
  rcases kcases hi.kind.1 with h | h | h | h | h | h | h | h | h | h | h | h
  case inr.inr.inl =>
    have h : kind = 2 := h
    subst h
    cases h2 : two op with
    | true => exact k_text2t h2 hi
    | false => exact k_text2f h2 hi
  case inr.inr.inr.inr.inr.inr.inr.inr.inr.inr.inr => exact k_text11 h hi
  all_goals
    have h := h
    simp only at h
    subst h
  exact k_text0 hi
  exact k_text1 hi
  exact k_text3 hi
  exact k_text4 hi
  exact k_text5 hi
  exact k_text6 hi
  exact k_text7 hi
  exact k_text8 hi
  exact k_text9 hi
  exact k_text10 hi
end Go.Proofs.YtffhoknkfohfgaaDoor.am

namespace Go.Proofs.YtffhoknkfohfgaaDoor.am
open Go Go.Proofs
def headP (o : Ob) : ByteArray := (⟨#[111, 98, 106, 101, 99, 116, 32]⟩ : ByteArray) ++ prnB o.shared ++ (⟨#[32]⟩ : ByteArray) ++ prnB o.locks ++ (⟨#[32]⟩ : ByteArray) ++ prnB o.buffer ++ (⟨#[10, 109, 101, 109, 111, 114, 121]⟩ : ByteArray)
def memP (w : Int) : List UInt8 := ((⟨#[32]⟩ : ByteArray) ++ prnB w).data.toList
def insP (i : Ins) : List UInt8 := (textB i ++ (⟨#[10]⟩ : ByteArray)).data.toList
def coreP (c : Cor) : List UInt8 := ((⟨#[99, 111, 114, 101, 32]⟩ : ByteArray) ++ c.name ++ (⟨#[10]⟩ : ByteArray)).data.toList ++ c.code.flatMap insP
def prnL (o : Ob) : List UInt8 := (headP o).data.toList ++ o.memory.flatMap memP ++ [10] ++ o.cores.flatMap coreP
def prnO (o : Ob) : ByteArray := ⟨(prnL o).toArray⟩
theorem len_add (l : List UInt8) (s : ByteArray) : l.length + s.size = (l ++ s.data.toList).length := by simp
theorem tail_len2 (n : Nat) (sep : List UInt8) : ∀ r : List (List UInt8), (∀ x ∈ r, x.length ≤ n) → (Lib.joinTail sep r).length ≤ r.length * (sep.length + n)
  | [], _ => by simp [Lib.joinTail]
  | x :: r, h => by
    have h1 := h x (by simp)
    have h2 := tail_len2 n sep r fun y hy => h y (by simp [hy])
    unfold Lib.joinTail at h2 ⊢
    simp only [List.map_cons, List.flatten_cons, List.length_append, List.length_cons]
    rw [Nat.succ_mul]
    omega
theorem joinL_le2 {n : Nat} {l : List ByteArray} (h : ∀ x ∈ l, x.size ≤ n) : (joinL l).length ≤ l.length * (n + 1) := by
  cases l with
  | nil => simp [joinL, Lib.join]
  | cons x r =>
    unfold joinL
    rw [List.map_cons, Lib.join_cons, List.length_append]
    have h1 := h x (by simp)
    have h2 := tail_len2 n [32] (r.map (·.data.toList)) (fun y hy => by
      simp only [List.mem_map] at hy
      obtain ⟨z, hz, rfl⟩ := hy
      have := h z (by simp [hz])
      have e : z.data.toList.length = z.size := by simp
      omega)
    have e : x.data.toList.length = x.size := by simp
    simp only [List.length_map, List.length_cons, List.length_nil] at h2
    rw [List.length_cons, Nat.succ_mul]
    have : r.length * (0 + 1 + n) = r.length * (n + 1) := by rw [show 0 + 1 + n = n + 1 by omega]
    omega
theorem kword_len (k : Int) (hk : 1 ≤ k ∧ k < 11) : (kword k).size ≤ 22 := by
  have hc : k = 1 ∨ k = 2 ∨ k = 3 ∨ k = 4 ∨ k = 5 ∨ k = 6 ∨ k = 7 ∨ k = 8 ∨ k = 9 ∨ k = 10 := by omega
  rcases hc with h | h | h | h | h | h | h | h | h | h <;> (rw [h]; decide)
theorem reg22 {n : Int} (h : -9223372036854775808 ≤ n ∧ n ≤ 9223372036854775807) : (regB n).size ≤ 22 := by
  have := prn_len h.1 h.2
  show (⟨#[114]⟩ ++ prnB n : ByteArray).size ≤ 22
  rw [size_add]
  have : (⟨#[114]⟩ : ByteArray).size = 1 := rfl
  omega
theorem at22 {n : Int} (h : -9223372036854775808 ≤ n ∧ n ≤ 9223372036854775807) : (atB n).size ≤ 22 := by
  have := prn_len h.1 h.2
  show (⟨#[64]⟩ ++ prnB n : ByteArray).size ≤ 22
  rw [size_add]
  have : (⟨#[64]⟩ : ByteArray).size = 1 := rfl
  omega
theorem field22 {i : Ins} (hi : IOk i) (u : Int) (x : ByteArray) (h : fieldW i u = some x) : x.size ≤ 22 := by
  unfold fieldW at h
  have h5 := opword_len i.op
  have ha := prn_len hi.addr.1 hi.addr.2
  have ht := prn_len hi.to_.1 hi.to_.2
  have hw := prn_len hi.word.1 hi.word.2
  cases e1 : (u == 1) <;> rw [e1] at h
  · cases e2 : (u == 2) <;> rw [e2] at h
    · cases e3 : (u == 4) <;> rw [e3] at h
      · cases e4 : (u == 8) <;> rw [e4] at h
        · cases e5 : (u == 16) <;> rw [e5] at h
          · cases e6 : (u == 32) <;> rw [e6] at h
            · cases e7 : (u == 64) <;> rw [e7] at h
              · cases h
              · cases h; omega
            · cases h; omega
          · cases h; omega
        · cases h; exact reg22 hi.b
      · cases h; exact reg22 hi.a
    · cases h; exact reg22 hi.d
  · cases h; omega
theorem fieldsW_le {i : Ins} (hi : IOk i) : ∀ x ∈ fieldsW i, x.size ≤ 22 := by
  intro x hx
  unfold fieldsW at hx
  cases e : (i.kind == 2 && !two i.op) <;> rw [e] at hx
  · obtain ⟨u, _, hu⟩ := List.mem_filterMap.1 hx
    exact field22 hi u x hu
  · have h5 := opword_len i.op
    simp only [cond_true, List.mem_cons, List.not_mem_nil, or_false] at hx
    rcases hx with rfl | rfl | rfl
    · omega
    · exact reg22 hi.d
    · exact reg22 hi.a
theorem wordsOf_le {i : Ins} (hi : IOk i) (hk : 1 ≤ i.kind ∧ i.kind < 11) : ∀ x ∈ wordsOf i, x.size ≤ 22 := by
  intro x hx
  unfold wordsOf at hx
  simp only [List.mem_append] at hx
  rcases hx with (hx | hx) | hx
  · cases e : seq (kword i.kind) ⟨#[]⟩ <;> rw [e] at hx
    · simp only [cond_false, List.mem_singleton] at hx; subst hx; exact kword_len _ hk
    · cases hx
  · exact fieldsW_le hi x hx
  · cases e : (i.from_ != 0) <;> rw [e] at hx
    · cases hx
    · simp only [cond_true, List.mem_singleton] at hx; subst hx; exact at22 hi.from_
theorem one_le (b : Bool) (x : ByteArray) : (bif b then [] else [x]).length ≤ 1 := by cases b <;> simp
theorem one_le' (b : Bool) (x : ByteArray) : (bif b then [x] else []).length ≤ 1 := by cases b <;> simp
theorem wordsOf_len {i : Ins} (hk : 1 ≤ i.kind ∧ i.kind < 11) : (wordsOf i).length ≤ 5 := by
  have h1 := one_le (seq (kword i.kind) ⟨#[]⟩) (kword i.kind)
  have h3 := one_le' (i.from_ != 0) (atB i.from_)
  unfold wordsOf
  simp only [List.length_append]
  have hc : i.kind = 1 ∨ i.kind = 2 ∨ i.kind = 3 ∨ i.kind = 4 ∨ i.kind = 5 ∨ i.kind = 6 ∨ i.kind = 7 ∨ i.kind = 8 ∨ i.kind = 9 ∨ i.kind = 10 := by omega
  by_cases h2 : i.kind = 2
  · rw [h2]
    have e : seq (kword 2) ⟨#[]⟩ = true := by kernel_rfl
    rw [e]
    have hf : (fieldsW i).length ≤ 4 := by
      unfold fieldsW
      rw [h2]
      cases (((2 : Int) == 2) && !two i.op)
      · exact Nat.le_trans (List.length_filterMap_le ..) (by decide)
      · simp
    show 0 + _ + _ ≤ 5
    omega
  · have hf : (fieldsW i).length ≤ 2 := by
      unfold fieldsW
      rw [show (i.kind == 2) = false from beq_eq_false_iff_ne.2 h2, Bool.false_and, cond_false]
      rcases hc with h | h | h | h | h | h | h | h | h | h
      · rw [h]; exact Nat.le_of_ble_eq_true rfl
      · exact absurd h h2
      all_goals (rw [h]; exact Nat.le_of_ble_eq_true rfl)
    omega
theorem text_len {i : Ins} (hi : IOk i) (hk : 1 ≤ i.kind ∧ i.kind < 11) : (textB i).size ≤ 115 := by
  have h1 := joinL_le2 (wordsOf_le hi hk)
  have h2 := wordsOf_len hk
  have e : (textB i).size = (joinL (wordsOf i)).length := rfl
  have : (wordsOf i).length * (22 + 1) ≤ 5 * 23 := Nat.mul_le_mul_right _ h2
  omega
theorem srcRows_bytes {m : Mem} {h e n : Nat} {l : List UInt8} (hm : m h = some (.vec e 1 1 (brows l))) (hn : n = l.length) : srcRows 1 m (.sl h n) = some (brows l, [(h, .vec e 1 1 (brows l))]) := by
  subst hn
  show (match m h with | some (.vec e n' B rows) => bif Nat.beq 1 n' && Nat.ble l.length rows.length then some (rows.take l.length, [(h, Blk.vec e n' B rows)]) else none | _ => none) = _
  rw [hm]
  simp only [Nat.beq_refl, Bool.true_and]
  rw [show Nat.ble l.length (brows l).length = true from Nat.ble_eq_true_of_le (by simp [brows]), List.take_of_length_le (by simp [brows])]
  rfl
set_option maxRecDepth 100000 in
theorem k_printO (o : Ob) (h : (checkO o).1 = 0) : K 25 [o.av] [] (.ret (.tup [.tr (ts (prnO o)), .tr (ti 0)])) [] := by
  have hG := check_good h
  refine Ctr.new [] hT hmix Tryd.func25 rfl (fun _ _ => by kernel_rfl) rfl fun hok => ?_
  have hc := k_check o
  rw [checkO_zero h] at hc
  obtain ⟨memory, shared, locks, buffer, cores⟩ := o
  have hml : memory.length ≤ 9223372036854775807 := by have := hG.mem; simp only at this; omega
  have hcl8 : cores.length ≤ 8 := hG.cores
  have hcl8' : cores.length ≤ 9223372036854775807 := by omega
  have hm4 : memory.length ≤ 4096 := hG.mem
  obtain ⟨_, _, hcs⟩ := ((hok.slot 0 rfl).agg _ (.tail _ (.tail _ (.tail _ (.tail _ (.head _)))))).tr.lst
  obtain ⟨_, _, hms⟩ := ((hok.slot 0 rfl).agg _ (.head _)).tr.lst
  have hs := ((hok.slot 0 rfl).agg (.tr (ti shared)) (.tail _ (.head _))).tr.i64
  have hlo := ((hok.slot 0 rfl).agg (.tr (ti locks)) (.tail _ (.tail _ (.head _)))).tr.i64
  have hbu := ((hok.slot 0 rfl).agg (.tr (ti buffer)) (.tail _ (.tail _ (.tail _ (.head _))))).tr.i64
  clear hok
  generalize hE : prnL ⟨memory, shared, locks, buffer, cores⟩ = E
  have hEo : prnO ⟨memory, shared, locks, buffer, cores⟩ = ⟨E.toArray⟩ := by rw [← hE]; rfl
  rw [hEo]
  clear hEo
  conv => whnf
  refine acall.pure _ (hc) rfl rfl fun _ => ?_
  conv => whnf
  refine acall.pure _ (k_itoa shared) rfl rfl ?_
  conv => whnf
  have z1 : (⟨#[111, 98, 106, 101, 99, 116, 32]⟩ : ByteArray).size = 7 := rfl
  have z2 : (⟨#[32]⟩ : ByteArray).size = 1 := rfl
  have z3 : (⟨#[10, 109, 101, 109, 111, 114, 121]⟩ : ByteArray).size = 7 := rfl
  have z4 : (⟨#[10]⟩ : ByteArray).size = 1 := rfl
  have z5 : (⟨#[99, 111, 114, 101, 32]⟩ : ByteArray).size = 5 := rfl
  have p1 := prn_len hs.1 hs.2
  have p2 := prn_len hlo.1 hlo.2
  have p3 := prn_len hbu.1 hbu.2
  refine ⟨by rw [z1]; omega, ?_⟩
  conv => whnf
  refine ⟨by simp only [size_add, z1, z2]; omega, ?_⟩
  conv => whnf
  refine acall.pure _ (k_itoa locks) rfl rfl ?_
  conv => whnf
  refine ⟨by simp only [size_add, z1, z2]; omega, ?_⟩
  conv => whnf
  refine ⟨by simp only [size_add, z1, z2]; omega, ?_⟩
  conv => whnf
  refine acall.pure _ (k_itoa buffer) rfl rfl ?_
  conv => whnf
  refine ⟨by simp only [size_add, z1, z2]; omega, ?_⟩
  conv => whnf
  refine ⟨by simp only [size_add, z1, z2, z3]; omega, ?_⟩
  conv => whnf
  refine ⟨by simp only [size_add, z1, z2, z3]; omega, ?_⟩
  conv => whnf
  refine ⟨by kernel_rfl, fun _ => ?_⟩
  conv => whnf
  refine LoopL.by (fun x : List UInt8 × Nat => ⟨[(1, .ptr 0 0), (7, .sl 1 x.1.length), (41, .tr (intsT memory)), (42, .tr (ti memory.length)), (43, .tr (ti x.2))], [(0, .cells 25 [.tr (intsT memory), .tr (ti shared), .tr (ti locks), .tr (ti buffer), .tr (coresT cores)]), (1, bytB x.1)], 10⟩)
    (fun x => x.2 ≤ memory.length ∧ E = x.1 ++ ((memory.drop x.2).flatMap memP ++ ([10] ++ cores.flatMap coreP)) ∧ x.1.length ≤ 100 + 22 * x.2) (fun x => memory.length - x.2)
    ((headP ⟨memory, shared, locks, buffer, cores⟩).data.toList, 0) [0, 31] [] (Sub.mk' rfl ⟨⟨rfl, rfl⟩, ⟨rfl, (dat_len (headP ⟨memory, shared, locks, buffer, cores⟩)).symm⟩, .inl rfl, .inl (by simp), .inl rfl, trivial⟩ aut rfl rfl) ⟨Nat.zero_le _, ?_, ?_⟩ ?_
  · rw [← hE]; simp only [prnL, List.append_assoc, List.drop_zero]
  · simp only [dat_len, headP, size_add, z1, z2, z3]; omega
  rintro ⟨l, i⟩ ⟨hi, hf, hlen⟩ -
  simp only at hi hf hlen
  conv => whnf
  refine csplit (fun hlt => ?_) (fun hge => ?_)
  · have hlt : i < memory.length := by simpa using hlt
    conv => whnf
    refine ⟨rfl, by omega, by simpa using hlt, fun row hrow => ?_⟩
    obtain ⟨x, hx, rfl⟩ := map_get hrow
    replace hx : memory[i]? = some x := hx
    have hxr := ((hms _ (List.mem_of_getElem? hrow)).2 (ti x) (.head _)).i64
    have px := prn_len hxr.1 hxr.2
    rw [drop_cons hx] at hf
    conv => whnf
    refine acall.pure _ (k_print x) rfl rfl fun _ => ?_
    conv => whnf
    refine ⟨by simp only [z2]; omega, ?_⟩
    conv => whnf
    refine ⟨rfl, rfl, rfl, by simp [brows], by simp only [size_add, z2]; omega, ?_⟩
    conv => whnf
    refine ⟨(l ++ memP x, i + 1), [0, 18], [], Sub.mk' rfl ⟨⟨rfl, rfl⟩, ⟨rfl, len_add _ _⟩, .inl rfl, .inl rfl, .inl (ti_succ hlt hml), trivial⟩ ⟨⟨rfl, .inl rfl, .inl rfl, .inl rfl, .inl rfl, .inl rfl, trivial⟩, ⟨rfl, rfl, rfl, take_app _ _⟩, trivial⟩ rfl rfl, ⟨by omega, ?_, ?_⟩, by simp only; omega⟩
    · rw [hf]; simp only [List.flatMap_cons, List.append_assoc]
    · simp only [memP, List.length_append, dat_len, size_add, z2]; omega
  have hge : memory.length ≤ i := by simpa using hge
  rw [List.drop_eq_nil_of_le hge] at hf
  conv => whnf
  refine ⟨fun _ => ?_, fun h => absurd rfl h⟩
  conv => whnf
  refine ⟨rfl, rfl, rfl, by simp [brows], by simp; omega, fun q hq => by simp at hq; subst hq; simp, ?_⟩
  conv => whnf
  refine LoopL.by (fun x : List UInt8 × Nat => ⟨[(1, .ptr 0 0), (7, .sl 1 x.1.length), (57, .tr (coresT cores)), (58, .tr (ti cores.length)), (59, .tr (ti x.2))], [(0, .cells 25 [.tr (intsT memory), .tr (ti shared), .tr (ti locks), .tr (ti buffer), .tr (coresT cores)]), (1, bytB x.1)], 10⟩)
    (fun x => x.2 ≤ cores.length ∧ E = x.1 ++ (cores.drop x.2).flatMap coreP ∧ x.1.length ≤ 91000 + 1910000 * x.2) (fun x => cores.length - x.2)
    (l ++ [10], 0) [0, 13] [] (Sub.mk' rfl ⟨⟨rfl, rfl⟩, ⟨rfl, by simp⟩, .inl rfl, .inl (by simp), .inl rfl, trivial⟩ ⟨⟨rfl, .inl rfl, .inl rfl, .inl rfl, .inl rfl, .inl rfl, trivial⟩, ⟨rfl, rfl, rfl, app_take l _ _ rfl⟩, trivial⟩ rfl rfl) ⟨Nat.zero_le _, ?_, ?_⟩ ?_
  · rw [hf]; simp
  · simp only [List.length_append, List.length_cons, List.length_nil]; omega
  clear hf hlen
  rintro ⟨l, k⟩ ⟨hk, hf, hlen⟩ -
  simp only at hk hf hlen
  conv => whnf
  refine csplit (fun hlt => ?_) (fun hge => ?_)
  · have hlt : k < cores.length := by simpa using hlt
    conv => whnf
    refine ⟨rfl, by omega, by simpa using hlt, fun row hrow => ?_⟩
    obtain ⟨c, hd, rfl⟩ := map_get hrow
    replace hd : cores[k]? = some c := hd
    rw [drop_cons hd] at hf
    obtain ⟨_, hcl0, hci⟩ := ((hcs _ (List.mem_of_getElem? hrow)).2 (codeT c.code) (.tail _ (.head _))).lst
    have hmem := List.mem_of_getElem? hd
    have hnl := name_le (hG.name c hmem)
    have hcd := hG.code c hmem
    have hrt := hG.right c hmem
    obtain ⟨cn, cc⟩ := c
    simp only at hnl hcd hrt
    rw [List.length_map] at hcl0
    have hcl : cc.length ≤ 9223372036854775807 := hcl0
    clear hcl0
    conv => whnf
    refine ⟨by simp only [z5]; omega, ?_⟩
    conv => whnf
    refine ⟨by simp only [size_add, z5, z4]; omega, ?_⟩
    conv => whnf
    refine ⟨rfl, rfl, rfl, by simp [brows], by simp only [size_add, z5, z4]; omega, ?_⟩
    conv => whnf
    refine LoopL.by (fun x : List UInt8 × Nat => ⟨[(1, .ptr 0 0), (7, .sl 1 x.1.length), (57, .tr (coresT cores)), (58, .tr (ti cores.length)), (59, .tr (ti k)), (70, .tr (codeT cc)), (71, .tr (ti cc.length)), (72, .tr (ti x.2))],
        [(0, .cells 25 [.tr (intsT memory), .tr (ti shared), .tr (ti locks), .tr (ti buffer), .tr (coresT cores)]), (1, bytB x.1)], 10⟩)
      (fun x => x.2 ≤ cc.length ∧ E = x.1 ++ ((cc.drop x.2).flatMap insP ++ (cores.drop (k + 1)).flatMap coreP) ∧ x.1.length ≤ 91038 + 1910000 * k + 116 * x.2) (fun x => cc.length - x.2)
      (l ++ ((⟨#[99, 111, 114, 101, 32]⟩ : ByteArray) ++ cn ++ (⟨#[10]⟩ : ByteArray)).data.toList, 0) [0, 20] [] (Sub.mk' rfl ⟨⟨rfl, rfl⟩, ⟨rfl, len_add _ _⟩, .inl rfl, .inl rfl, .inl rfl, .inl rfl, .inl (by simp), .inl rfl, trivial⟩ ⟨⟨rfl, .inl rfl, .inl rfl, .inl rfl, .inl rfl, .inl rfl, trivial⟩, ⟨rfl, rfl, rfl, take_app _ _⟩, trivial⟩ rfl rfl) ⟨Nat.zero_le _, ?_, ?_⟩ ?_
    · rw [hf]; simp only [List.flatMap_cons, coreP, List.append_assoc, List.drop_zero]
    · simp only [List.length_append, dat_len, size_add, z4, z5]; omega
    clear hf hlen
    rintro ⟨l, j⟩ ⟨hj, hf, hlen⟩ -
    simp only at hj hf hlen
    conv => whnf
    refine csplit (fun hlt2 => ?_) (fun hge2 => ?_)
    · have hlt2 : j < cc.length := by simpa using hlt2
      conv => whnf
      refine ⟨rfl, by omega, by simpa using hlt2, fun row hrow => ?_⟩
      obtain ⟨i, hx, rfl⟩ := map_get hrow
      replace hx : cc[j]? = some i := hx
      have hmi := List.mem_of_getElem? hx
      have hik := right_kind (hrt i hmi)
      have hi := iok_of (i := i) (hci _ (List.mem_of_getElem? hrow)).2
      have htl := text_len hi hik
      rw [drop_cons hx] at hf
      have hT := k_text i
      obtain ⟨i1, i2, i3, i4, i5, i6, i7, i8, i9⟩ := i
      generalize hX : textB ⟨i1, i2, i3, i4, i5, i6, i7, i8, i9⟩ = X at hT htl
      have hXP : insP ⟨i1, i2, i3, i4, i5, i6, i7, i8, i9⟩ = (X ++ (⟨#[10]⟩ : ByteArray)).data.toList := by unfold insP; rw [hX]
      clear hX
      conv => whnf
      refine acall.pure _ (hT) rfl rfl fun _ => ?_
      conv => whnf
      refine ⟨by simp only [z4]; omega, ?_⟩
      conv => whnf
      refine ⟨rfl, rfl, rfl, by simp [brows], by simp only [size_add, z4]; omega, ?_⟩
      conv => whnf
      have hl2 : (l ++ (X ++ (⟨#[10]⟩ : ByteArray)).data.toList).length ≤ 91038 + 1910000 * k + 116 * (j + 1) := by simp only [List.length_append, dat_len, size_add, z4]; omega
      refine csplit (fun hbig => ?_) (fun hsm => ?_)
      · exfalso
        have := of_decide_eq_true hbig
        simp only [size_add, z4] at this
        omega
      conv => whnf
      refine ⟨(l ++ (X ++ (⟨#[10]⟩ : ByteArray)).data.toList, j + 1), [0, 19], [], Sub.mk' rfl ⟨⟨rfl, rfl⟩, ⟨rfl, len_add _ _⟩, .inl rfl, .inl rfl, .inl rfl, .inl rfl, .inl rfl, .inl (ti_succ hlt2 hcl), trivial⟩ ⟨⟨rfl, .inl rfl, .inl rfl, .inl rfl, .inl rfl, .inl rfl, trivial⟩, ⟨rfl, rfl, rfl, take_app _ _⟩, trivial⟩ rfl rfl, ⟨by omega, ?_, hl2⟩, by simp only; omega⟩
      rw [hf]; simp only [List.flatMap_cons, hXP, List.append_assoc]
    have hge2 : cc.length ≤ j := by simpa using hge2
    rw [List.drop_eq_nil_of_le hge2] at hf
    conv => whnf
    refine ⟨fun _ => ?_, fun h => absurd rfl h⟩
    conv => whnf
    refine ⟨(l, k + 1), [0, 1], [], Sub.mk' rfl ⟨⟨rfl, rfl⟩, ⟨rfl, rfl⟩, .inl rfl, .inl rfl, .inl (ti_succ hlt hcl8'), trivial⟩ aut rfl rfl, ⟨by omega, ?_, ?_⟩, by simp only; omega⟩
    · rw [hf]; simp
    · simp only; omega
  have hge : cores.length ≤ k := by simpa using hge
  rw [List.drop_eq_nil_of_le hge] at hf
  obtain rfl : E = l := by rw [hf]; simp
  conv => whnf
  refine ⟨fun _ => ?_, fun h => absurd rfl h⟩
  conv => whnf
  rw [srcRows_bytes (h := 1) (l := E) (e := 5) ?hm rfl]
  case hm => rfl
  conv => whnf
  refine ⟨E, rfl, by omega, ?_⟩
  conv => whnf
  exact ⟨[], rfl, rfl, aut⟩
end Go.Proofs.YtffhoknkfohfgaaDoor.am

namespace Go.Proofs.YtffhoknkfohfgaaDoor.am
open Go Go.Proofs
def haltI : Ins := ⟨10, 0, 0, 0, 0, 0, 0, 0, 0⟩
def oB : Ob := ⟨[], 0, 0, 1, [⟨⟨#[65]⟩, [haltI]⟩]⟩
theorem oB_check : checkO oB = (0, 0, 0) := by kernel_rfl
theorem prn_small (n : Nat) (h : n < 10) : prnB n = ⟨#[UInt8.ofNat (48 + n)]⟩ := by
  unfold prnB ws.prn
  rw [if_neg (by omega), Int.toNat_natCast, ws.dig_small h]
  rfl
def litP : ByteArray := ⟨#[111, 98, 106, 101, 99, 116, 32, 48, 32, 48, 32, 49, 10, 109, 101, 109, 111, 114, 121, 10, 99, 111, 114, 101, 32, 65, 10, 104, 97, 108, 116, 10]⟩
def litE : List UInt8 := [115, 116, 105, 108, 0, 0, 1, 0, 1, 1, 65, 1, 10, 0]
theorem oB_enc : encB oB = litE := by kernel_rfl
theorem oB_print : prnO oB = litP := by
  unfold prnO prnL headP
  rw [show prnB oB.shared = ⟨#[48]⟩ from prn_small 0 (by decide), show prnB oB.locks = ⟨#[48]⟩ from prn_small 0 (by decide), show prnB oB.buffer = ⟨#[49]⟩ from prn_small 1 (by decide)]
  kernel_rfl
def litT : ByteArray := ⟨#[111, 98, 106, 101, 99, 116, 32, 48, 32, 48, 32, 49, 10, 109, 101, 109, 111, 114, 121, 32, 55, 10, 99, 111, 114, 101, 32, 65, 10, 97, 100, 100, 32, 114, 50, 32, 114, 49, 32, 114, 48, 32, 64, 51, 10, 104, 97, 108, 116, 10]⟩
def oT : Ob := ⟨[7], 0, 0, 1, [⟨⟨#[65]⟩, [⟨2, 1, 2, 1, 0, 0, 0, 0, 3⟩, haltI]⟩]⟩
theorem oT_parse : parseS litT = (oT, 0, 0) := by kernel_rfl
/-! two lists that are one -/
def brow (b : UInt8) : List Tr := [.v (.int .u8 b.toNat)]
theorem k_bytes (l : List UInt8) : K 13 [.tr (.lst 1 1 (l.map brow)), .tr (.lst 1 1 (l.map brow))] [] (.ret (.tr (tb true))) [] := by
  refine Ctr.of hT hmix Tryd.func13 rfl (fun _ _ => by kernel_rfl) rfl fun hok => ?_
  obtain ⟨_, hl, _⟩ := (hok.slot 0 rfl).tr.lst
  clear hok
  rw [List.length_map] at hl
  have hlm : ((l.map brow).length : Int) = l.length := by rw [List.length_map]
  conv => whnf
  refine csplit (fun h => absurd h (by simp)) (fun _ => ?_)
  conv => whnf
  refine LoopL.by (fun i : Nat => ⟨[(0, .tr (.lst 1 1 (l.map brow))), (1, .tr (.lst 1 1 (l.map brow))), (5, .tr (ti i))], [], 10⟩) (fun i => i ≤ l.length) (fun i => l.length - i) 0 [] [] (Sub.mk' rfl ⟨.inl rfl, .inl rfl, .inl rfl, trivial⟩ trivial rfl rfl) (Nat.zero_le _) ?_
  rintro i hi -
  conv => whnf
  refine csplit (fun hlt => ?_) (fun hge => ?_)
  · have hlt : i < l.length := by have := of_decide_eq_true hlt; rw [hlm] at this; omega
    obtain ⟨d, hd⟩ : ∃ d, l[i]? = some d := ⟨l[i], by simp [hlt]⟩
    have hrow : (l.map brow)[i]? = some (brow d) := by rw [List.getElem?_map, hd]; rfl
    conv => whnf
    refine ⟨rfl, (show (0 : Int) ≤ i by omega), (show (i : Int) < (l.map brow).length by rw [hlm]; omega), fun row hr => ?_⟩
    cases hrow.symm.trans hr
    conv => whnf
    refine ⟨rfl, (show (0 : Int) ≤ i by omega), (show (i : Int) < (l.map brow).length by rw [hlm]; omega), fun row hr => ?_⟩
    cases hrow.symm.trans hr
    conv => whnf
    refine ⟨by kernel_rfl, fun _ => ?_⟩
    conv => whnf
    refine csplit (fun h => absurd h (by simp)) (fun _ => ?_)
    conv => whnf
    exact ⟨i + 1, [], [], Sub.mk' rfl ⟨.inl rfl, .inl rfl, .inl (ti_succ hlt hl), trivial⟩ trivial rfl rfl, hlt, by omega⟩
  · conv => whnf
    refine ⟨fun _ => ?_, fun h => absurd rfl h⟩
    conv => whnf
    exact ⟨.inl rfl, trivial⟩
end Go.Proofs.YtffhoknkfohfgaaDoor.am

namespace Go.Proofs.YtffhoknkfohfgaaDoor.am
open Go Go.Proofs
theorem halt_leaf : leafR [haltI.cells] := ins_leaf haltI
set_option maxRecDepth 100000 in
theorem k_begins : K 8 [] [] (.ret (.tr (tb true))) [] := by
  refine Ctr.cut [2] hT hmix Tryd.func8 rfl (fun _ _ => by kernel_rfl) rfl fun hok => ?_
  clear hok
  have h0 : (checkO oB).1 = 0 := by rw [oB_check]
  have hp := k_printO oB h0
  have he := k_encode oB h0
  have hq := k_parseT litT oT_parse.symm rfl
  rw [oB_enc] at he
  obtain ⟨S, hS⟩ : ∃ S, S = prnO oB := ⟨_, rfl⟩
  rw [← hS] at hp
  rw [oB_print] at hS
  clear h0
  conv => whnf
  refine CutL.by (fun _ : Unit => ⟨[(1, .ptr 0 0)], [(0, obB (.tr (intsT [])) 0 0 1 (.tr (coresT oB.cores)))], 10⟩) (fun _ => True) ?_ ?_
  · conv => whnf
    refine ⟨(), [6], [], Sub.pk [4] ?_, trivial⟩
    conv => whnf
    refine ⟨rfl, rfl, by decide, halt_leaf, ?_⟩
    exact Sub0.mk' rfl ⟨⟨rfl, rfl⟩, trivial⟩ ⟨⟨rfl, .inr ⟨rfl, _, _, rfl⟩, .inl rfl, .inl rfl, .inl rfl, ⟨rfl, by decide, rfl⟩, trivial⟩, trivial⟩ rfl rfl
  · rintro - - -
    conv => whnf
    refine acall.pure _ (hp) rfl rfl fun _ => ?_
    conv => whnf
    refine acall.new [] [] _ _ _ _ he rfl rfl rfl rfl aut aut rfl rfl fun _ => ?_
    conv => whnf
    refine acall.pure _ (hq) rfl rfl fun _ => ?_
    conv => whnf
    refine csplit (fun h => ?_) (fun h => ?_)
    · conv => whnf
      refine acall.gen [] [18, 45] _ _ _ _ (k_bytes litE) rfl rfl rfl rfl ⟨⟨rfl, by decide, rfl⟩, ⟨rfl, by decide, rfl⟩, trivial⟩ trivial rfl rfl fun _ => ?_
      conv => whnf
      refine ⟨rfl, by decide, by decide, fun row hr => ?_⟩
      cases hr
      conv => whnf
      refine ⟨rfl, by decide, by decide, fun row hr => ?_⟩
      cases hr
      conv => whnf
      refine acall.pure _ (k_drains 7) rfl rfl fun _ => ?_
      conv => whnf
      exact ⟨.inl rfl, trivial⟩
    · rw [hS] at h
      exact absurd (show (litP.toList == litP.toList) = false from h) (by simp)
end Go.Proofs.YtffhoknkfohfgaaDoor.am

namespace Go.Proofs.YtffhoknkfohfgaaDoor.am
open Go Go.Proofs
theorem setC_snoc {a : List (List Tr)} {r : List Tr} {i j : Nat} {t : Tr} (h : a.length = i) : setC (a ++ [r]) (i + 0) j t = a ++ [r.set j t] := by
  subst h
  unfold setC
  rw [Nat.add_zero, List.getElem?_append_right (Nat.le_refl _), Nat.sub_self, List.set_append_right _ _ (Nat.le_refl _), Nat.sub_self]
  rfl
theorem code_leaf (cc : List Ins) : leafR (cc.map Ins.cells) := by
  intro row hr t ht
  obtain ⟨i, _, rfl⟩ := List.mem_map.1 hr
  exact ins_leaf i _ (.head _) t ht
end Go.Proofs.YtffhoknkfohfgaaDoor.am
