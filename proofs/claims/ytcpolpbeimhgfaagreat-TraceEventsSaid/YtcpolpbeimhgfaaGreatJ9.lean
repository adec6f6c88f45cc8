/- Contracts of the reference: right objects. Contracts of the reference of trace: event, Events, SameEvents. Print, of the package and of the reference. -/
import Derived.Test.YtcpolpbeimhgfaaGreatJ7
import Derived.Test.YtcpolpbeimhgfaaGreatJ8
import Derived.Test.YtcpolpbeimhgfaaGreatProg
import Derived.WalkLawsBesides
import Derived.Deep.WholeRow
import Derived.Lib.Hide
import Derived.Below
import Derived.Test.YtcpolpbeimhgfaaGreatJ5
import Derived.ShutString
set_option linter.all false

namespace Go.Proofs.YtcpolpbeimhgfaaGreat.am
open Go Go.Proofs
theorem toList_data (s : ByteArray) : s.toList = s.data.toList := ByteArray.toList_eq s
abbrev insB (i : Ins) : Blk := .cells 82 [.tr (tu i.kind), .tr (tu i.op), .tr (ti i.d), .tr (ti i.a), .tr (ti i.b), .tr (ti i.addr), .tr (ti i.to_), .tr (ti i.word), .tr (ti i.from_)]
theorem ba_ext {a b : ByteArray} (h : a.data.toList = b.data.toList) : a = b := by
  obtain ⟨⟨a⟩⟩ := a
  obtain ⟨⟨b⟩⟩ := b
  have : a = b := h
  rw [this]
theorem seq_ba {a b : ByteArray} : seq a b = true ↔ a = b := by
  unfold seq
  rw [beq_iff_eq, toList_data, toList_data]
  exact ⟨ba_ext, fun h => by rw [h]⟩
theorem opword_low {op : Int} (h : op ≤ 0) : opword op = ⟨#[]⟩ := by
  unfold opword byK
  rw [show op.toNat = 0 by omega]; rfl
theorem z_digit (c : Int) : K 87 [.tr (tu c)] [] (.ret (.tr (tb (digB c)))) [] := by
  refine Ctr.of hT hmix Tryz.func87 rfl (fun _ _ => by kernel_rfl) rfl fun hok => ?_
  conv => whnf
  (repeat' (refine csplit (fun _ => ?_) (fun _ => ?_) <;> conv => whnf)) <;> refine ⟨Or.inl (congrArg tb ?_), trivial⟩ <;> (simp only [digB, *] <;> rfl)
theorem z_letter (c : Int) : K 89 [.tr (tu c)] [] (.ret (.tr (tb (letB c)))) [] := by
  refine Ctr.of hT hmix Tryz.func89 rfl (fun _ _ => by kernel_rfl) rfl fun hok => ?_
  conv => whnf
  (repeat' (refine csplit (fun _ => ?_) (fun _ => ?_) <;> conv => whnf)) <;> refine ⟨Or.inl (congrArg tb ?_), trivial⟩ <;> (simp only [letB, *] <;> rfl)
theorem z_word (s : ByteArray) : K 88 [.tr (ts s)] [] (.ret (.tr (tb (wordB s)))) [] := by
  refine Ctr.of hT hmix Tryz.func88 rfl (fun _ _ => by kernel_rfl) rfl fun hok => ?_
  conv => whnf
  (repeat' (refine csplit (fun _ => ?_) (fun _ => ?_) <;> conv => whnf)) <;> refine ⟨Or.inl (congrArg tb ?_), trivial⟩ <;> first | (simp only [wordB, seq, *] <;> rfl) | simp_all
theorem z_name (s : ByteArray) : K 62 [.tr (ts s)] [] (.ret (.tr (tb (nameB s)))) [] := by
  refine Ctr.of hT hmix Tryz.func62 rfl (fun _ _ => by kernel_rfl) rfl fun hok => ?_
  have hsz := (hok.slot 0 rfl).tr.str
  clear hok
  conv => whnf
  refine csplit (fun h1 => ?_) (fun h1 => ?_)
  · conv => whnf
    exact ⟨Or.inl (congrArg tb (by simp only [nameB, h1] <;> rfl)), trivial⟩
  conv => whnf
  refine csplit (fun h2 => ?_) (fun h2 => ?_)
  · conv => whnf
    exact ⟨Or.inl (congrArg tb (by simp only [nameB, h1, h2] <;> rfl)), trivial⟩
  have hs0 : 0 < s.size := by have := of_decide_eq_false h1; omega
  conv => whnf
  refine ⟨by omega, by omega, fun b hb => ?_⟩
  have hc0 : chI s 0 = b.toNat := by unfold chI; rw [show s[0]? = some b from hb]
  conv => whnf
  refine acall.pure _ (z_digit b.toNat) rfl rfl fun _ => ?_
  conv => whnf
  refine csplit (fun h3 => ?_) (fun h3 => ?_)
  · conv => whnf
    exact ⟨Or.inl (congrArg tb (by rw [← hc0] at h3; simp only [nameB, h1, h2, h3] <;> rfl)), trivial⟩
  rw [← hc0] at h3
  conv => whnf
  refine acall.pure _ (z_word s) rfl rfl fun _ => ?_
  conv => whnf
  refine csplit (fun h4 => ?_) (fun h4 => ?_)
  · conv => whnf
    exact ⟨Or.inl (congrArg tb (by simp only [nameB, h1, h2, h3, h4] <;> rfl)), trivial⟩
  conv => whnf
  have hE : nameB s = charsB s s.size := by simp only [nameB, h1, h2, h3, h4] <;> rfl
  refine LoopL.by (fun i : Nat => ⟨[(0, .tr (ts s)), (3, .tr (ti i))], [], 38⟩)
    (fun i => i ≤ s.size ∧ nameB s = charsB s (s.size - i)) (fun i => s.size - i) 0 [] [] (Sub.mk' rfl ⟨.inl rfl, .inl rfl, trivial⟩ trivial rfl rfl) ⟨Nat.zero_le _, hE⟩ ?_
  rintro i ⟨hi, hf⟩ -
  conv => whnf
  refine csplit (fun hlt => ?_) (fun hge => ?_)
  · have hlt : i < s.size := by simpa using hlt
    conv => whnf
    refine ⟨by omega, by omega, fun b hb => ?_⟩
    rw [charsB_at (show s[i]? = some b from hb) hlt] at hf
    conv => whnf
    refine acall.pure _ (z_letter b.toNat) rfl rfl fun _ => ?_
    conv => whnf
    refine csplit (fun h5 => ?_) (fun h5 => ?_)
    · conv => whnf
      refine ⟨by omega, by omega, fun b' hb' => ?_⟩
      have hbb : b' = b := Option.some.inj ((show s[i]? = some b' from hb').symm.trans hb)
      subst hbb
      conv => whnf
      refine acall.pure _ (z_digit b'.toNat) rfl rfl fun _ => ?_
      conv => whnf
      refine csplit (fun h6 => ?_) (fun h6 => ?_)
      · rw [h5, h6] at hf
        conv => whnf
        exact ⟨Or.inl (congrArg tb hf.symm), trivial⟩
      · rw [h5, h6] at hf
        conv => whnf
        exact ⟨i + 1, [], [], Sub.mk' rfl ⟨.inl rfl, .inl (ti_succ hlt hsz), trivial⟩ trivial rfl rfl, ⟨by omega, hf⟩, by omega⟩
    · rw [h5] at hf
      conv => whnf
      exact ⟨i + 1, [], [], Sub.mk' rfl ⟨.inl rfl, .inl (ti_succ hlt hsz), trivial⟩ trivial rfl rfl, ⟨by omega, hf⟩, by omega⟩
  · have hge : s.size ≤ i := by simpa using hge
    rw [show s.size - i = 0 by omega] at hf
    conv => whnf
    refine ⟨fun _ => ?_, fun h => absurd rfl h⟩
    conv => whnf
    exact ⟨Or.inl (congrArg tb hf.symm), trivial⟩
def useD (k : Int) : Bool := k == 1 || k == 2 || k == 3 || k == 5
def useA (k : Int) : Bool := k == 2 || k == 4 || k == 7 || k == 9
def useM (k : Int) : Bool := k == 3 || k == 5 || k == 4
def useT (k : Int) : Bool := k == 8 || k == 9
theorem z_uses (k : Int) : K 63 [.tr (tu k)] [] (.ret (.tup [.tr (tb (useD k)), .tr (tb (useA k)), .tr (tb (useM k)), .tr (tb (useT k))])) [] := by
  refine Ctr.of hT hmix Tryz.func63 rfl (fun _ _ => by kernel_rfl) rfl fun hok => ?_
  clear hok
  conv => whnf
  (repeat' (refine csplit (fun h => ?_) (fun h => ?_) <;> (try dsimp only at h) <;> conv => whnf))
  all_goals
    refine ⟨⟨.inl (congrArg tb ?_), .inl (congrArg tb ?_), .inl (congrArg tb ?_), .inl (congrArg tb ?_), trivial⟩, trivial⟩ <;> simp_all [useD, useA, useM, useT]
def regOk (n : Int) : Bool := decide (n ≥ 0) && decide (n < 16)
theorem z_reg (n : Int) : K 65 [.tr (ti n)] [] (.ret (.tr (tb (regOk n)))) [] := by
  refine Ctr.of hT hmix Tryz.func65 rfl (fun _ _ => by kernel_rfl) rfl fun hok => ?_
  clear hok
  conv => whnf
  (repeat' (refine csplit (fun h => ?_) (fun h => ?_) <;> conv => whnf)) <;> exact ⟨.inl (congrArg tb (by unfold regOk; simp only [*] <;> rfl)), trivial⟩
theorem z_two (op : Int) : K 64 [.tr (tu op)] [] (.ret (.tr (tb (two op)))) [] := k_rtwo op
/-- Right, as the reference asks it -/
def z0 (i : Ins) : Bool := decide (i.kind ≤ 0) || decide (i.kind ≥ 11) || decide (i.from_ < 0) || decide (i.from_ > 4096)
def z1 (i : Ins) : Bool := (i.kind == 2 && (decide (i.op ≤ 0) || decide (i.op ≥ 19))) || (i.kind != 2 && i.op != 0)
def z2 (i : Ins) (D A W : Bool) : Bool := (D && !regOk i.d) || (!D && i.d != 0) || (A && !regOk i.a) || (!A && i.a != 0) || (W && !regOk i.b) || (!W && i.b != 0)
def z3 (i : Ins) (mem : Int) (M : Bool) : Bool := (M && (decide (i.addr < 0) || decide (i.addr ≥ mem))) || (!M && i.addr != 0)
def z4 (i : Ins) (code : Int) (T : Bool) : Bool := (T && (decide (i.to_ < 0) || decide (i.to_ ≥ code))) || (!T && i.to_ != 0)
def rightZ (i : Ins) (code mem : Int) (D A M T W : Bool) : Bool :=
  bif z0 i then false else bif z1 i then false else bif z2 i D A W then false else bif z3 i mem M then false else bif z4 i code T then false else i.kind == 1 || i.word == 0
set_option maxRecDepth 100000 in
set_option maxHeartbeats 4000000 in
theorem z_right0 (i : Ins) (code mem : Int) : K 41 [i.av, .tr (ti code), .tr (ti mem)] [] (.ret (.tr (tb (rightZ i code mem (useD i.kind) (useA i.kind) (useM i.kind) (useT i.kind) (i.kind == 2 && two i.op))))) [] := by
  refine Ctr.cut [5, 1000007, 1000014, 1000017, 1000020] hT hmix Tryz.func41 rfl (fun _ _ => by kernel_rfl) rfl fun hok => ?_
  clear hok
  have hu := z_uses i.kind
  generalize useD i.kind = D at hu ⊢
  generalize useA i.kind = A at hu ⊢
  generalize useM i.kind = M at hu ⊢
  generalize useT i.kind = T at hu ⊢
  obtain ⟨W, hW⟩ : ∃ W, W = (i.kind == 2 && two i.op) := ⟨_, rfl⟩
  rw [← hW]
  obtain ⟨R, hR⟩ : ∃ R, R = rightZ i code mem D A M T W := ⟨_, rfl⟩
  rw [← hR]
  unfold rightZ at hR
  obtain ⟨X0, h0⟩ : ∃ X, X = z0 i := ⟨_, rfl⟩
  obtain ⟨X1, h1⟩ : ∃ X, X = z1 i := ⟨_, rfl⟩
  obtain ⟨X2, h2⟩ : ∃ X, X = z2 i D A W := ⟨_, rfl⟩
  obtain ⟨X3, h3⟩ : ∃ X, X = z3 i mem M := ⟨_, rfl⟩
  obtain ⟨X4, h4⟩ : ∃ X, X = z4 i code T := ⟨_, rfl⟩
  rw [← h0, ← h1, ← h2, ← h3, ← h4] at hR
  unfold z0 at h0
  unfold z1 at h1
  unfold z2 at h2
  unfold z3 at h3
  unfold z4 at h4
  obtain ⟨kind, op, d, a, b, addr, to_, word, from_⟩ := i
  simp only at hu hW hR h0 h1 h2 h3 h4
  conv => whnf
  iterate 4
    refine csplit (fun g => ?_) (fun g => ?_)
    · conv => whnf
      exact ⟨.inl (congrArg tb (by rw [hR, h0]; simp only [*, Bool.or_true, Bool.true_or, cond_true])), trivial⟩
    conv => whnf
  replace h0 : X0 = false := by rw [h0]; simp only [*, Bool.or_false]
  rw [h0] at hR
  refine acall.pure _ (hu) rfl rfl fun _ => ?_
  conv => whnf
  refine CutL.by (fun _ : Unit => ⟨[(1, .tr (ti code)), (2, .tr (ti mem)), (3, .ptr 0 0), (7, .tr (tb D)), (8, .tr (tb A)), (9, .tr (tb M)), (10, .tr (tb T)), (11, .tr (tb W))], [(0, insB ⟨kind, op, d, a, b, addr, to_, word, from_⟩)], 300⟩) (fun _ => True) ?_ ?_
  · clear h0 h1 h2 h3 h4 hR
    conv => whnf
    refine csplit (fun g1 => ?_) (fun g1 => ?_)
    · conv => whnf
      refine acall.pure _ (z_two op) rfl rfl fun _ => ?_
      conv => whnf
      exact ⟨(), [0], [], Sub.mk' rfl ⟨.inl rfl, .inl rfl, ⟨rfl, rfl⟩, .inl rfl, .inl rfl, .inl rfl, .inl rfl, .inl (congrArg tb (by rw [hW]; simp only [g1, Bool.true_and])), trivial⟩ aut rfl rfl, trivial⟩
    · conv => whnf
      exact ⟨(), [0], [], Sub.mk' rfl ⟨.inl rfl, .inl rfl, ⟨rfl, rfl⟩, .inl rfl, .inl rfl, .inl rfl, .inl rfl, .inl (congrArg tb (by rw [hW]; simp only [g1, Bool.false_and])), trivial⟩ aut rfl rfl, trivial⟩
  rintro - - -
  clear h0 hu hW
  conv => whnf
  refine CutL.by (fun _ : Unit => ⟨[(1, .tr (ti code)), (2, .tr (ti mem)), (3, .ptr 0 0), (7, .tr (tb D)), (8, .tr (tb A)), (9, .tr (tb M)), (10, .tr (tb T)), (11, .tr (tb W)), (46, .tr (tb X1))], [(0, insB ⟨kind, op, d, a, b, addr, to_, word, from_⟩)], 300⟩) (fun _ => True) ?_ ?_
  · clear h2 h3 h4 hR
    conv => whnf
    (repeat' (refine csplit (fun g => ?_) (fun g => ?_) <;> conv => whnf))
    all_goals exact ⟨(), [0], [], Sub.mk' rfl ⟨.inl rfl, .inl rfl, ⟨rfl, rfl⟩, .inl rfl, .inl rfl, .inl rfl, .inl rfl, .inl rfl, .inl (congrArg tb (by rw [h1]; clear h1; (try simp only [bne, Bool.not_eq_true', Bool.not_eq_false'] at *); first | (simp only [*, Bool.and_true, Bool.true_and, Bool.and_false, Bool.false_and, Bool.or_true, Bool.true_or, Bool.or_false, Bool.false_or, Bool.not_true, Bool.not_false]; done) | (simp_all; done))), trivial⟩ aut rfl rfl, trivial⟩
  rintro - - -
  clear h1
  cases X1
  · replace hR : R = bif X2 then false else bif X3 then false else bif X4 then false else kind == 1 || word == 0 := hR
    conv => whnf
    refine CutL.by (fun _ : Unit => ⟨[(1, .tr (ti code)), (2, .tr (ti mem)), (3, .ptr 0 0), (7, .tr (tb D)), (8, .tr (tb A)), (9, .tr (tb M)), (10, .tr (tb T)), (11, .tr (tb W)), (68, .tr (tb X2))], [(0, insB ⟨kind, op, d, a, b, addr, to_, word, from_⟩)], 300⟩) (fun _ => True) ?_ ?_
    · clear h3 h4 hR
      conv => whnf
      (repeat' (first | (refine csplit (fun g => ?_) (fun g => ?_) <;> conv => whnf) | (refine acall.pure _ (z_reg d) rfl rfl fun _ => ?_; conv => whnf) | (refine acall.pure _ (z_reg a) rfl rfl fun _ => ?_; conv => whnf) | (refine acall.pure _ (z_reg b) rfl rfl fun _ => ?_; conv => whnf)))
      all_goals exact ⟨(), [0], [], Sub.mk' rfl ⟨.inl rfl, .inl rfl, ⟨rfl, rfl⟩, .inl rfl, .inl rfl, .inl rfl, .inl rfl, .inl rfl, .inl (congrArg tb (by rw [h2]; clear h2; (try simp only [bne, Bool.not_eq_true', Bool.not_eq_false'] at *); first | (simp only [*, Bool.and_true, Bool.true_and, Bool.and_false, Bool.false_and, Bool.or_true, Bool.true_or, Bool.or_false, Bool.false_or, Bool.not_true, Bool.not_false]; done) | (simp_all; done))), trivial⟩ aut rfl rfl, trivial⟩
    rintro - - -
    clear h2
    cases X2
    · replace hR : R = bif X3 then false else bif X4 then false else kind == 1 || word == 0 := hR
      conv => whnf
      refine CutL.by (fun _ : Unit => ⟨[(1, .tr (ti code)), (2, .tr (ti mem)), (3, .ptr 0 0), (7, .tr (tb D)), (8, .tr (tb A)), (9, .tr (tb M)), (10, .tr (tb T)), (11, .tr (tb W)), (111, .tr (tb X3))], [(0, insB ⟨kind, op, d, a, b, addr, to_, word, from_⟩)], 300⟩) (fun _ => True) ?_ ?_
      · clear h4 hR
        conv => whnf
        (repeat' (refine csplit (fun g => ?_) (fun g => ?_) <;> conv => whnf))
        all_goals exact ⟨(), [0], [], Sub.mk' rfl ⟨.inl rfl, .inl rfl, ⟨rfl, rfl⟩, .inl rfl, .inl rfl, .inl rfl, .inl rfl, .inl rfl, .inl (congrArg tb (by rw [h3]; clear h3; (try simp only [bne, Bool.not_eq_true', Bool.not_eq_false'] at *); first | (simp only [*, Bool.and_true, Bool.true_and, Bool.and_false, Bool.false_and, Bool.or_true, Bool.true_or, Bool.or_false, Bool.false_or, Bool.not_true, Bool.not_false]; done) | (simp_all; done))), trivial⟩ aut rfl rfl, trivial⟩
      rintro - - -
      clear h3
      cases X3
      · replace hR : R = bif X4 then false else kind == 1 || word == 0 := hR
        conv => whnf
        refine CutL.by (fun _ : Unit => ⟨[(1, .tr (ti code)), (2, .tr (ti mem)), (3, .ptr 0 0), (7, .tr (tb D)), (8, .tr (tb A)), (9, .tr (tb M)), (10, .tr (tb T)), (11, .tr (tb W)), (131, .tr (tb X4))], [(0, insB ⟨kind, op, d, a, b, addr, to_, word, from_⟩)], 300⟩) (fun _ => True) ?_ ?_
        · clear hR
          conv => whnf
          (repeat' (refine csplit (fun g => ?_) (fun g => ?_) <;> conv => whnf))
          all_goals exact ⟨(), [0], [], Sub.mk' rfl ⟨.inl rfl, .inl rfl, ⟨rfl, rfl⟩, .inl rfl, .inl rfl, .inl rfl, .inl rfl, .inl rfl, .inl (congrArg tb (by rw [h4]; clear h4; (try simp only [bne, Bool.not_eq_true', Bool.not_eq_false'] at *); first | (simp only [*, Bool.and_true, Bool.true_and, Bool.and_false, Bool.false_and, Bool.or_true, Bool.true_or, Bool.or_false, Bool.false_or, Bool.not_true, Bool.not_false]; done) | (simp_all; done))), trivial⟩ aut rfl rfl, trivial⟩
        rintro - - -
        clear h4
        cases X4
        · replace hR : R = (kind == 1 || word == 0) := hR
          conv => whnf
          refine csplit (fun g => ?_) (fun g => ?_)
          · conv => whnf
            exact ⟨.inl (congrArg tb (by rw [hR, g]; rfl)), trivial⟩
          · conv => whnf
            exact ⟨.inl (congrArg tb (by rw [hR, g]; rfl)), trivial⟩
        · conv => whnf
          exact ⟨.inl (congrArg tb (by rw [hR]; rfl)), trivial⟩
      · conv => whnf
        exact ⟨.inl (congrArg tb (by rw [hR]; rfl)), trivial⟩
    · conv => whnf
      exact ⟨.inl (congrArg tb (by rw [hR]; rfl)), trivial⟩
  · conv => whnf
    exact ⟨.inl (congrArg tb (by rw [hR]; rfl)), trivial⟩


theorem b66_1 : band 66 1 = 0 := by decide
theorem b66_2 : band 66 2 = 2 := by decide
theorem b66_4 : band 66 4 = 0 := by decide
theorem b66_8 : band 66 8 = 0 := by decide
theorem b66_16 : band 66 16 = 0 := by decide
theorem b66_32 : band 66 32 = 0 := by decide
theorem b66_64 : band 66 64 = 64 := by decide
theorem b15_1 : band 15 1 = 1 := by decide
theorem b15_2 : band 15 2 = 2 := by decide
theorem b15_4 : band 15 4 = 4 := by decide
theorem b15_8 : band 15 8 = 8 := by decide
theorem b15_16 : band 15 16 = 0 := by decide
theorem b15_32 : band 15 32 = 0 := by decide
theorem b15_64 : band 15 64 = 0 := by decide
theorem b7_1 : band 7 1 = 1 := by decide
theorem b7_2 : band 7 2 = 2 := by decide
theorem b7_4 : band 7 4 = 4 := by decide
theorem b7_8 : band 7 8 = 0 := by decide
theorem b7_16 : band 7 16 = 0 := by decide
theorem b7_32 : band 7 32 = 0 := by decide
theorem b7_64 : band 7 64 = 0 := by decide
theorem b18_1 : band 18 1 = 0 := by decide
theorem b18_2 : band 18 2 = 2 := by decide
theorem b18_4 : band 18 4 = 0 := by decide
theorem b18_8 : band 18 8 = 0 := by decide
theorem b18_16 : band 18 16 = 16 := by decide
theorem b18_32 : band 18 32 = 0 := by decide
theorem b18_64 : band 18 64 = 0 := by decide
theorem b20_1 : band 20 1 = 0 := by decide
theorem b20_2 : band 20 2 = 0 := by decide
theorem b20_4 : band 20 4 = 4 := by decide
theorem b20_8 : band 20 8 = 0 := by decide
theorem b20_16 : band 20 16 = 16 := by decide
theorem b20_32 : band 20 32 = 0 := by decide
theorem b20_64 : band 20 64 = 0 := by decide
theorem b0_1 : band 0 1 = 0 := by decide
theorem b0_2 : band 0 2 = 0 := by decide
theorem b0_4 : band 0 4 = 0 := by decide
theorem b0_8 : band 0 8 = 0 := by decide
theorem b0_16 : band 0 16 = 0 := by decide
theorem b0_32 : band 0 32 = 0 := by decide
theorem b0_64 : band 0 64 = 0 := by decide
theorem b4_1 : band 4 1 = 0 := by decide
theorem b4_2 : band 4 2 = 0 := by decide
theorem b4_4 : band 4 4 = 4 := by decide
theorem b4_8 : band 4 8 = 0 := by decide
theorem b4_16 : band 4 16 = 0 := by decide
theorem b4_32 : band 4 32 = 0 := by decide
theorem b4_64 : band 4 64 = 0 := by decide
theorem b32_1 : band 32 1 = 0 := by decide
theorem b32_2 : band 32 2 = 0 := by decide
theorem b32_4 : band 32 4 = 0 := by decide
theorem b32_8 : band 32 8 = 0 := by decide
theorem b32_16 : band 32 16 = 0 := by decide
theorem b32_32 : band 32 32 = 32 := by decide
theorem b32_64 : band 32 64 = 0 := by decide
theorem b36_1 : band 36 1 = 0 := by decide
theorem b36_2 : band 36 2 = 0 := by decide
theorem b36_4 : band 36 4 = 4 := by decide
theorem b36_8 : band 36 8 = 0 := by decide
theorem b36_16 : band 36 16 = 0 := by decide
theorem b36_32 : band 36 32 = 32 := by decide
theorem b36_64 : band 36 64 = 0 := by decide
theorem opw_empty (op : Int) : seq (opword op) ⟨#[]⟩ = (decide (op ≤ 0) || decide (op ≥ 19)) := by
  by_cases h : op ≤ 0
  · rw [opword_low h, decide_eq_true h, Bool.true_or]
    exact seq_ba.2 rfl
  by_cases h2 : op ≥ 19
  · rw [opword_big h2, decide_eq_true h2, Bool.or_true]
    exact seq_ba.2 rfl
  rw [decide_eq_false h, decide_eq_false h2]
  have hc : op = 1 ∨ op = 2 ∨ op = 3 ∨ op = 4 ∨ op = 5 ∨ op = 6 ∨ op = 7 ∨ op = 8 ∨ op = 9 ∨ op = 10 ∨ op = 11 ∨ op = 12 ∨ op = 13 ∨ op = 14 ∨ op = 15 ∨ op = 16 ∨ op = 17 ∨ op = 18 := by omega
  rcases hc with rfl | rfl | rfl | rfl | rfl | rfl | rfl | rfl | rfl | rfl | rfl | rfl | rfl | rfl | rfl | rfl | rfl | rfl <;> exact Bool.eq_false_iff.2 fun h => absurd (seq_ba.1 h) (by decide)
theorem cond_ff (c e : Bool) : (bif c then false else e) = (!c && e) := by cases c <;> rfl
def rightZ' (i : Ins) (code mem : Int) : Bool := rightZ i code mem (useD i.kind) (useA i.kind) (useM i.kind) (useT i.kind) (i.kind == 2 && two i.op)
theorem rightZ_eq (i : Ins) (code mem : Int) : rightZ' i code mem = rightB i code mem := by
  obtain ⟨kind, op, d, a, b, addr, to_, word, from_⟩ := i
  by_cases hk : 1 ≤ kind ∧ kind < 11
  · have hkok : kok kind = true := by unfold kok; simp [hk.1, hk.2]
    have h0 : decide (kind ≤ 0) = false := decide_eq_false (by omega)
    have h11 : decide (kind ≥ 11) = false := decide_eq_false (by omega)
    unfold rightZ' rightZ rightB
    simp only [hkok, h0, h11, Bool.not_true, Bool.false_or]
    clear hkok h0 h11
    have hc : kind = 1 ∨ kind = 2 ∨ kind = 3 ∨ kind = 4 ∨ kind = 5 ∨ kind = 6 ∨ kind = 7 ∨ kind = 8 ∨ kind = 9 ∨ kind = 10 := by omega
    rcases hc with rfl | rfl | rfl | rfl | rfl | rfl | rfl | rfl | rfl | rfl
    case inr.inl =>
      cases ht : two op
      · simp only [show usedM 2 op = 7 by unfold usedM; rw [ht]; rfl, show useD 2 = true from rfl, show useA 2 = true from rfl, show useM 2 = false from rfl, show useT 2 = false from rfl, z0, z1, z2, z3, z4, opB, withinB, regOk, opw_empty, b66_1, b66_2, b66_4, b66_8, b66_16, b66_32, b66_64, b15_1, b15_2, b15_4, b15_8, b15_16, b15_32, b15_64, b7_1, b7_2, b7_4, b7_8, b7_16, b7_32, b7_64, b18_1, b18_2, b18_4, b18_8, b18_16, b18_32, b18_64, b20_1, b20_2, b20_4, b20_8, b20_16, b20_32, b20_64, b0_1, b0_2, b0_4, b0_8, b0_16, b0_32, b0_64, b4_1, b4_2, b4_4, b4_8, b4_16, b4_32, b4_64, b32_1, b32_2, b32_4, b32_8, b32_16, b32_32, b32_64, b36_1, b36_2, b36_4, b36_8, b36_16, b36_32, b36_64, cond_ff]
        rw [Bool.eq_iff_iff]
        simp
        omega
      · simp only [show usedM 2 op = 15 by unfold usedM; rw [ht]; rfl, show useD 2 = true from rfl, show useA 2 = true from rfl, show useM 2 = false from rfl, show useT 2 = false from rfl, z0, z1, z2, z3, z4, opB, withinB, regOk, opw_empty, b66_1, b66_2, b66_4, b66_8, b66_16, b66_32, b66_64, b15_1, b15_2, b15_4, b15_8, b15_16, b15_32, b15_64, b7_1, b7_2, b7_4, b7_8, b7_16, b7_32, b7_64, b18_1, b18_2, b18_4, b18_8, b18_16, b18_32, b18_64, b20_1, b20_2, b20_4, b20_8, b20_16, b20_32, b20_64, b0_1, b0_2, b0_4, b0_8, b0_16, b0_32, b0_64, b4_1, b4_2, b4_4, b4_8, b4_16, b4_32, b4_64, b32_1, b32_2, b32_4, b32_8, b32_16, b32_32, b32_64, b36_1, b36_2, b36_4, b36_8, b36_16, b36_32, b36_64, cond_ff]
        rw [Bool.eq_iff_iff]
        simp
        omega
    all_goals
      simp only [show ∀ op, usedM 1 op = 66 from fun _ => rfl, show ∀ op, usedM 3 op = 18 from fun _ => rfl, show ∀ op, usedM 4 op = 20 from fun _ => rfl, show ∀ op, usedM 5 op = 18 from fun _ => rfl, show ∀ op, usedM 6 op = 0 from fun _ => rfl, show ∀ op, usedM 7 op = 4 from fun _ => rfl, show ∀ op, usedM 8 op = 32 from fun _ => rfl, show ∀ op, usedM 9 op = 36 from fun _ => rfl, show ∀ op, usedM 10 op = 0 from fun _ => rfl, z0, z1, z2, z3, z4, opB, withinB, regOk, opw_empty, b66_1, b66_2, b66_4, b66_8, b66_16, b66_32, b66_64, b15_1, b15_2, b15_4, b15_8, b15_16, b15_32, b15_64, b7_1, b7_2, b7_4, b7_8, b7_16, b7_32, b7_64, b18_1, b18_2, b18_4, b18_8, b18_16, b18_32, b18_64, b20_1, b20_2, b20_4, b20_8, b20_16, b20_32, b20_64, b0_1, b0_2, b0_4, b0_8, b0_16, b0_32, b0_64, b4_1, b4_2, b4_4, b4_8, b4_16, b4_32, b4_64, b32_1, b32_2, b32_4, b32_8, b32_16, b32_32, b32_64, b36_1, b36_2, b36_4, b36_8, b36_16, b36_32, b36_64, cond_ff, useD, useA, useM, useT]
      rw [Bool.eq_iff_iff]
      simp
      try omega
  · have e : rightB ⟨kind, op, d, a, b, addr, to_, word, from_⟩ code mem = false := by
      cases h : rightB ⟨kind, op, d, a, b, addr, to_, word, from_⟩ code mem
      · rfl
      · exact absurd (right_kind h) hk
    rw [e]
    have : z0 ⟨kind, op, d, a, b, addr, to_, word, from_⟩ = true := by
      unfold z0
      simp
      omega
    unfold rightZ' rightZ
    rw [this]
    rfl


theorem z_right (i : Ins) (code mem : Int) : K 41 [i.av, .tr (ti code), .tr (ti mem)] [] (.ret (.tr (tb (rightB i code mem)))) [] := by
  rw [← rightZ_eq]
  exact z_right0 i code mem
theorem hasN_any (n : ByteArray) : ∀ (l : List Cor) (k : Nat), decide (idxN n l k ≥ 0) = l.any fun d => seq d.name n
  | [], _ => rfl
  | d :: l, k => by
    rw [List.any_cons, ← hasN_any n l (k + 1), show idxN n (d :: l) k = (bif seq d.name n then (k : Int) else idxN n l (k + 1)) from rfl]
    cases seq d.name n
    · rfl
    · simp
theorem hasN_snoc (n : ByteArray) (l : List Cor) (d : Cor) : hasN n (l ++ [d]) = (hasN n l || seq d.name n) := by
  unfold hasN
  rw [hasN_any, hasN_any, List.any_append]; simp
set_option maxRecDepth 100000 in
set_option maxHeartbeats 2000000 in
theorem z_shaped (o : Ob) : K 40 [o.av] [] (.ret (.tr (tb (shapedB o)))) [] := by
  refine Ctr.cut [12] hT hmix Tryz.func40 rfl (fun _ _ => by kernel_rfl) rfl fun hok => ?_
  obtain ⟨memory, shared, locks, buffer, cores⟩ := o
  obtain ⟨_, hl, hcs⟩ := ((hok.slot 0 rfl).agg _ (.tail _ (.tail _ (.tail _ (.tail _ (.head _)))))).tr.lst
  obtain ⟨_, hml, _⟩ := ((hok.slot 0 rfl).agg _ (.head _)).tr.lst
  rw [List.length_map] at hl hml
  clear hok
  have hS : shapedB ⟨memory, shared, locks, buffer, cores⟩ = bif headBad ⟨memory, shared, locks, buffer, cores⟩ then false else coresOk [] cores := rfl
  generalize hB : shapedB ⟨memory, shared, locks, buffer, cores⟩ = B at hS ⊢
  clear hB
  have hH : headBad ⟨memory, shared, locks, buffer, cores⟩ = (decide (shared < 0) || decide (shared > 64) || decide (locks < 0) || decide (locks > 16) || decide ((memory.length : Int) < IntKind.i64.wrap (shared + locks)) || decide ((memory.length : Int) > 4096) ||
    decide (buffer < 1) || decide (buffer > 16) || decide ((cores.length : Int) > 8)) := rfl
  rw [hH] at hS
  clear hH
  have em : (memory.length : Int) = ((memory.map irow).length : Int) := by rw [List.length_map]
  have ec : (cores.length : Int) = ((cores.map Cor.cells).length : Int) := by rw [List.length_map]
  rw [em, ec] at hS
  conv => whnf
  iterate 9
    refine csplit (fun h1 => ?_) (fun h1 => ?_)
    · conv => whnf
      exact ⟨.inl (congrArg tb (by rw [hS]; simp only [*, Bool.or_true, Bool.true_or, cond_true])), trivial⟩
    conv => whnf
  replace hS : B = coresOk [] cores := by rw [hS]; simp only [*, Bool.or_false, cond_false]
  rw [hS]
  clear hS em ec
  replace hl : cores.length ≤ 9223372036854775807 := hl
  refine LoopL.by (fun i : Nat => ⟨[(1, .ptr 0 0), (3, .tr (ti i))], [(0, .cells 25 [.tr (intsT memory), .tr (ti shared), .tr (ti locks), .tr (ti buffer), .tr (coresT cores)])], 200⟩)
    (fun i => i ≤ cores.length ∧ coresOk [] cores = coresOk (cores.take i) (cores.drop i)) (fun i => cores.length - i) 0 [0] [] (Sub.mk' rfl ⟨⟨rfl, rfl⟩, .inl rfl, trivial⟩ ⟨⟨rfl, .inl rfl, .inl rfl, .inl rfl, .inl rfl, .inl rfl, trivial⟩, trivial⟩ rfl rfl) ⟨Nat.zero_le _, rfl⟩ ?_
  rintro i ⟨hi, hf⟩ -
  conv => whnf
  refine csplit (fun hlt => ?_) (fun hge => ?_)
  · have hlt : i < cores.length := by have := of_decide_eq_true hlt; rw [List.length_map] at this; replace this : (i : Int) < cores.length := this; omega
    clear hml
    obtain ⟨c, hd⟩ : ∃ c, cores[i]? = some c := ⟨cores[i], by simp [hlt]⟩
    have hrow : (cores.map Cor.cells)[i]? = some c.cells := by rw [List.getElem?_map, hd]; rfl
    rw [coresOk_at hd] at hf
    obtain ⟨_, hcl0, hci⟩ := ((hcs _ (List.mem_of_getElem? hrow)).2 (codeT c.code) (.tail _ (.head _))).lst
    rw [List.length_map] at hcl0
    obtain ⟨cn, cc⟩ := c
    have hcl : cc.length ≤ 9223372036854775807 := hcl0
    have hB : coreBad (cores.take i) ⟨cn, cc⟩ = (!nameB cn || hasN cn (cores.take i) || decide ((cc.length : Int) < 1) || decide ((cc.length : Int) > 16384)) := rfl
    clear hcl0
    conv => whnf
    refine ⟨rfl, by omega, (show (i : Int) < ((cores.map Cor.cells).length : Int) by rw [List.length_map]; omega), fun row hr => ?_⟩
    cases hrow.symm.trans hr
    conv => whnf
    refine acall.pure _ (z_name cn) rfl rfl fun _ => ?_
    conv => whnf
    refine CutL.by (fun _ : Unit => ⟨[(1, .ptr 0 0), (3, .tr (ti i)), (4, .ptr 1 0), (5, .tr (tb (nameB cn && !hasN cn (cores.take i))))], [(0, .cells 25 [.tr (intsT memory), .tr (ti shared), .tr (ti locks), .tr (ti buffer), .tr (coresT cores)]), (1, .cells 78 [.tr (ts cn), .tr (codeT cc)])], 200⟩) (fun _ => True) ?_ ?_
    · conv => whnf
      refine LoopL.by (fun x : Nat × Bool => ⟨[(1, .ptr 0 0), (3, .tr (ti i)), (4, .ptr 1 0), (5, .tr (tb x.2)), (6, .tr (ti x.1))], [(0, .cells 25 [.tr (intsT memory), .tr (ti shared), .tr (ti locks), .tr (ti buffer), .tr (coresT cores)]), (1, .cells 78 [.tr (ts cn), .tr (codeT cc)])], 200⟩)
        (fun x => x.1 ≤ i ∧ x.2 = (nameB cn && !hasN cn (cores.take x.1))) (fun x => i - x.1) (0, nameB cn) [0, 210] [] (Sub.mk' rfl ⟨⟨rfl, rfl⟩, .inl rfl, ⟨rfl, rfl⟩, .inl rfl, .inl rfl, trivial⟩ ⟨⟨rfl, .inl rfl, .inl rfl, .inl rfl, .inl rfl, .inl rfl, trivial⟩, ⟨rfl, .inl rfl, .inl rfl, trivial⟩, trivial⟩ rfl rfl) ⟨Nat.zero_le _, by simp [hasN, idxN]⟩ ?_
      rintro ⟨k, ok⟩ ⟨hk, hok⟩ -
      simp only at hk hok
      conv => whnf
      refine csplit (fun hk1 => ?_) (fun hk2 => ?_)
      · replace hk1 : decide ((k : Int) < (i : Int)) = true := hk1
        have hk1 : k < i := by have := of_decide_eq_true hk1; omega
        have hil : i ≤ 9223372036854775807 := by omega
        obtain ⟨e, he⟩ : ∃ e, cores[k]? = some e := ⟨cores[k]'(by omega), by simp⟩
        have hrowk : (cores.map Cor.cells)[k]? = some e.cells := by rw [List.getElem?_map, he]; rfl
        have hsn : hasN cn (cores.take (k + 1)) = (hasN cn (cores.take k) || seq e.name cn) := by rw [take_snoc he, hasN_snoc]
        obtain ⟨en, ec⟩ := e
        simp only at hsn
        cases ok
        · conv => whnf
          refine ⟨by kernel_rfl, fun _ => ?_⟩
          conv => whnf
          refine ⟨(k + 1, false), [0, 1], [], Sub.mk' rfl ⟨⟨rfl, rfl⟩, .inl rfl, ⟨rfl, rfl⟩, .inl rfl, .inl (ti_succ hk1 hil), trivial⟩ ⟨⟨rfl, .inl rfl, .inl rfl, .inl rfl, .inl rfl, .inl rfl, trivial⟩, ⟨rfl, .inl rfl, .inl rfl, trivial⟩, trivial⟩ rfl rfl, ⟨hk1, ?_⟩, by simp only; omega⟩
          simp only [hsn]
          revert hok
          cases nameB cn <;> cases hasN cn (cores.take k) <;> simp
        · conv => whnf
          refine ⟨rfl, (show (0 : Int) ≤ k by omega), (show (k : Int) < ((cores.map Cor.cells).length : Int) by rw [List.length_map]; omega), fun row hr => ?_⟩
          cases hrowk.symm.trans hr
          conv => whnf
          refine ⟨by kernel_rfl, fun _ => ?_⟩
          conv => whnf
          refine ⟨(k + 1, !seq en cn), [0, 1], [], Sub.mk' rfl ⟨⟨rfl, rfl⟩, .inl rfl, ⟨rfl, rfl⟩, .inl rfl, .inl (ti_succ hk1 hil), trivial⟩ ⟨⟨rfl, .inl rfl, .inl rfl, .inl rfl, .inl rfl, .inl rfl, trivial⟩, ⟨rfl, .inl rfl, .inl rfl, trivial⟩, trivial⟩ rfl rfl, ⟨hk1, ?_⟩, by simp only; omega⟩
          simp only [hsn]
          revert hok
          cases nameB cn <;> cases hasN cn (cores.take k) <;> simp
      · replace hk2 : decide ((k : Int) < (i : Int)) = false := hk2
        have hk2 : k = i := by have := of_decide_eq_false hk2; omega
        subst hk2
        conv => whnf
        refine ⟨fun _ => ?_, fun h => absurd rfl h⟩
        conv => whnf
        exact ⟨(), [0, 1], [], Sub.mk' rfl ⟨⟨rfl, rfl⟩, .inl rfl, ⟨rfl, rfl⟩, .inl (congrArg tb hok), trivial⟩ ⟨⟨rfl, .inl rfl, .inl rfl, .inl rfl, .inl rfl, .inl rfl, trivial⟩, ⟨rfl, .inl rfl, .inl rfl, trivial⟩, trivial⟩ rfl rfl, trivial⟩
    · rintro - - -
      generalize hG : (nameB cn && !hasN cn (cores.take i)) = G
      have hBG : coreBad (cores.take i) ⟨cn, cc⟩ = (!G || decide ((cc.length : Int) < 1) || decide ((cc.length : Int) > 16384)) := by rw [hB, ← hG]; cases nameB cn <;> simp
      clear hB
      have el : ((cc.map Ins.cells).length : Int) = cc.length := by rw [List.length_map]
      have bad : ∀ {x : Bool}, coreBad (cores.take i) ⟨cn, cc⟩ = true → x = false → x = coresOk [] cores := fun h1 h2 => by rw [hf, h1, h2]; rfl
      cases G
      · conv => whnf
        exact ⟨.inl (congrArg tb (bad (by rw [hBG]; rfl) rfl)), trivial⟩
      conv => whnf
      refine csplit (fun h3 => ?_) (fun h3 => ?_)
      · replace h3 : decide (((cc.map Ins.cells).length : Int) < 1) = true := h3
        rw [el] at h3
        conv => whnf
        exact ⟨.inl (congrArg tb (bad (by rw [hBG, h3]; rfl) rfl)), trivial⟩
      replace h3 : decide (((cc.map Ins.cells).length : Int) < 1) = false := h3
      rw [el] at h3
      conv => whnf
      refine csplit (fun h4 => ?_) (fun h4 => ?_)
      · replace h4 : decide (((cc.map Ins.cells).length : Int) > 16384) = true := h4
        rw [el] at h4
        conv => whnf
        exact ⟨.inl (congrArg tb (bad (by rw [hBG, h3, h4]; rfl) rfl)), trivial⟩
      replace h4 : decide (((cc.map Ins.cells).length : Int) > 16384) = false := h4
      rw [el] at h4
      rw [h3, h4] at hBG
      replace hBG : coreBad (cores.take i) ⟨cn, cc⟩ = false := hBG
      rw [hBG, Bool.false_or] at hf
      have h3' : ¬ ((cc.length : Int) < 1) := of_decide_eq_false h3
      have ew : IntKind.i64.wrap (((cc.map Ins.cells).length : Int) - 1) = ((cc.length - 1 : Nat) : Int) := by rw [List.length_map, w64 (by omega) (by omega)]; omega
      have hn1 : cc.length - 1 < cc.length := by omega
      obtain ⟨x, hx⟩ : ∃ x, cc[cc.length - 1]? = some x := ⟨cc[cc.length - 1], by simp [hn1]⟩
      have hrowx : (cc.map Ins.cells)[cc.length - 1]? = some x.cells := by rw [List.getElem?_map, hx]; rfl
      have hL : lastBad ⟨cn, cc⟩ = (x.kind != 10 && x.kind != 8) := by unfold lastBad; simp only [hx]
      rw [hL] at hf
      conv => whnf
      rw [ew]
      refine ⟨rfl, by omega, (show ((cc.length - 1 : Nat) : Int) < ((cc.map Ins.cells).length : Int) by rw [el]; omega), fun row hr => ?_⟩
      cases hrowx.symm.trans hr
      conv => whnf
      refine csplit (fun h5 => ?_) (fun h5 => ?_)
      · replace h5 : (x.kind != 10) = true := h5
        conv => whnf
        rw [ew]
        refine ⟨rfl, by omega, (show ((cc.length - 1 : Nat) : Int) < ((cc.map Ins.cells).length : Int) by rw [el]; omega), fun row hr => ?_⟩
        cases hrowx.symm.trans hr
        conv => whnf
        refine csplit (fun h6 => ?_) (fun h6 => ?_)
        · replace h6 : (x.kind != 8) = true := h6
          rw [h5, h6] at hf
          conv => whnf
          exact ⟨.inl (congrArg tb hf.symm), trivial⟩
        · replace h6 : (x.kind != 8) = false := h6
          rw [h5, h6] at hf
          conv => whnf
          exact ⟨i + 1, [0], [], Sub.mk' rfl ⟨⟨rfl, rfl⟩, .inl (ti_succ hlt hl), trivial⟩ ⟨⟨rfl, .inl rfl, .inl rfl, .inl rfl, .inl rfl, .inl rfl, trivial⟩, trivial⟩ rfl rfl, ⟨by omega, hf⟩, by omega⟩
      · replace h5 : (x.kind != 10) = false := h5
        rw [h5] at hf
        conv => whnf
        exact ⟨i + 1, [0], [], Sub.mk' rfl ⟨⟨rfl, rfl⟩, .inl (ti_succ hlt hl), trivial⟩ ⟨⟨rfl, .inl rfl, .inl rfl, .inl rfl, .inl rfl, .inl rfl, trivial⟩, trivial⟩ rfl rfl, ⟨by omega, hf⟩, by omega⟩
  · have hge : cores.length ≤ i := by have := of_decide_eq_false hge; rw [List.length_map] at this; replace this : ¬ (i : Int) < cores.length := this; omega
    rw [List.drop_eq_nil_of_le hge] at hf
    conv => whnf
    refine ⟨fun _ => ?_, fun h => absurd rfl h⟩
    conv => whnf
    exact ⟨.inl (congrArg tb hf.symm), trivial⟩
set_option maxRecDepth 100000 in
set_option maxHeartbeats 2000000 in
theorem z_check (o : Ob) : K 22 [o.av] [] (.ret (tri (checkO o))) [] := by
  refine Ctr.of hT hmix Tryz.func22 rfl (fun _ _ => by kernel_rfl) rfl fun hok => ?_
  obtain ⟨memory, shared, locks, buffer, cores⟩ := o
  obtain ⟨_, hl0, hcs⟩ := ((hok.slot 0 rfl).agg _ (.tail _ (.tail _ (.tail _ (.tail _ (.head _)))))).tr.lst
  rw [List.length_map] at hl0
  have hl : cores.length ≤ 9223372036854775807 := hl0
  clear hok hl0
  have hS : checkO ⟨memory, shared, locks, buffer, cores⟩ = bif !shapedB ⟨memory, shared, locks, buffer, cores⟩ then (160, 0, 0) else coresCk memory.length cores 0 := rfl
  generalize hR : checkO ⟨memory, shared, locks, buffer, cores⟩ = R at hS ⊢
  clear hR
  conv => whnf
  refine acall.pure _ (z_shaped ⟨memory, shared, locks, buffer, cores⟩) rfl rfl fun _ => ?_
  conv => whnf
  refine csplit (fun h1 => ?_) (fun h1 => ?_)
  · rw [h1] at hS
    rw [hS]
    conv => whnf
    exact ⟨⟨.inl rfl, .inl rfl, .inl rfl, trivial⟩, trivial⟩
  rw [h1] at hS
  replace hS : R = coresCk memory.length cores 0 := hS
  rw [hS]
  clear hS h1
  conv => whnf
  refine LoopL.by (fun i : Nat => ⟨[(1, .ptr 0 0), (6, .tr (ti i))], [(0, .cells 25 [.tr (intsT memory), .tr (ti shared), .tr (ti locks), .tr (ti buffer), .tr (coresT cores)])], 60⟩)
    (fun i => i ≤ cores.length ∧ coresCk memory.length cores 0 = coresCk memory.length (cores.drop i) i) (fun i => cores.length - i) 0 [0] [] (Sub.mk' rfl ⟨⟨rfl, rfl⟩, .inl rfl, trivial⟩ ⟨⟨rfl, .inl rfl, .inl rfl, .inl rfl, .inl rfl, .inl rfl, trivial⟩, trivial⟩ rfl rfl) ⟨Nat.zero_le _, rfl⟩ ?_
  rintro i ⟨hi, hf⟩ -
  conv => whnf
  refine csplit (fun hlt => ?_) (fun hge => ?_)
  · have hlt : i < cores.length := by have := of_decide_eq_true hlt; rw [List.length_map] at this; replace this : (i : Int) < cores.length := this; omega
    obtain ⟨c, hd⟩ : ∃ c, cores[i]? = some c := ⟨cores[i], by simp [hlt]⟩
    have hrow : (cores.map Cor.cells)[i]? = some c.cells := by rw [List.getElem?_map, hd]; rfl
    rw [coresCk_at hd] at hf
    obtain ⟨_, hcl0, hci⟩ := ((hcs _ (List.mem_of_getElem? hrow)).2 (codeT c.code) (.tail _ (.head _))).lst
    rw [List.length_map] at hcl0
    obtain ⟨cn, cc⟩ := c
    have hcl : cc.length ≤ 9223372036854775807 := hcl0
    clear hcl0
    generalize hN : badAt (cc.length : Int) (memory.length : Int) cc 0 = N at hf
    conv => whnf
    refine LoopL.by (fun k : Nat => ⟨[(1, .ptr 0 0), (6, .tr (ti i)), (7, .tr (ti k))], [(0, .cells 25 [.tr (intsT memory), .tr (ti shared), .tr (ti locks), .tr (ti buffer), .tr (coresT cores)])], 60⟩)
      (fun k => k ≤ cc.length ∧ N = badAt cc.length memory.length (cc.drop k) k) (fun k => cc.length - k) 0 [0] [] (Sub.mk' rfl ⟨⟨rfl, rfl⟩, .inl rfl, .inl rfl, trivial⟩ ⟨⟨rfl, .inl rfl, .inl rfl, .inl rfl, .inl rfl, .inl rfl, trivial⟩, trivial⟩ rfl rfl) ⟨Nat.zero_le _, hN.symm⟩ ?_
    rintro k ⟨hk, hg⟩ -
    conv => whnf
    refine ⟨rfl, (show (0 : Int) ≤ i by omega), (show (i : Int) < ((cores.map Cor.cells).length : Int) by rw [List.length_map]; omega), fun row hr => ?_⟩
    cases hrow.symm.trans hr
    conv => whnf
    refine csplit (fun hlt2 => ?_) (fun hge2 => ?_)
    · have hlt2 : k < cc.length := by have := of_decide_eq_true hlt2; rw [List.length_map] at this; replace this : (k : Int) < cc.length := this; omega
      obtain ⟨x, hx⟩ : ∃ x, cc[k]? = some x := ⟨cc[k], by simp [hlt2]⟩
      have hrowx : (cc.map Ins.cells)[k]? = some x.cells := by rw [List.getElem?_map, hx]; rfl
      rw [badAt_at hx] at hg
      have hr := z_right x cc.length memory.length
      obtain ⟨x1, x2, x3, x4, x5, x6, x7, x8, x9⟩ := x
      conv => whnf
      refine ⟨rfl, (show (0 : Int) ≤ i by omega), (show (i : Int) < ((cores.map Cor.cells).length : Int) by rw [List.length_map]; omega), fun row hrr => ?_⟩
      cases hrow.symm.trans hrr
      conv => whnf
      refine ⟨rfl, (show (0 : Int) ≤ k by omega), (show (k : Int) < ((cc.map Ins.cells).length : Int) by rw [List.length_map]; omega), fun row hrr => ?_⟩
      cases hrowx.symm.trans hrr
      conv => whnf
      refine ⟨rfl, (show (0 : Int) ≤ i by omega), (show (i : Int) < ((cores.map Cor.cells).length : Int) by rw [List.length_map]; omega), fun row hrr => ?_⟩
      cases hrow.symm.trans hrr
      conv => whnf
      refine acall.gen [] [] _ _ _ _ hr rfl rfl rfl rfl ⟨aut, .inl (by simp), .inl (by simp), trivial⟩ trivial rfl rfl ?_
      conv => whnf
      refine ⟨by kernel_rfl, fun _ => ?_⟩
      conv => whnf
      refine csplit (fun h2 => ?_) (fun h2 => ?_)
      · rw [h2] at hg
        replace hg : N = (k : Int) := hg
        subst hg
        rw [show decide ((k : Int) ≥ 0) = true from decide_eq_true (by omega)] at hf
        rw [hf]
        conv => whnf
        exact ⟨⟨.inl rfl, .inl rfl, .inl rfl, trivial⟩, trivial⟩
      · rw [h2] at hg
        conv => whnf
        exact ⟨k + 1, [0], [], Sub.mk' rfl ⟨⟨rfl, rfl⟩, .inl rfl, .inl (ti_succ hlt2 hcl), trivial⟩ ⟨⟨rfl, .inl rfl, .inl rfl, .inl rfl, .inl rfl, .inl rfl, trivial⟩, trivial⟩ rfl rfl, ⟨by omega, hg⟩, by omega⟩
    · have hge2 : cc.length ≤ k := by have := of_decide_eq_false hge2; rw [List.length_map] at this; replace this : ¬ (k : Int) < cc.length := this; omega
      rw [List.drop_eq_nil_of_le hge2] at hg
      replace hg : N = -1 := hg
      subst hg
      conv => whnf
      refine ⟨fun _ => ?_, fun h => absurd rfl h⟩
      conv => whnf
      exact ⟨i + 1, [0], [], Sub.mk' rfl ⟨⟨rfl, rfl⟩, .inl (ti_succ hlt hl), trivial⟩ ⟨⟨rfl, .inl rfl, .inl rfl, .inl rfl, .inl rfl, .inl rfl, trivial⟩, trivial⟩ rfl rfl, ⟨by omega, hf⟩, by omega⟩
  · have hge : cores.length ≤ i := by have := of_decide_eq_false hge; rw [List.length_map] at this; replace this : ¬ (i : Int) < cores.length := this; omega
    rw [List.drop_eq_nil_of_le hge] at hf
    rw [hf]
    conv => whnf
    refine ⟨fun _ => ?_, fun h => absurd rfl h⟩
    conv => whnf
    exact ⟨⟨.inl rfl, .inl rfl, .inl rfl, trivial⟩, trivial⟩
end Go.Proofs.YtcpolpbeimhgfaaGreat.am

namespace Go.Proofs.YtcpolpbeimhgfaaGreat.am
open Go Go.Proofs
def noE : Evt := ⟨0, 0, 0, 0, 0, false, 0⟩
def evOf (o : Ob) (d : Did) (i : Int) : Evt := (evD o d i).headD noE
theorem evOf_of {o : Ob} {d : Did} {i E th : Int} (hE : evK (whD o d).1 d = E) (ht : (whD o d).2 = th) : evOf o d i = (bif E == 0 then [] else bif E == 1 || E == 2 || E == 3 then [⟨E, d.core, th, d.word, d.put, d.own, i⟩] else bif E == 4 || E == 5 then [⟨E, d.core, th, 0, 0, false, i⟩] else bif E == 6 then [⟨E, d.core, 0, d.word, 0, false, i⟩] else [⟨E, d.core, 0, 0, 0, false, i⟩] : List Evt).headD noE := by unfold evOf; rw [evD_eq hE ht]
theorem evD_R (o : Ob) (d : Did) (i : Int) : evD o d i = bif (evOf o d i).kind != 0 then [evOf o d i] else [] := by
  unfold evOf
  rw [evD_eq rfl rfl]
  generalize evK (whD o d).1 d = E
  cases h0 : E == 0
  · have hb : (E != 0) = true := by unfold bne; rw [h0]; rfl
    cases (E == 1 || E == 2 || E == 3) <;> cases (E == 4 || E == 5) <;> cases E == 6 <;> (show _ = bif E != 0 then _ else _) <;> rw [hb] <;> rfl
  · rfl
theorem nge {a b : Int} (h : decide (a ≥ b) = true) : decide (a < b) = false := by rw [dec_ge] at h; exact not_t h
theorem nlt {a b : Int} (h : decide (a ≥ b) = false) : decide (a < b) = true := by rw [dec_ge] at h; exact not_f h
theorem nne {a b : Int} (h : (a != b) = true) : (a == b) = false := not_t h
set_option maxRecDepth 100000 in
set_option maxHeartbeats 1000000 in
theorem z_event1 (o : Ob) (dc da dd dw dp : Int) (dn : Bool) (i : Int) : K 24 [o.av, didA 1 dc da dd dw dp dn, .tr (ti i)] [] (.ret (.agg ((evOf o ⟨1, dc, da, dd, dw, dp, dn⟩ i).cells.map .tr))) [] := by
  refine Ctr.of hT hmix Tryz.func24 rfl (fun _ _ => by kernel_rfl) rfl fun hok => ?_
  clear hok
  obtain ⟨memory, shared, locks, buffer, cores⟩ := o
  generalize hV : evOf ⟨memory, shared, locks, buffer, cores⟩ ⟨1, dc, da, dd, dw, dp, dn⟩ i = V
  conv => whnf
  have hv : V = noE := by
    rw [← hV, evOf_of (E := 0) (th := 0) (by rw [whD_no rfl]; rfl) (by rw [whD_no rfl])]
    rfl
  subst hv
  exact ⟨⟨.inl rfl, .inl rfl, .inl rfl, .inl rfl, .inl rfl, .inl rfl, .inl rfl, trivial⟩, trivial⟩
set_option maxRecDepth 100000 in
set_option maxHeartbeats 1000000 in
theorem z_event2 (o : Ob) (dc da dd dw dp : Int) (dn : Bool) (i : Int) : K 24 [o.av, didA 2 dc da dd dw dp dn, .tr (ti i)] [] (.ret (.agg ((evOf o ⟨2, dc, da, dd, dw, dp, dn⟩ i).cells.map .tr))) [] := by
  refine Ctr.of hT hmix Tryz.func24 rfl (fun _ _ => by kernel_rfl) rfl fun hok => ?_
  clear hok
  obtain ⟨memory, shared, locks, buffer, cores⟩ := o
  generalize hV : evOf ⟨memory, shared, locks, buffer, cores⟩ ⟨2, dc, da, dd, dw, dp, dn⟩ i = V
  conv => whnf
  refine csplit (fun g1 => ?_) (fun g1 => ?_)
  · conv => whnf
    have hv : V = ⟨1, dc, dd, dw, dp, dn, i⟩ := by
      rw [← hV, evOf_of (E := 1) (th := dd) (by rw [whD_var rfl g1]; rfl) (by rw [whD_var rfl g1])]
      rfl
    subst hv
    exact ⟨⟨.inl rfl, .inl rfl, .inl rfl, .inl rfl, .inl rfl, .inl rfl, .inl rfl, trivial⟩, trivial⟩
  · conv => whnf
    refine csplit (fun g2 => ?_) (fun g2 => ?_)
    · conv => whnf
      have hv : V = noE := by
        rw [← hV, evOf_of (E := 0) (th := 0) (by rw [whD_else rfl g1 (nge g2)]; rfl) (by rw [whD_else rfl g1 (nge g2)])]
        rfl
      subst hv
      exact ⟨⟨.inl rfl, .inl rfl, .inl rfl, .inl rfl, .inl rfl, .inl rfl, .inl rfl, trivial⟩, trivial⟩
    · conv => whnf
      refine csplit (fun g3 => ?_) (fun g3 => ?_)
      · conv => whnf
        have hv : V = noE := by
          rw [← hV, evOf_of (E := 0) (th := wrp (dd - shared)) (by rw [whD_lock rfl g1 (nlt g2)]; rfl) (by rw [whD_lock rfl g1 (nlt g2)])]
          rfl
        subst hv
        exact ⟨⟨.inl rfl, .inl rfl, .inl rfl, .inl rfl, .inl rfl, .inl rfl, .inl rfl, trivial⟩, trivial⟩
      · conv => whnf
        have hv : V = noE := by
          rw [← hV, evOf_of (E := 0) (th := wrp (dd - shared)) (by rw [whD_lock rfl g1 (nlt g2)]; rfl) (by rw [whD_lock rfl g1 (nlt g2)])]
          rfl
        subst hv
        exact ⟨⟨.inl rfl, .inl rfl, .inl rfl, .inl rfl, .inl rfl, .inl rfl, .inl rfl, trivial⟩, trivial⟩
set_option maxRecDepth 100000 in
set_option maxHeartbeats 1000000 in
theorem z_event3 (o : Ob) (dc da dd dw dp : Int) (dn : Bool) (i : Int) : K 24 [o.av, didA 3 dc da dd dw dp dn, .tr (ti i)] [] (.ret (.agg ((evOf o ⟨3, dc, da, dd, dw, dp, dn⟩ i).cells.map .tr))) [] := by
  refine Ctr.of hT hmix Tryz.func24 rfl (fun _ _ => by kernel_rfl) rfl fun hok => ?_
  clear hok
  obtain ⟨memory, shared, locks, buffer, cores⟩ := o
  generalize hV : evOf ⟨memory, shared, locks, buffer, cores⟩ ⟨3, dc, da, dd, dw, dp, dn⟩ i = V
  have hv : V = noE := by
    rw [← hV, evOf_of (E := 0) (th := (whD ⟨memory, shared, locks, buffer, cores⟩ ⟨3, dc, da, dd, dw, dp, dn⟩).2) rfl rfl]
    rfl
  subst hv
  conv => whnf
  exact ⟨⟨.inl rfl, .inl rfl, .inl rfl, .inl rfl, .inl rfl, .inl rfl, .inl rfl, trivial⟩, trivial⟩
set_option maxRecDepth 100000 in
set_option maxHeartbeats 1000000 in
theorem z_event4 (o : Ob) (dc da dd dw dp : Int) (dn : Bool) (i : Int) : K 24 [o.av, didA 4 dc da dd dw dp dn, .tr (ti i)] [] (.ret (.agg ((evOf o ⟨4, dc, da, dd, dw, dp, dn⟩ i).cells.map .tr))) [] := by
  refine Ctr.of hT hmix Tryz.func24 rfl (fun _ _ => by kernel_rfl) rfl fun hok => ?_
  clear hok
  obtain ⟨memory, shared, locks, buffer, cores⟩ := o
  generalize hV : evOf ⟨memory, shared, locks, buffer, cores⟩ ⟨4, dc, da, dd, dw, dp, dn⟩ i = V
  conv => whnf
  refine csplit (fun g1 => ?_) (fun g1 => ?_)
  · conv => whnf
    have hv : V = ⟨3, dc, dd, dw, dp, dn, i⟩ := by
      rw [← hV, evOf_of (E := 3) (th := dd) (by rw [whD_var rfl g1]; rfl) (by rw [whD_var rfl g1])]
      rfl
    subst hv
    exact ⟨⟨.inl rfl, .inl rfl, .inl rfl, .inl rfl, .inl rfl, .inl rfl, .inl rfl, trivial⟩, trivial⟩
  · conv => whnf
    refine csplit (fun g2 => ?_) (fun g2 => ?_)
    · conv => whnf
      have hv : V = noE := by
        rw [← hV, evOf_of (E := 0) (th := 0) (by rw [whD_else rfl g1 (nge g2)]; rfl) (by rw [whD_else rfl g1 (nge g2)])]
        rfl
      subst hv
      exact ⟨⟨.inl rfl, .inl rfl, .inl rfl, .inl rfl, .inl rfl, .inl rfl, .inl rfl, trivial⟩, trivial⟩
    · conv => whnf
      refine csplit (fun g3 => ?_) (fun g3 => ?_)
      · conv => whnf
        have hv : V = noE := by
          rw [← hV, evOf_of (E := 0) (th := wrp (dd - shared)) (by rw [whD_lock rfl g1 (nlt g2)]; show (bif (2 : Int) == 2 && (dw == 0 && dp != 0) then 4 else onE 3 2) = 0; rw [nne g3]; rfl) (by rw [whD_lock rfl g1 (nlt g2)])]
          rfl
        subst hv
        exact ⟨⟨.inl rfl, .inl rfl, .inl rfl, .inl rfl, .inl rfl, .inl rfl, .inl rfl, trivial⟩, trivial⟩
      · conv => whnf
        obtain rfl : dw = 0 := by simpa using g3
        refine csplit (fun g4 => ?_) (fun g4 => ?_)
        · conv => whnf
          have hv : V = ⟨4, dc, wrp (dd - shared), 0, 0, false, i⟩ := by
            rw [← hV, evOf_of (E := 4) (th := wrp (dd - shared)) (by rw [whD_lock rfl g1 (nlt g2)]; show (bif (2 : Int) == 2 && ((0 : Int) == 0 && dp != 0) then 4 else onE 3 2) = 4; rw [show (dp != 0) = true from g4]; rfl) (by rw [whD_lock rfl g1 (nlt g2)])]
            rfl
          subst hv
          exact ⟨⟨.inl rfl, .inl rfl, .inl rfl, .inl rfl, .inl rfl, .inl rfl, .inl rfl, trivial⟩, trivial⟩
        · conv => whnf
          have hv : V = noE := by
            rw [← hV, evOf_of (E := 0) (th := wrp (dd - shared)) (by rw [whD_lock rfl g1 (nlt g2)]; show (bif (2 : Int) == 2 && ((0 : Int) == 0 && dp != 0) then 4 else onE 3 2) = 0; rw [show (dp != 0) = false from g4]; rfl) (by rw [whD_lock rfl g1 (nlt g2)])]
            rfl
          subst hv
          exact ⟨⟨.inl rfl, .inl rfl, .inl rfl, .inl rfl, .inl rfl, .inl rfl, .inl rfl, trivial⟩, trivial⟩
set_option maxRecDepth 100000 in
set_option maxHeartbeats 1000000 in
theorem z_event5 (o : Ob) (dc da dd dw dp : Int) (dn : Bool) (i : Int) : K 24 [o.av, didA 5 dc da dd dw dp dn, .tr (ti i)] [] (.ret (.agg ((evOf o ⟨5, dc, da, dd, dw, dp, dn⟩ i).cells.map .tr))) [] := by
  refine Ctr.of hT hmix Tryz.func24 rfl (fun _ _ => by kernel_rfl) rfl fun hok => ?_
  clear hok
  obtain ⟨memory, shared, locks, buffer, cores⟩ := o
  generalize hV : evOf ⟨memory, shared, locks, buffer, cores⟩ ⟨5, dc, da, dd, dw, dp, dn⟩ i = V
  conv => whnf
  have hv : V = noE := by
    rw [← hV, evOf_of (E := 0) (th := 0) (by rw [whD_no rfl]; rfl) (by rw [whD_no rfl])]
    rfl
  subst hv
  exact ⟨⟨.inl rfl, .inl rfl, .inl rfl, .inl rfl, .inl rfl, .inl rfl, .inl rfl, trivial⟩, trivial⟩
set_option maxRecDepth 100000 in
set_option maxHeartbeats 1000000 in
theorem z_event6 (o : Ob) (dc da dd dw dp : Int) (dn : Bool) (i : Int) : K 24 [o.av, didA 6 dc da dd dw dp dn, .tr (ti i)] [] (.ret (.agg ((evOf o ⟨6, dc, da, dd, dw, dp, dn⟩ i).cells.map .tr))) [] := by
  refine Ctr.of hT hmix Tryz.func24 rfl (fun _ _ => by kernel_rfl) rfl fun hok => ?_
  clear hok
  obtain ⟨memory, shared, locks, buffer, cores⟩ := o
  generalize hV : evOf ⟨memory, shared, locks, buffer, cores⟩ ⟨6, dc, da, dd, dw, dp, dn⟩ i = V
  conv => whnf
  have hv : V = ⟨6, dc, 0, dw, 0, false, i⟩ := by
    rw [← hV, evOf_of (E := 6) (th := 0) (by rw [whD_no rfl]; rfl) (by rw [whD_no rfl])]
    rfl
  subst hv
  exact ⟨⟨.inl rfl, .inl rfl, .inl rfl, .inl rfl, .inl rfl, .inl rfl, .inl rfl, trivial⟩, trivial⟩
set_option maxRecDepth 100000 in
set_option maxHeartbeats 1000000 in
theorem z_event7 (o : Ob) (dc da dd dw dp : Int) (dn : Bool) (i : Int) (hz : dw = 0) : K 24 [o.av, didA 7 dc da dd dw dp dn, .tr (ti i)] [] (.ret (.agg ((evOf o ⟨7, dc, da, dd, dw, dp, dn⟩ i).cells.map .tr))) [] := by
  refine Ctr.of hT hmix Tryz.func24 rfl (fun _ _ => by kernel_rfl) rfl fun hok => ?_
  clear hok
  obtain ⟨memory, shared, locks, buffer, cores⟩ := o
  generalize hV : evOf ⟨memory, shared, locks, buffer, cores⟩ ⟨7, dc, da, dd, dw, dp, dn⟩ i = V
  subst hz
  conv => whnf
  have hv : V = ⟨7, dc, 0, 0, 0, false, i⟩ := by
    rw [← hV, evOf_of (E := 7) (th := 0) (by rw [whD_no rfl]; rfl) (by rw [whD_no rfl])]
    rfl
  subst hv
  exact ⟨⟨.inl rfl, .inl rfl, .inl rfl, .inl rfl, .inl rfl, .inl rfl, .inl rfl, trivial⟩, trivial⟩
set_option maxRecDepth 100000 in
set_option maxHeartbeats 1000000 in
theorem z_event8 (o : Ob) (dc da dd dw dp : Int) (dn : Bool) (i : Int) : K 24 [o.av, didA 8 dc da dd dw dp dn, .tr (ti i)] [] (.ret (.agg ((evOf o ⟨8, dc, da, dd, dw, dp, dn⟩ i).cells.map .tr))) [] := by
  refine Ctr.of hT hmix Tryz.func24 rfl (fun _ _ => by kernel_rfl) rfl fun hok => ?_
  clear hok
  obtain ⟨memory, shared, locks, buffer, cores⟩ := o
  generalize hV : evOf ⟨memory, shared, locks, buffer, cores⟩ ⟨8, dc, da, dd, dw, dp, dn⟩ i = V
  conv => whnf
  refine csplit (fun g1 => ?_) (fun g1 => ?_)
  · conv => whnf
    have hv : V = ⟨2, dc, dd, dw, dp, dn, i⟩ := by
      rw [← hV, evOf_of (E := 2) (th := dd) (by rw [whD_var rfl g1]; rfl) (by rw [whD_var rfl g1])]
      rfl
    subst hv
    exact ⟨⟨.inl rfl, .inl rfl, .inl rfl, .inl rfl, .inl rfl, .inl rfl, .inl rfl, trivial⟩, trivial⟩
  · conv => whnf
    refine csplit (fun g2 => ?_) (fun g2 => ?_)
    · conv => whnf
      have hv : V = noE := by
        rw [← hV, evOf_of (E := 0) (th := 0) (by rw [whD_else rfl g1 (nge g2)]; rfl) (by rw [whD_else rfl g1 (nge g2)])]
        rfl
      subst hv
      exact ⟨⟨.inl rfl, .inl rfl, .inl rfl, .inl rfl, .inl rfl, .inl rfl, .inl rfl, trivial⟩, trivial⟩
    · conv => whnf
      refine csplit (fun g3 => ?_) (fun g3 => ?_)
      · conv => whnf
        have hv : V = noE := by
          rw [← hV, evOf_of (E := 0) (th := wrp (dd - shared)) (by rw [whD_lock rfl g1 (nlt g2)]; show (bif (2 : Int) == 2 && dw == 0 then 5 else onE 2 2) = 0; rw [nne g3]; rfl) (by rw [whD_lock rfl g1 (nlt g2)])]
          rfl
        subst hv
        exact ⟨⟨.inl rfl, .inl rfl, .inl rfl, .inl rfl, .inl rfl, .inl rfl, .inl rfl, trivial⟩, trivial⟩
      · conv => whnf
        obtain rfl : dw = 0 := by simpa using g3
        have hv : V = ⟨5, dc, wrp (dd - shared), 0, 0, false, i⟩ := by
          rw [← hV, evOf_of (E := 5) (th := wrp (dd - shared)) (by rw [whD_lock rfl g1 (nlt g2)]; rfl) (by rw [whD_lock rfl g1 (nlt g2)])]
          rfl
        subst hv
        exact ⟨⟨.inl rfl, .inl rfl, .inl rfl, .inl rfl, .inl rfl, .inl rfl, .inl rfl, trivial⟩, trivial⟩
theorem right_halt {d : Did} (h : rightD d = true) (hk : d.kind = 7) : d.word = 0 := by
  unfold rightD usdD at h
  cases ho : outD d with
  | true => rw [ho] at h; cases h
  | false =>
    rw [ho] at h
    simp only [cond_false, Bool.and_eq_true, Bool.or_eq_true] at h
    have h2 := h.2.1
    rw [hk] at h2
    rcases h2 with h2 | h2 | h2
    · exact absurd h2 (by decide)
    · exact absurd h2 (by decide)
    · simpa using h2
theorem z_event (o : Ob) (d : Did) (i : Int) (hr : rightD d = true) (h0 : 0 ≤ d.kind) : K 24 [o.av, d.av, .tr (ti i)] [] (.ret (.agg ((evOf o d i).cells.map .tr))) [] := by
  have hk := right_kind' hr
  have hh := right_halt hr
  obtain ⟨dk, dc, da, dd, dw, dp, dn⟩ := d
  simp only at hk h0 hh
  rcases hk with rfl | rfl | rfl | rfl | rfl | rfl | rfl | rfl | hk
  · exact z_event1 o dc da dd dw dp dn i
  · exact z_event2 o dc da dd dw dp dn i
  · exact z_event3 o dc da dd dw dp dn i
  · exact z_event4 o dc da dd dw dp dn i
  · exact z_event5 o dc da dd dw dp dn i
  · exact z_event6 o dc da dd dw dp dn i
  · exact z_event7 o dc da dd dw dp dn i (hh rfl)
  · exact z_event8 o dc da dd dw dp dn i
  · omega
end Go.Proofs.YtcpolpbeimhgfaaGreat.am

namespace Go.Proofs.YtcpolpbeimhgfaaGreat.ws
open Go Go.RowKit Go.Lib

/-- what stands in the block after j digits -/
def prRow (l : List UInt8) : Array Value := (List.replicate (20 - l.length) (Value.int .u8 0) ++ l.map fun c => Value.int .u8 c.toNat).toArray

theorem prRow_eq (l : List UInt8) : (prRow l).toList = List.replicate (20 - l.length) (Value.int .u8 0) ++ l.map fun c => Value.int .u8 c.toNat := rfl
theorem prRow_get (l : List UInt8) (p : Nat) (hp : 1 ≤ p) (hl : p + l.length = 20) : (prRow l)[p - 1]? = some (.int .u8 0) := by
  unfold prRow
  have h : 20 - l.length = (p - 1) + 1 := by omega
  rw [List.getElem?_toArray, List.getElem?_append_left (by simp; omega), h, List.getElem?_replicate, if_pos (by omega)]
theorem prRow_set (l : List UInt8) (c : UInt8) (p : Nat) (hp : 1 ≤ p) (hl : p + l.length = 20) : (prRow l).setIfInBounds (p - 1) (.int .u8 c.toNat) = prRow (c :: l) := by
  unfold prRow
  have h : 20 - l.length = (p - 1) + 1 := by omega
  have h' : 20 - (c :: l).length = p - 1 := by simp; omega
  rw [h, h', List.setIfInBounds_toArray, List.replicate_succ', List.append_assoc]
  congr 1
  rw [List.set_append_right _ _ (by simp)]
  simp
theorem prRow_at (l : List UInt8) (p i : Nat) (hl : p + l.length = 20) (hi : i < l.length) : (prRow l)[p + i]? = some (.int .u8 (l[i]'hi).toNat) := by
  unfold prRow
  rw [List.getElem?_toArray, List.getElem?_append_right (by simp; omega)]
  simp [show p + i - (20 - l.length) = i by omega, hi]
theorem slice_end (B p : Nat) (hp : 1 ≤ p) (hp2 : p ≤ 20) (W : World) :
    (Instr.sliceAt 169 (.pointer (some ⟨B, 0, none⟩)) (some (.int .i64 ((p : Int) - 1))) none none).run Tryz.prog W = .ok (.slice (some ⟨B, p - 1, none⟩) (21 - p) (21 - p)) W := by
  have hal : Tryz.prog.arrayLen 169 = 20 := by kernel_rfl
  have hu : Tryz.prog.underlying 169 = some (.array (Tryz.prog.arrayLen 169) (Tryz.prog.elem 169)) := by kernel_rfl
  have hz : ∀ W, (sizeOf (Tryz.prog.elem 169)).run Tryz.prog W = .ok 1 W := fun W => by kernel_rfl
  rw [run_sliceAt_array_l W _ _ hu .i64 _ (by omega) (by rw [hal]; omega), hz]
  simp only [Result.andThen, slicedAt, hal]
  have e : ((p : Int) - 1).toNat = p - 1 := by omega
  rw [e, if_neg (by omega)]
  have e2 : (⟨B, 0, none⟩ : Addr).add ((p - 1) * 1) = ⟨B, p - 1, none⟩ := by
    unfold Addr.add
    by_cases h : (p - 1) * 1 = 0
    · rw [if_pos h, show p - 1 = 0 by omega]
    · rw [if_neg h]; simp
  rw [e2, show 20 - (p - 1) = 21 - p by omega]
theorem conv_end (l : List UInt8) (p n : Nat) (w : World) (hl : p + l.length = 20) (hn : l.length = n) :
    (convert 101 9 (.slice (some ⟨w.heap.size, p, none⟩) n n)).run Tryz.prog (w.alloc (.cells (prRow l) 169)) = .ok (.string ⟨l.toArray⟩) (w.alloc (.cells (prRow l) 169)) := by
  subst hn
  refine run_convert_bytes_back _ _ _ 5 _ _ l Tryz.underlying101 Tryz.underlying5 Tryz.underlying9 fun j hj => ?_
  have e : (⟨w.heap.size, p, none⟩ : Addr).add j = ⟨w.heap.size, p + j, none⟩ := by
    unfold Addr.add; split <;> simp_all
  rw [e, World.cell?_alloc_at _ _ _ _ rfl, prRow_at l p j hl hj]
theorem dig_toNat (n : Nat) : (dch (n % 10)).toNat = 48 + n % 10 := dch_toNat (by omega)

theorem pow_bound {n j : Nat} (h : n * 10 ^ j ≤ 9223372036854775808) (hn : 0 < n) : j ≤ 18 := by
  apply Decidable.byContradiction
  intro hj
  have h1 : 10 ^ 19 ≤ 10 ^ j := Nat.pow_le_pow_right (by decide) (by omega)
  have h2 : 1 * 10 ^ j ≤ n * 10 ^ j := Nat.mul_le_mul_right _ hn
  have h3 : (10 : Nat) ^ 19 = 10000000000000000000 := by decide
  omega
theorem pow_step {n j N : Nat} (h : n * 10 ^ j ≤ N) : n / 10 * 10 ^ (j + 1) ≤ N := by
  have h1 : n / 10 * 10 ≤ n := Nat.div_mul_le_self n 10
  have h2 := Nat.mul_le_mul_right (10 ^ j) h1
  have h3 : n / 10 * 10 ^ (j + 1) = n / 10 * 10 * 10 ^ j := by rw [Nat.pow_succ, Nat.mul_assoc, Nat.mul_comm 10]
  omega

def rowOf (p : Nat) (d : Int) (l : List UInt8) : Array Value := (prRow l).setIfInBounds (p - 1) (.int .u8 d)
theorem rowOf_eq (p m : Nat) (l : List UInt8) (hp : 1 ≤ p) (hl : p + l.length = 20) : (prRow l).setIfInBounds (p - 1) (.int .u8 (48 + (m : Int) % 10)) = prRow (dch (m % 10) :: l) := by
  rw [← prRow_set l _ p hp hl, dig_toNat]
  rfl
theorem minus_eq (p : Nat) (l : List UInt8) (hp : 1 ≤ p) (hl : p + l.length = 20) : (prRow l).setIfInBounds (p - 1) (.int .u8 45) = prRow (45 :: l) := prRow_set l 45 p hp hl

set_option maxRecDepth 100000 in
set_option maxHeartbeats 1000000 in
theorem print_pos (N : Nat) (w : World) (hN : N ≤ 9223372036854775807) :
    Calls Tryz.prog 67 #[.int .i64 N] w fun e w' => e = .returned (.string ⟨(prn N).toArray⟩) ∧ Below w.heap.size w w' := by
  have R : Hid (prn N = dig N) := by
    show prn N = dig N
    unfold prn; rw [if_neg (by omega)]; rfl
  go_enter Tryz.func67, Tryz.ntmps67
  go_wp2
  go_loopw [4, 5] (fun a n wr => ∃ (l : List UInt8) (p m : Nat), p + l.length = 20 ∧ 1 ≤ p ∧ a = .int .i64 p ∧ n = .int .u64 m ∧ m ≤ N ∧ Hid ((0 < l.length → 0 < m) ∧ m * 10 ^ l.length ≤ N ∧ dig N = dig m ++ l) ∧ wr = w.alloc (.cells (prRow l) 169)) (fun a _ _ => (intOf a).toNat)
  case atStart => exact ⟨[], 20, N, rfl, by omega, rfl, rfl, by omega, ⟨fun h => absurd h (by decide), by simp, by simp⟩, rfl⟩
  case round =>
    obtain ⟨l, p, m, hp, hp1, rfl, rfl, hmN, H, rfl⟩ := hrel
    have hg := prRow_get l p hp1 hp
    have hsl := slice_end w.heap.size p hp1 (by omega)
    have hrow := rowOf_eq p m l hp1 hp
    by_cases h9 : m < 10
    · have hz : (((m : Int) / 10) == 0) = true := by simp; omega
      have hcv := conv_end (dch (m % 10) :: l) (p - 1) (21 - p) w (by simp; omega) (by simp; omega)
      go_wp2
      go_ret
      refine ⟨ret_str ?_, (Below.refl _ _).alloc (Nat.le_refl _) _⟩
      rw [R.out, H.out.2.2, dig_small h9, show m % 10 = m by omega]
      rfl
    · have hz : (((m : Int) / 10) == 0) = false := by simp; omega
      go_wp2
      have hl18 : l.length + 1 ≤ 18 := pow_bound (n := m / 10) (by have := pow_step H.out.2.1; omega) (by omega)
      go_roundw
      case rel =>
        exact ⟨dch (m % 10) :: l, p - 1, m / 10, by simp; omega, by omega, by go_num, by go_num, by omega, ⟨fun _ => by omega, pow_step H.out.2.1, by rw [H.out.2.2, dig_big h9, List.append_assoc]; rfl⟩, rfl⟩
      case measure => simp [intOf]; omega

set_option maxRecDepth 100000 in
set_option maxHeartbeats 1000000 in
theorem print_neg (N : Nat) (w : World) (hN : N ≤ 9223372036854775808) (h0 : 0 < N) :
    Calls Tryz.prog 67 #[.int .i64 (-(N : Int))] w fun e w' => e = .returned (.string ⟨(prn (-(N : Int))).toArray⟩) ∧ Below w.heap.size w w' := by
  have R : Hid (prn (-(N : Int)) = 45 :: dig N) := by
    show prn _ = _
    unfold prn; rw [if_pos (by omega), Int.neg_neg]; rfl
  have hlt : -(N : Int) < 0 := by omega
  have hw : IntKind.u64.wrap (-(IntKind.u64.wrap (-(N : Int)))) = N := by rw [IntKind.wrap_u64, IntKind.wrap_u64]; omega
  go_enter Tryz.func67, Tryz.ntmps67
  go_wp2
  go_loopw [4, 5] (fun a n wr => ∃ (l : List UInt8) (p m : Nat), p + l.length = 20 ∧ 2 ≤ p ∧ a = .int .i64 p ∧ n = .int .u64 m ∧ m ≤ N ∧ Hid ((0 < l.length → 0 < m) ∧ m * 10 ^ l.length ≤ N ∧ dig N = dig m ++ l) ∧ wr = w.alloc (.cells (prRow l) 169)) (fun a _ _ => (intOf a).toNat)
  case atStart => exact ⟨[], 20, N, rfl, by omega, rfl, rfl, by omega, ⟨fun h => absurd h (by decide), by simp, by simp⟩, rfl⟩
  case round =>
    obtain ⟨l, p, m, hp, hp1, rfl, rfl, hmN, H, rfl⟩ := hrel
    have hg := prRow_get l p (by omega) hp
    have hrow := rowOf_eq p m l (by omega) hp
    by_cases h9 : m < 10
    · have hz : (((m : Int) / 10) == 0) = true := by simp; omega
      have hp' : p - 1 + (dch (m % 10) :: l).length = 20 := by simp; omega
      have hg' := prRow_get (dch (m % 10) :: l) (p - 1) (by omega) hp'
      have hmin := minus_eq (p - 1) (dch (m % 10) :: l) (by omega) hp'
      have hsl := slice_end w.heap.size (p - 1) (by omega) (by omega)
      have hcv := conv_end (45 :: dch (m % 10) :: l) (p - 1 - 1) (21 - (p - 1)) w (by simp; omega) (by simp; omega)
      have e : ((p - 1 : Nat) : Int) = (p : Int) - 1 := by omega
      rw [e] at hsl
      clear e hp'
      go_wp2
      go_ret
      refine ⟨ret_str ?_, (Below.refl _ _).alloc (Nat.le_refl _) _⟩
      rw [R.out, H.out.2.2, dig_small h9, show m % 10 = m by omega]
      rfl
    · have hz : (((m : Int) / 10) == 0) = false := by simp; omega
      go_wp2
      have hl18 : l.length + 1 ≤ 18 := pow_bound (n := m / 10) (by have := pow_step H.out.2.1; omega) (by omega)
      go_roundw
      case rel =>
        exact ⟨dch (m % 10) :: l, p - 1, m / 10, by simp; omega, by omega, by go_num, by go_num, by omega, ⟨fun _ => by omega, pow_step H.out.2.1, by rw [H.out.2.2, dig_big h9, List.append_assoc]; rfl⟩, rfl⟩
      case measure => simp [intOf]; omega

theorem print_any (v : Int) (w : World) (h1 : -9223372036854775808 ≤ v) (h2 : v ≤ 9223372036854775807) :
    Calls Tryz.prog 67 #[.int .i64 v] w fun e w' => e = .returned (.string ⟨(prn v).toArray⟩) ∧ Below w.heap.size w w' := by
  by_cases h : 0 ≤ v
  · obtain ⟨N, rfl⟩ := Int.eq_ofNat_of_zero_le h
    exact print_pos N w (by omega)
  · obtain ⟨N, hN⟩ := Int.eq_ofNat_of_zero_le (a := -v) (by omega)
    obtain rfl : v = -(N : Int) := by omega
    exact print_neg N w (by omega) (by omega)
end Go.Proofs.YtcpolpbeimhgfaaGreat.ws
