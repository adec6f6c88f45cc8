/- The law Stays. from an instruction of a right code one comes to instructions of it alone: for every input the law returns true, and each argument reads as it did. Conditions: the tables lie as the program's text lays them (the card ties them). -/
import Derived.Test.YtffhoknkfohfgaaDoorJ10
import Derived.Test.YtffhoknkfohfgaaDoorRows
import Derived.Test.YtffhoknkfohfgaaDoorCards
import Derived.Test.YtffhoknkfohfgaaDoorTie
import Derived.Test.YtffhoknkfohfgaaDoorJ8
import Derived.Deep.DeepHandedRow
import Derived.ProofKit
import Derived.Lay
import Derived.MakeChecks
set_option linter.all false

namespace Go.Proofs.YtffhoknkfohfgaaDoor.am
open Go Go.Proofs
theorem within_ok {all n u most : Int} (h : withinB all n u most = true) (hm : 0 < most) : 0 ≤ n ∧ n < most := by
  unfold withinB at h
  rw [Bool.or_eq_true] at h
  rcases h with h | h
  · rw [Bool.and_eq_true] at h
    have : n = 0 := by simpa using h.2
    omega
  · rw [Bool.and_eq_true, Bool.and_eq_true] at h
    exact ⟨of_decide_eq_true h.1.2, of_decide_eq_true h.2⟩
structure RightP (i : Ins) (code : Int) : Prop where
  kind : 1 ≤ i.kind ∧ i.kind < 11
  d : 0 ≤ i.d ∧ i.d < 16
  a : 0 ≤ i.a ∧ i.a < 16
  b : 0 ≤ i.b ∧ i.b < 16
  to_ : 0 < code → 0 ≤ i.to_ ∧ i.to_ < code
theorem right_p {i : Ins} {code mem : Int} (h : rightB i code mem = true) : RightP i code := by
  have hk := right_kind h
  unfold rightB at h
  simp only [Bool.and_eq_true] at h
  obtain ⟨_, ⟨⟨⟨⟨⟨_, h2⟩, h3⟩, h4⟩, _⟩, h6⟩, _⟩ := h
  exact ⟨hk, within_ok h2 (by decide), within_ok h3 (by decide), within_ok h4 (by decide), fun hc => within_ok h6 hc⟩
theorem good_last {o : Ob} (h : (checkO o).1 = 0) : ∀ c ∈ o.cores, lastBad c = false := by
  obtain ⟨h1, _⟩ := check_iff.1 h
  unfold shapedB at h1
  cases hb : headBad o
  · rw [hb] at h1
    exact fun c hc => (coresOk_mem h1 c hc).2.2.2
  · rw [hb] at h1; cases h1
theorem reads_in {i : Ins} {code : Int} (h : RightP i code) : ∀ z ∈ readsS i, 0 ≤ z ∧ z < 16 := by
  intro z
  unfold readsS
  have ha := h.a
  have hb := h.b
  have hd := h.d
  cases i.kind == 2 <;> cases two i.op <;> cases (i.kind == 4 || i.kind == 7 || i.kind == 9) <;> cases i.kind == 5 <;> intro hz <;> simp at hz <;> first
    | (rcases hz with rfl | rfl <;> assumption)
    | (subst hz; assumption)
theorem writes_in {i : Ins} {code : Int} (h : RightP i code) : 0 ≤ (writesS i).1 ∧ (writesS i).1 < 16 := by
  unfold writesS
  have hd := h.d
  cases (i.kind == 1 || i.kind == 2 || i.kind == 3 || i.kind == 5)
  · exact ⟨Int.le_refl _, show (0 : Int) < 16 by decide⟩
  · exact hd
/-- what comes next lies in the code -/
theorem follows_in {c : Cor} {k : Nat} {i : Ins} (hi : c.code[k]? = some i) (hl : lastBad c = false) (hn : c.code.length ≤ 16384) (h : RightP i c.code.length) : ∀ z ∈ followsS i k, 0 ≤ z ∧ z < c.code.length := by
  intro z hz
  have hk := (List.getElem?_eq_some_iff.1 hi).1
  have hto := h.to_ (by omega)
  have hnext : i.kind ≠ 10 → i.kind ≠ 8 → k + 1 < c.code.length := by
    intro h1 h2
    apply Decidable.byContradiction
    intro hc
    have e : k = c.code.length - 1 := by omega
    unfold lastBad at hl
    rw [← e, hi] at hl
    simp [h1, h2] at hl
  have hw : IntKind.i64.wrap ((k : Int) + 1) = ((k + 1 : Nat) : Int) := by rw [w64 (by omega) (by omega)]; rfl
  unfold followsS at hz
  have hok : kok i.kind = true := by unfold kok; simp [h.kind]
  rw [hok, hw] at hz
  by_cases h10 : i.kind = 10
  · rw [h10] at hz; simp at hz
  by_cases h8 : i.kind = 8
  · rw [h8] at hz; simp at hz; subst hz; exact hto
  have hx := hnext h10 h8
  by_cases h9 : i.kind = 9
  · rw [h9] at hz; simp at hz
    rcases hz with rfl | rfl
    · omega
    · exact hto
  · rw [show (i.kind == 10) = false from beq_eq_false_iff_ne.2 h10, show (i.kind == 8) = false from beq_eq_false_iff_ne.2 h8, show (i.kind == 9) = false from beq_eq_false_iff_ne.2 h9] at hz
    simp at hz; subst hz; omega
theorem follows_len (i : Ins) (k : Int) : (followsS i k).length ≤ 2 := by
  unfold followsS
  cases kok i.kind <;> cases i.kind == 10 <;> cases i.kind == 8 <;> cases i.kind == 9 <;> simp
theorem reads_len (i : Ins) : (readsS i).length ≤ 2 := by
  unfold readsS
  cases i.kind == 2 <;> cases two i.op <;> cases (i.kind == 4 || i.kind == 7 || i.kind == 9) <;> cases i.kind == 5 <;> simp
theorem follows_end {i : Ins} {k : Int} {code : Int} (h : RightP i code) : (((followsS i k).length : Int) == 0) = (i.kind == 10) := by
  unfold followsS
  have hok : kok i.kind = true := by unfold kok; simp [h.kind]
  rw [hok]
  by_cases h10 : i.kind = 10
  · rw [h10]; rfl
  rw [show (i.kind == 10) = false from beq_eq_false_iff_ne.2 h10]
  cases i.kind == 8 <;> cases i.kind == 9 <;> rfl
set_option maxRecDepth 100000 in
set_option maxHeartbeats 1000000 in
theorem k_stays (o : Ob) : K 5 [o.av] [] (.ret (.tr (tb true))) [] := by
  refine Ctr.of hT hmix Tryd.func5 rfl (fun _ _ => by kernel_rfl) rfl fun hok => ?_
  obtain ⟨_, hcl0, _⟩ := ((hok.slot 0 rfl).agg _ (.tail _ (.tail _ (.tail _ (.tail _ (.head _)))))).tr.lst
  rw [List.length_map] at hcl0
  have hcl : o.cores.length ≤ 9223372036854775807 := hcl0
  clear hok hcl0
  have hc := k_check o
  have hG : (checkO o).1 = 0 → Good o := fun h => check_good h
  have hL : (checkO o).1 = 0 → ∀ c ∈ o.cores, lastBad c = false := fun h => good_last h
  obtain ⟨memory, shared, locks, buffer, cores⟩ := o
  generalize checkO ⟨memory, shared, locks, buffer, cores⟩ = R at hc hG hL
  conv => whnf
  refine acall.pure _ (k_begins) rfl rfl fun _ => ?_
  conv => whnf
  refine acall.pure _ (hc) rfl rfl fun _ => ?_
  conv => whnf
  refine csplit (fun h0 => ?_) (fun h0 => ?_)
  · conv => whnf
    exact ⟨.inl rfl, trivial⟩
  have h0 : R.1 = 0 := by simpa using h0
  replace hG := hG h0
  replace hL := hL h0
  have hL : ∀ c ∈ cores, lastBad c = false := hL
  have hCode : ∀ c ∈ cores, 1 ≤ c.code.length ∧ c.code.length ≤ 16384 := hG.code
  have hRight : ∀ c ∈ cores, ∀ i ∈ c.code, rightB i c.code.length memory.length = true := hG.right
  replace hcl : cores.length ≤ 9223372036854775807 := hcl
  clear hG hc h0
  conv => whnf
  refine LoopL.by (fun i : Nat => ⟨[(1, .ptr 0 0), (6, .tr (ti i))], [(0, obB (.tr (intsT memory)) shared locks buffer (.tr (coresT cores)))], 10⟩) (fun i => i ≤ cores.length) (fun i => cores.length - i) 0 [0] [] (Sub.mk' rfl ⟨⟨rfl, rfl⟩, .inl rfl, trivial⟩ ⟨⟨rfl, .inl rfl, .inl rfl, .inl rfl, .inl rfl, .inl rfl, trivial⟩, trivial⟩ rfl rfl) (Nat.zero_le _) ?_
  rintro i hi -
  conv => whnf
  refine csplit (fun hlt => ?_) (fun hge => ?_)
  · have hlt : i < cores.length := by have := of_decide_eq_true hlt; rw [List.length_map] at this; omega
    conv => whnf
    refine ⟨rfl, (show (0 : Int) ≤ i by omega), (show (i : Int) < (List.map Cor.cells cores).length by rw [List.length_map]; omega), fun row hrow => ?_⟩
    obtain ⟨c, hd, rfl⟩ := map_get hrow
    replace hd : cores[i]? = some c := hd
    have hmem := List.mem_of_getElem? hd
    have hl := hL c hmem
    have hcd := hCode c hmem
    have hrt := hRight c hmem
    clear hrow
    obtain ⟨cn, cc⟩ := c
    simp only at hcd hrt
    have hcc : cc.length ≤ 9223372036854775807 := by omega
    conv => whnf
    refine LoopL.by (fun k : Nat => ⟨[(1, .ptr 0 0), (6, .tr (ti i)), (7, .tr (codeT cc)), (8, .tr (ti k))], [(0, obB (.tr (intsT memory)) shared locks buffer (.tr (coresT cores)))], 10⟩) (fun k => k ≤ cc.length) (fun k => cc.length - k) 0 [0] [] (Sub.mk' rfl ⟨⟨rfl, rfl⟩, .inl rfl, .inl rfl, .inl rfl, trivial⟩ ⟨⟨rfl, .inl rfl, .inl rfl, .inl rfl, .inl rfl, .inl rfl, trivial⟩, trivial⟩ rfl rfl) (Nat.zero_le _) ?_
    rintro k hk -
    conv => whnf
    refine csplit (fun hlt2 => ?_) (fun hge2 => ?_)
    · have hlt2 : k < cc.length := by have := of_decide_eq_true hlt2; rw [List.length_map] at this; omega
      obtain ⟨x, hx⟩ : ∃ x, cc[k]? = some x := ⟨cc[k], by simp [hlt2]⟩
      have hrowx : (cc.map Ins.cells)[k]? = some x.cells := by rw [List.getElem?_map, hx]; rfl
      have hr := hrt x (List.mem_of_getElem? hx)
      have hp := right_p hr
      have hfi := follows_in (c := ⟨cn, cc⟩) hx hl hcd.2 hp
      have hfe := follows_end (k := (k : Int)) hp
      have hri := reads_in hp
      have hwi := writes_in hp
      have kf := k_follows x k
      have kr := k_reads x
      have kw := k_writes x
      have kR := k_right x cc.length memory.length
      rw [hr] at kR
      simp only at hfi
      have lF := follows_len x k
      have lA := reads_len x
      generalize followsS x k = F at hfi hfe kf lF
      generalize readsS x = A at hri kr lA
      generalize writesS x = Q at hwi kw
      obtain ⟨x1, x2, x3, x4, x5, x6, x7, x8, x9⟩ := x
      clear hr hp hx
      simp only at hfe
      conv => whnf
      refine ⟨rfl, (show (0 : Int) ≤ k by omega), (show (k : Int) < (List.map Ins.cells cc).length by rw [List.length_map]; omega), fun row hr => ?_⟩
      cases hrowx.symm.trans hr
      conv => whnf
      refine acall.pure _ (kf) rfl rfl fun _ => ?_
      conv => whnf
      refine LoopL.by (fun j : Nat => ⟨[(1, .ptr 0 0), (6, .tr (ti i)), (7, .tr (codeT cc)), (8, .tr (ti k)), (9, .tr (intsT F)), (10, .tr (ti j))], [(0, obB (.tr (intsT memory)) shared locks buffer (.tr (coresT cores)))], 10⟩) (fun j => j ≤ F.length) (fun j => F.length - j) 0 [0] [] (Sub.mk' rfl ⟨⟨rfl, rfl⟩, .inl rfl, .inl rfl, .inl rfl, .inl rfl, .inl rfl, trivial⟩ ⟨⟨rfl, .inl rfl, .inl rfl, .inl rfl, .inl rfl, .inl rfl, trivial⟩, trivial⟩ rfl rfl) (Nat.zero_le _) ?_
      rintro j hj -
      conv => whnf
      refine csplit (fun hlt3 => ?_) (fun hge3 => ?_)
      · have hlt3 : j < F.length := by have := of_decide_eq_true hlt3; rw [List.length_map] at this; omega
        obtain ⟨z, hz⟩ : ∃ z, F[j]? = some z := ⟨F[j], by simp [hlt3]⟩
        have hrz : (F.map irow)[j]? = some (irow z) := by rw [List.getElem?_map, hz]; rfl
        have hzi := hfi z (List.mem_of_getElem? hz)
        conv => whnf
        refine ⟨rfl, (show (0 : Int) ≤ j by omega), (show (j : Int) < (List.map irow F).length by rw [List.length_map]; omega), fun row hr => ?_⟩
        cases hrz.symm.trans hr
        conv => whnf
        refine csplit (fun hn => ?_) (fun hn => ?_)
        · exfalso; have := of_decide_eq_true hn; omega
        conv => whnf
        refine ⟨rfl, (show (0 : Int) ≤ j by omega), (show (j : Int) < (List.map irow F).length by rw [List.length_map]; omega), fun row hr => ?_⟩
        cases hrz.symm.trans hr
        conv => whnf
        refine csplit (fun hm => ?_) (fun hm => ?_)
        · exfalso; have := of_decide_eq_true hm; rw [List.length_map] at this; omega
        conv => whnf
        exact ⟨j + 1, [0], [], Sub.mk' rfl ⟨⟨rfl, rfl⟩, .inl rfl, .inl rfl, .inl rfl, .inl rfl, .inl (ti_succ hlt3 (by omega)), trivial⟩ ⟨⟨rfl, .inl rfl, .inl rfl, .inl rfl, .inl rfl, .inl rfl, trivial⟩, trivial⟩ rfl rfl, hlt3, by omega⟩
      conv => whnf
      refine ⟨fun _ => ?_, fun h => absurd rfl h⟩
      conv => whnf
      refine ⟨rfl, (show (0 : Int) ≤ k by omega), (show (k : Int) < (List.map Ins.cells cc).length by rw [List.length_map]; omega), fun row hr => ?_⟩
      cases hrowx.symm.trans hr
      conv => whnf
      refine csplit (fun hq => ?_) (fun hq => ?_)
      · exfalso
        have hq : (((((F.map irow).length : Nat) : Int) == 0) != (x1 == 10)) = true := hq
        rw [List.length_map, hfe] at hq
        simp at hq
      conv => whnf
      refine ⟨rfl, (show (0 : Int) ≤ k by omega), (show (k : Int) < (List.map Ins.cells cc).length by rw [List.length_map]; omega), fun row hr => ?_⟩
      cases hrowx.symm.trans hr
      conv => whnf
      refine acall.pure _ (kr) rfl rfl fun _ => ?_
      conv => whnf
      refine LoopL.by (fun j : Nat => ⟨[(1, .ptr 0 0), (6, .tr (ti i)), (7, .tr (codeT cc)), (8, .tr (ti k)), (11, .tr (intsT A)), (12, .tr (ti j))], [(0, obB (.tr (intsT memory)) shared locks buffer (.tr (coresT cores)))], 10⟩) (fun j => j ≤ A.length) (fun j => A.length - j) 0 [0] [] (Sub.mk' rfl ⟨⟨rfl, rfl⟩, .inl rfl, .inl rfl, .inl rfl, .inl rfl, .inl rfl, trivial⟩ ⟨⟨rfl, .inl rfl, .inl rfl, .inl rfl, .inl rfl, .inl rfl, trivial⟩, trivial⟩ rfl rfl) (Nat.zero_le _) ?_
      rintro j hj -
      conv => whnf
      refine csplit (fun hlt3 => ?_) (fun hge3 => ?_)
      · have hlt3 : j < A.length := by have := of_decide_eq_true hlt3; rw [List.length_map] at this; omega
        obtain ⟨z, hz⟩ : ∃ z, A[j]? = some z := ⟨A[j], by simp [hlt3]⟩
        have hrz : (A.map irow)[j]? = some (irow z) := by rw [List.getElem?_map, hz]; rfl
        have hzi := hri z (List.mem_of_getElem? hz)
        conv => whnf
        refine ⟨rfl, (show (0 : Int) ≤ j by omega), (show (j : Int) < (List.map irow A).length by rw [List.length_map]; omega), fun row hr => ?_⟩
        cases hrz.symm.trans hr
        conv => whnf
        refine csplit (fun hn => ?_) (fun hn => ?_)
        · exfalso; have := of_decide_eq_true hn; omega
        conv => whnf
        refine ⟨rfl, (show (0 : Int) ≤ j by omega), (show (j : Int) < (List.map irow A).length by rw [List.length_map]; omega), fun row hr => ?_⟩
        cases hrz.symm.trans hr
        conv => whnf
        refine csplit (fun hm => ?_) (fun hm => ?_)
        · exfalso; have := of_decide_eq_true hm; omega
        conv => whnf
        exact ⟨j + 1, [0], [], Sub.mk' rfl ⟨⟨rfl, rfl⟩, .inl rfl, .inl rfl, .inl rfl, .inl rfl, .inl (ti_succ hlt3 (by omega)), trivial⟩ ⟨⟨rfl, .inl rfl, .inl rfl, .inl rfl, .inl rfl, .inl rfl, trivial⟩, trivial⟩ rfl rfl, hlt3, by omega⟩
      conv => whnf
      refine ⟨fun _ => ?_, fun h => absurd rfl h⟩
      conv => whnf
      refine ⟨rfl, (show (0 : Int) ≤ k by omega), (show (k : Int) < (List.map Ins.cells cc).length by rw [List.length_map]; omega), fun row hr => ?_⟩
      cases hrowx.symm.trans hr
      conv => whnf
      refine acall.pure _ (kw) rfl rfl fun _ => ?_
      conv => whnf
      (repeat' (first
        | (refine csplit (fun h => absurd (of_decide_eq_true h) (by omega)) (fun _ => ?_); conv => whnf)
        | (refine ⟨rfl, (show (0 : Int) ≤ k by omega), (show (k : Int) < (List.map Ins.cells cc).length by rw [List.length_map]; omega), fun row hr => ?_⟩; cases hrowx.symm.trans hr; conv => whnf)
        | (refine acall.gen [] [] _ _ _ _ kR rfl rfl rfl rfl ⟨(by repeat' (first | exact trivial | exact Or.inl (ti_succ (by assumption) (by assumption)) | exact Or.inl rfl | exact rfl | exact Nat.le_refl _ | apply And.intro)), .inl (by simp), .inl (by simp), trivial⟩ trivial rfl rfl ?_; conv => whnf)))
      refine ⟨by kernel_rfl, fun _ => ?_⟩
      conv => whnf
      exact ⟨k + 1, [0], [], Sub.mk' rfl ⟨⟨rfl, rfl⟩, .inl rfl, .inl rfl, .inl (ti_succ hlt2 hcc), trivial⟩ ⟨⟨rfl, .inl rfl, .inl rfl, .inl rfl, .inl rfl, .inl rfl, trivial⟩, trivial⟩ rfl rfl, hlt2, by omega⟩
    · have hge2 : cc.length ≤ k := by have := of_decide_eq_false hge2; rw [List.length_map] at this; omega
      conv => whnf
      refine ⟨fun _ => ?_, fun h => absurd rfl h⟩
      conv => whnf
      exact ⟨i + 1, [0], [], Sub.mk' rfl ⟨⟨rfl, rfl⟩, .inl (ti_succ hlt hcl), trivial⟩ ⟨⟨rfl, .inl rfl, .inl rfl, .inl rfl, .inl rfl, .inl rfl, trivial⟩, trivial⟩ rfl rfl, hlt, by omega⟩
  · conv => whnf
    refine ⟨fun _ => ?_, fun h => absurd rfl h⟩
    conv => whnf
    exact ⟨.inl rfl, trivial⟩
end Go.Proofs.YtffhoknkfohfgaaDoor.am

namespace Go.Proofs.YtffhoknkfohfgaaDoor.rTargetStays
open Go Go.RowKit Go.ChangeShapes Go.WideShapes Go.ChangeAt Go.WideMaps Go.WideElems
open Go.ChangeMaps (open_string shut_string)
open Go.Proofs.YtffhoknkfohfgaaDoor.am

theorem own : ownKnob Tryd.prog.godebug = none := by kernel_rfl
theorem laidOut : laidOutB Tryd.prog = true := by kernel_rfl
set_option maxRecDepth 100000 in
theorem contract (H : Type) (enc : TypeId × Value → H) (W : World) (args : Array Value) (ds gs : List (DataW H)) (before : List MemPlace)
    (hval : ∀ (j : Nat) t v, Tryd.f5.params[j]? = some t → args[j]? = some v → ∃ base, Value.okWide Tryd.prog W .any base t v)
    (hW : DataW.Whole enc Tryd.prog Tryd.f5.params.toList Rows.targetStaysSpec.vars false W args.toList ds gs before)
    (hwt : (DataW.weightsEach Tryd.prog (Tryd.f5.params.toList ++ (OpenSpec.ofChange Rows.targetStaysSpec).bare.plain.varTypes Tryd.prog) (ds ++ gs)).all (· ≤ reachBytes) = true) (hL : laidMetH Tryd.prog Rows.targetStaysRow.laid W) :
    Calls Tryd.prog 5 args W fun e W' => ∃ v, e = .returned v ∧ Rows.targetStaysSpec.post enc Tryd.prog Tryd.f5 false true false false W args v W' := by
  have hW' := hW
  obtain ⟨p, q, hA0, hV, rfl, hfz, hnd⟩ := hW
  have hA : DataW.TrodAll enc Tryd.prog W 0 (fun _ => true) true Tryd.f5.params.toList args.toList ds p := hA0
  rw [Tryd.params5] at hA hval
  obtain ⟨v0, vs0, d0, ds0, p0, q0, hargs, rfl, rfl, h0, r0⟩ := trodAll_cons hA
  obtain ⟨rfl, rfl, rfl⟩ := trodAll_nil r0
  obtain rfl : args = #[v0] := by cases args; simp_all
  obtain ⟨rfl, rfl⟩ := trodVars_none hV
  clear hA0 hA
  simp only [List.append_nil] at hW'
  have hlt : ∀ x ∈ p0, x.block < W.heap.size := fun x hx => hW'.lt x (by simpa using hx)
  have hwt : (DataW.weightsEach Tryd.prog [25] [d0]).all (· ≤ reachBytes) = true := hwt
  simp only [DataW.weightsEach, List.all_append, List.all_nil, Bool.and_true, Bool.and_eq_true] at hwt
  obtain ⟨cs0, rfl⟩ : ∃ cs, v0 = .agg cs := by
    obtain ⟨base, hv⟩ := hval 0 25 v0 rfl rfl
    unfold Value.okWide at hv
    rw [Tryd.underlying25] at hv
    obtain ⟨cs, rfl, _⟩ := hv
    exact ⟨cs, rfl⟩
  obtain ⟨x0, hx0⟩ := open_obj h0 hwt (fun x hx => hlt x (by simp [hx]))
  refine (K.calls (k_stays x0) W (tabs_of hL) #[.agg cs0] rfl ?_).mono fun e W' he => ?_
  · intro i v a e1 e2
    have e1 := arr_get e1
    match i, e2 with
    | 0, e2 => cases e2; cases e1; exact hx0
  obtain ⟨hb, v, rfl, g', hR⟩ := he
  obtain ⟨rfl, _⟩ := val_inv hR
  exact ⟨_, rfl, _, _, _, [], _, [], hW', trodAll_cons_mk (shut_bool Tryd.underlying4 _) trodAll_mk0, (trodAll_cons_mk (Below.trod laidOut (by kernel_rfl) (of_decide_eq_true (by kernel_rfl)) h0 hb (fun x hx => hlt x (by simp [hx]))) trodAll_mk0), rfl, hb.frame _, fun h => by cases h⟩

theorem reads (os : Os) {H : Type} (enc : TypeId × Value → H) : ∃ places, DataW.whole enc Tryd.prog ((World.laidAll Tryd.prog os Rows.targetStaysRow.laid).forCall (fun _ _ => 0) ⟨#[], #[.agg #[.slice none 0 0, .int .i64 0, .int .i64 0, .int .i64 0, .slice none 0 0]], []⟩).memory Tryd.f5.params.toList Rows.targetStaysSpec.vars false (#[.agg #[.slice none 0 0, .int .i64 0, .int .i64 0, .int .i64 0, .slice none 0 0]] : Array Value).toList 8 = some ([.agg [.nil, .lit (.int .i64 0), .lit (.int .i64 0), .lit (.int .i64 0), .nil]], [], places) :=
  ⟨[], by kernel_rfl⟩

set_option maxRecDepth 100000 in
theorem lifted (os : Os) (started : os.Started) (H : Type) (enc : TypeId × Value → H) (F : Stop.Interp) :
    ReturnsInHanded {} Tryd.checked os 5 .any ((OpenSpec.ofChange Rows.targetStaysSpec).preRow enc Tryd.prog Tryd.f5 Rows.targetStaysRow.domain false Rows.targetStaysRow.laid) (((OpenSpec.ofChange Rows.targetStaysSpec).at F).post enc Tryd.prog Tryd.f5 false true false false) := by
  obtain ⟨places, hx⟩ := reads os enc
  refine returnsInHanded_of_row (C := Tryd.checked) (s := OpenSpec.ofChange Rows.targetStaysSpec) own started (by kernel_rfl) Tryd.func5
    (witness_row_at (enc := enc) (C := Tryd.checked) false (World.laidAll Tryd.prog os Rows.targetStaysRow.laid) #[.agg #[.slice none 0 0, .int .i64 0, .int .i64 0, .int .i64 0, .slice none 0 0]] rfl (by kernel_rfl) (by kernel_rfl) (by kernel_rfl)
      (OpenSpec.preRow_of_cond 8 hx (by kernel_rfl) (fun k hk => by cases hk) (by kernel_rfl) (by rw [MakeChecks.laidMetH_plain _ _ _ (by kernel_rfl)]; exact laidMet_laidAll _ (by kernel_rfl) (by kernel_rfl)))) ?_
  intro W base args ds gs before hval hW _ _ hwt hL _ _
  exact contract H enc W args ds gs before (fun j t v h1 h2 => ⟨base, hval j t v h1 h2⟩) hW hwt hL

theorem said : Rows.TargetStaysSaid :=
  OpenClaim.holds_of_cond 5 Tryd.f5 rfl rfl rfl rfl rfl rfl rfl ⟨rfl, rfl, rfl, rfl, rfl⟩ rfl rfl rfl rfl rfl (by kernel_rfl) Tryd.func5 (by kernel_rfl)
    (of_decide_eq_true (by kernel_rfl)) (by unfold Func.isWrapper; first | (rw [if_pos (by decide +kernel)]; kernel_rfl) | (rw [if_neg (by decide +kernel)]; exact ⟨rfl, rfl⟩))
    (fun os started H enc _ F => by rw [OpenClaim.pre_eq_preRow]; exact lifted os started H enc F)

theorem plain (f : FuncId) (fn : Func) (hf : Tryd.pinned.checked.prog.funcNamed Rows.targetStaysRow.func = some f) (hfn : Tryd.pinned.checked.prog.funcs[f]? = some fn) :
    false = Tryd.pinned.checked.prog.looks [] ∧ ∀ (j : Nat) t, fn.params[j]? = some t → Tryd.pinned.checked.prog.wantsStandIn t = false := by
  obtain rfl : f = 5 := Option.some.inj ((show Tryd.prog.funcNamed Rows.targetStaysRow.func = some 5 by kernel_rfl).symm.trans hf) |>.symm
  obtain rfl : fn = Tryd.f5 := (Option.some.inj (Tryd.func5.symm.trans hfn)).symm
  refine ⟨by kernel_rfl, fun j t ht => ?_⟩
  rw [Tryd.params5] at ht
  have hm := Array.mem_of_getElem? ht
  simp only [List.mem_toArray, List.mem_cons, List.not_mem_nil, or_false] at hm
  rcases hm with rfl
  · exact (show Tryd.prog.wantsStandIn 25 = false by kernel_rfl)
theorem card : Rows.TargetStaysCardSaid :=
  Claim7.holds_tied_plain_at .later [] _ _ _ _ said (fun _ h => by cases h) (by kernel_rfl) (fun _ h => by cases h) targetStays_row_tie rfl ⟨rfl, rfl⟩ (by kernel_rfl) rfl plain (by kernel_rfl)
end Go.Proofs.YtffhoknkfohfgaaDoor.rTargetStays
