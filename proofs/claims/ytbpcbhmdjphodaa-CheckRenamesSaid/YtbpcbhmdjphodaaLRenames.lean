/- Contract: the law CheckRenames: true. every Rename answers as the reference does, and the tree stays: for every input the law returns true, and each argument reads as it did. No condition of its own. -/
import Derived.Test.YtbpcbhmdjphodaaD5
import Derived.Test.YtbpcbhmdjphodaaD4
import Derived.Test.YtbpcbhmdjphodaaD3
import Derived.Test.YtbpcbhmdjphodaaRows
import Derived.Deep.DeepHandedRow
import Derived.ProofKit
set_option linter.all false

namespace Go.Proofs.Ytbpcbhmdjphodaa.am
open Go Go.Proofs
theorem kRenames (p : Prg) (o n : ByteArray) : K 6 [p.av, .tr (ts o), .tr (ts n)] [] (.ret (.tr (tb true))) [] := by
  refine Ctr.of hT hmix Try.func6 rfl (fun _ _ => by kernel_rfl) rfl fun hok => ?_
  clear hok
  have h23 := k23 p o n
  rw [check_eq] at h23
  have h24 := k24 p o n
  generalize renQ (checkF p).1 p o n = q at h23 h24
  generalize renE (checkF p).1 p o n = e at h23 h24
  conv => whnf
  refine acall.pure _ (k9 p) rfl rfl fun _ => ?_
  conv => whnf
  refine acall.pure _ (h23) rfl rfl fun _ => ?_
  conv => whnf
  refine acall.pure _ (h24) rfl rfl fun _ => ?_
  conv => whnf
  refine acall.pure _ (k_lives) rfl rfl fun _ => ?_
  conv => whnf
  refine csplit (fun h1 => ?_) (fun h1 => ?_)
  · conv => whnf
    refine acall.pure _ (k13 q) rfl rfl fun _ => ?_
    conv => whnf
    refine acall.pure _ (k13 p) rfl rfl fun _ => ?_
    conv => whnf
    exact ⟨Or.inl rfl, trivial⟩
  · exact absurd h1 (by simp)
end Go.Proofs.Ytbpcbhmdjphodaa.am

namespace Go.Proofs.Ytbpcbhmdjphodaa.rCheckRenames
open Go Go.RowKit Go.ChangeShapes Go.WideShapes Go.ChangeAt Go.WideMaps Go.WideElems
open Go.ChangeMaps (open_string shut_string)
open Go.Proofs.Ytbpcbhmdjphodaa.am

theorem own : ownKnob Try.prog.godebug = none := by kernel_rfl
theorem laidOut : laidOutB Try.prog = true := by kernel_rfl
set_option maxRecDepth 100000 in
theorem contract (H : Type) (enc : TypeId × Value → H) (W : World) (args : Array Value) (ds gs : List (DataW H)) (before : List MemPlace)
    (hval : ∀ (j : Nat) t v, Try.f6.params[j]? = some t → args[j]? = some v → ∃ base, Value.okWide Try.prog W .any base t v)
    (hW : DataW.Whole enc Try.prog Try.f6.params.toList Rows.checkRenamesSpec.vars false W args.toList ds gs before)
    (hwt : (DataW.weightsEach Try.prog (Try.f6.params.toList ++ (OpenSpec.ofChange Rows.checkRenamesSpec).bare.plain.varTypes Try.prog) (ds ++ gs)).all (· ≤ reachBytes) = true) :
    Calls Try.prog 6 args W fun e W' => ∃ v, e = .returned v ∧ Rows.checkRenamesSpec.post enc Try.prog Try.f6 false true false false W args v W' := by
  have hW' := hW
  obtain ⟨p, q, hA0, hV, rfl, hfz, hnd⟩ := hW
  have hA : DataW.TrodAll enc Try.prog W 0 (fun _ => true) true Try.f6.params.toList args.toList ds p := hA0
  rw [Try.params6] at hA hval
  obtain ⟨v0, vs0, d0, ds0, p0, q0, hargs, rfl, rfl, h0, r0⟩ := trodAll_cons hA
  obtain ⟨v1, vs1, d1, ds1, p1, q1, rfl, rfl, rfl, h1, r1⟩ := trodAll_cons r0
  obtain ⟨v2, vs2, d2, ds2, p2, q2, rfl, rfl, rfl, h2, r2⟩ := trodAll_cons r1
  obtain ⟨rfl, rfl, rfl⟩ := trodAll_nil r2
  obtain rfl : args = #[v0, v1, v2] := by cases args; simp_all
  obtain ⟨rfl, rfl⟩ := trodVars_none hV
  clear hA0 hA
  simp only [List.append_nil] at hW'
  have hlt : ∀ x ∈ (p0 ++ (p1 ++ (p2))), x.block < W.heap.size := fun x hx => hW'.lt x (by simpa using hx)
  have hwt : (DataW.weightsEach Try.prog [25, 9, 9] [d0, d1, d2]).all (· ≤ reachBytes) = true := hwt
  simp only [DataW.weightsEach, List.all_append, List.all_nil, Bool.and_true, Bool.and_eq_true] at hwt
  obtain ⟨cs0, rfl⟩ : ∃ cs, v0 = .agg cs := by
    obtain ⟨base, hv⟩ := hval 0 25 v0 rfl rfl
    unfold Value.okWide at hv
    rw [Try.underlying25] at hv
    obtain ⟨cs, rfl, _⟩ := hv
    exact ⟨cs, rfl⟩
  obtain ⟨x0, hx0⟩ := open_prg (.inr ⟨cs0, rfl⟩) h0 hwt.1 (fun x hx => hlt x (by simp [hx]))
  obtain ⟨x1, rfl, rfl, rfl, wx1⟩ := open_string Try.underlying9 ((hval 1 9 v1 rfl rfl).choose_spec) h1
  obtain ⟨x2, rfl, rfl, rfl, wx2⟩ := open_string Try.underlying9 ((hval 2 9 v2 rfl rfl).choose_spec) h2
  refine (K.calls (kRenames x0 x1 x2) W #[.agg cs0, .string x1, .string x2] rfl ?_).mono fun e W' he => ?_
  · intro i v a e1 e2
    have e1 := arr_get e1
    match i, e2 with
    | 0, e2 => cases e2; cases e1; exact hx0
    | 1, e2 => cases e2; cases e1; exact .tr (.v (by unfold maxLen at wx1; exact wx1))
    | 2, e2 => cases e2; cases e1; exact .tr (.v (by unfold maxLen at wx2; exact wx2))
  obtain ⟨hb, v, rfl, g', hR⟩ := he
  obtain ⟨rfl, _⟩ := val_inv hR
  exact ⟨_, rfl, _, _, _, [], _, [], hW', trodAll_cons_mk (shut_bool Try.underlying4 _) trodAll_mk0, (trodAll_cons_mk (Below.trod laidOut (by kernel_rfl) (of_decide_eq_true (by kernel_rfl)) h0 hb (fun x hx => hlt x (by simp [hx]))) (trodAll_cons_mk (shut_string Try.underlying9 wx1) (trodAll_cons_mk (shut_string Try.underlying9 wx2) trodAll_mk0))), rfl, hb.frame _, fun h => by cases h⟩

theorem reads (os : Os) {H : Type} (enc : TypeId × Value → H) : ∃ places, DataW.whole enc Try.prog ((World.holding Try.prog os ⟨#[], #[], []⟩).forCall (fun _ _ => 0) ⟨#[], #[.agg #[.slice none 0 0, .slice none 0 0, .slice none 0 0], .string ⟨#[]⟩, .string ⟨#[]⟩], []⟩).memory Try.f6.params.toList Rows.checkRenamesSpec.vars false (#[.agg #[.slice none 0 0, .slice none 0 0, .slice none 0 0], .string ⟨#[]⟩, .string ⟨#[]⟩] : Array Value).toList 8 = some ([.agg [.nil, .nil, .nil], .lit (.string []), .lit (.string [])], [], places) :=
  ⟨[], by kernel_rfl⟩

set_option maxRecDepth 100000 in
theorem lifted (os : Os) (started : os.Started) (H : Type) (enc : TypeId × Value → H) (F : Stop.Interp) :
    ReturnsInHanded {} Try.checked os 6 .any ((OpenSpec.ofChange Rows.checkRenamesSpec).preRow enc Try.prog Try.f6 Rows.checkRenamesRow.domain false Rows.checkRenamesRow.laid) (((OpenSpec.ofChange Rows.checkRenamesSpec).at F).post enc Try.prog Try.f6 false true false false) := by
  obtain ⟨places, hx⟩ := reads os enc
  refine returnsInHanded_of_row (C := Try.checked) (s := OpenSpec.ofChange Rows.checkRenamesSpec) own started (by kernel_rfl) Try.func6
    (witness_row_at (enc := enc) (C := Try.checked) false (World.holding Try.prog os ⟨#[], #[], []⟩) #[.agg #[.slice none 0 0, .slice none 0 0, .slice none 0 0], .string ⟨#[]⟩, .string ⟨#[]⟩] rfl (by kernel_rfl) (by kernel_rfl) (by kernel_rfl)
      (OpenSpec.preRow_of_cond 8 hx (by kernel_rfl) (fun k hk => by cases hk) (by kernel_rfl) (laidMet_nil _ _))) ?_
  intro W base args ds gs before hval hW _ _ hwt _ _ _
  exact contract H enc W args ds gs before (fun j t v h1 h2 => ⟨base, hval j t v h1 h2⟩) hW hwt

theorem said : Rows.CheckRenamesSaid :=
  OpenClaim.holds_of_cond 6 Try.f6 rfl rfl rfl rfl rfl rfl rfl ⟨rfl, rfl, rfl, rfl, rfl⟩ rfl rfl rfl rfl rfl (by kernel_rfl) Try.func6 (by kernel_rfl)
    (of_decide_eq_true (by kernel_rfl)) (by unfold Func.isWrapper; first | (rw [if_pos (by decide +kernel)]; kernel_rfl) | (rw [if_neg (by decide +kernel)]; exact ⟨rfl, rfl⟩))
    (fun os started H enc _ F => by rw [OpenClaim.pre_eq_preRow]; exact lifted os started H enc F)
end Go.Proofs.Ytbpcbhmdjphodaa.rCheckRenames
