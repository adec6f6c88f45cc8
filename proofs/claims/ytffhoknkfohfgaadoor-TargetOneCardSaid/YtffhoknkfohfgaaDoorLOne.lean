/- The law TargetOne. what is read is written in one way: for every input the law returns true, and each argument reads as it did. Conditions: the tables lie as the program's text lays them (the card ties them). -/
import Derived.Test.YtffhoknkfohfgaaDoorN11
import Derived.Test.YtffhoknkfohfgaaDoorRows
import Derived.Test.YtffhoknkfohfgaaDoorCards
import Derived.Test.YtffhoknkfohfgaaDoorTie
import Derived.Test.YtffhoknkfohfgaaDoorN8
import Derived.Deep.DeepHandedRow
import Derived.ProofKit
import Derived.Lay
import Derived.MakeChecks
set_option linter.all false

namespace Go.Proofs.YtffhoknkfohfgaaDoor.am
open Go Go.Proofs
theorem dec_back {l : List UInt8} {o : Ob} (h : obO limTT l = some (o, [])) : encB o = l := by
  have := ob_inv h
  rw [List.append_nil] at this
  exact this.symm
set_option maxRecDepth 100000 in
set_option maxHeartbeats 4000000 in
theorem k_one (s : ByteArray) (l : List UInt8) : K 6 [.tr (ts s), .tr (bytT l)] [] (.ret (.tr (tb true))) [] := by
  refine Ctr.cut [10] hT hmix Tryd.func6 rfl (fun _ _ => by kernel_rfl) rfl fun hok => ?_
  clear hok
  have hpA := fun R h => k_parseA s (R := R) h
  have hdA := k_decode l
  have hcase := parseS_cases s
  have hdc := decS_cases l
  have hpl := parse_place s
  obtain ⟨⟨O, W, A⟩, hO⟩ : ∃ R, R = parseS s := ⟨_, rfl⟩
  have hp := hpA _ hO
  simp only at hp
  rw [← hO] at hcase hpl
  conv => whnf
  refine acall.pure _ (k_begins) rfl rfl fun _ => ?_
  conv => whnf
  refine acall.pure _ (hp) rfl rfl fun _ => ?_
  conv => whnf
  refine CutL.by (fun _ : Unit => ⟨[(1, .tr (bytT l))], [], 10⟩) (fun _ => True) ?_ ?_
  · obtain ⟨x, w, p, e0, hple⟩ := hpl
    rcases hcase with ⟨x', e, hx⟩ | ⟨w', a, hw, e⟩
    · cases e
      have hb := (parse_back (s := s) (x := O) hO.symm).1
      have hpr := k_printO O hx
      rw [hb] at hpr
      obtain ⟨m, sh, lo, bu, co⟩ := O
      conv => whnf
      refine acall.pure _ (hpr) rfl rfl fun _ => ?_
      conv => whnf
      refine csplit (fun h1 => ?_) (fun h1 => ?_)
      · exact absurd h1 (by simp)
      · conv => whnf
        exact ⟨(), [], [], Sub.mk' rfl ⟨.inl rfl, trivial⟩ trivial rfl rfl, trivial⟩
    · cases e
      cases e0
      conv => whnf
      refine csplit (fun h1 => ?_) (fun h1 => ?_)
      · exact absurd h1 (by simpa using hw)
      conv => whnf
      refine csplit (fun h2 => ?_) (fun h2 => ?_)
      · exact absurd (of_decide_eq_true h2) (by omega)
      conv => whnf
      exact ⟨(), [], [], Sub.mk' rfl ⟨.inl rfl, trivial⟩ trivial rfl rfl, trivial⟩
  · rintro - - -
    rcases hdc with ⟨o, e1, e2, e3⟩ | ⟨e1, _⟩
    · rw [e3] at hdA
      have hen := k_encode o e2
      rw [dec_back e1] at hen
      have hbb := k_bytes l
      simp only at hdA
      obtain ⟨m, sh, lo, bu, co⟩ := o
      conv => whnf
      refine acall.pure _ (hdA) rfl rfl fun _ => ?_
      conv => whnf
      refine acall.new [] [] _ _ _ _ hen rfl rfl rfl rfl (by repeat' (first | exact trivial | exact Or.inl (ti_succ (by assumption) (by assumption)) | exact Or.inl rfl | exact rfl | exact Nat.le_refl _ | apply And.intro)) (by repeat' (first | exact trivial | exact Or.inl (ti_succ (by assumption) (by assumption)) | exact Or.inl rfl | exact rfl | exact Nat.le_refl _ | apply And.intro)) rfl rfl fun _ => ?_
      conv => whnf
      refine acall.gen [] [21] _ _ _ _ hbb rfl rfl rfl rfl ⟨.inl rfl, ⟨rfl, Nat.le_of_eq (brows_len l).symm, by rw [List.take_of_length_le (by simp [brows])]; rfl⟩, trivial⟩ trivial rfl rfl fun _ => ?_
      conv => whnf
      exact ⟨.inl rfl, trivial⟩
    · rw [e1] at hdA
      simp only at hdA
      conv => whnf
      refine acall.pure _ (hdA) rfl rfl fun _ => ?_
      conv => whnf
      exact ⟨.inl rfl, trivial⟩
end Go.Proofs.YtffhoknkfohfgaaDoor.am

namespace Go.Proofs.YtffhoknkfohfgaaDoor.rTargetOne
open Go Go.RowKit Go.ChangeShapes Go.WideShapes Go.ChangeAt Go.WideMaps Go.WideElems
open Go.ChangeMaps (open_string shut_string)
open Go.Proofs.YtffhoknkfohfgaaDoor.am

theorem own : ownKnob Tryd.prog.godebug = none := by kernel_rfl
theorem laidOut : laidOutB Tryd.prog = true := by kernel_rfl
set_option maxRecDepth 100000 in
theorem contract (H : Type) (enc : TypeId × Value → H) (W : World) (args : Array Value) (ds gs : List (DataW H)) (before : List MemPlace)
    (hval : ∀ (j : Nat) t v, Tryd.f6.params[j]? = some t → args[j]? = some v → ∃ base, Value.okWide Tryd.prog W .any base t v)
    (hW : DataW.Whole enc Tryd.prog Tryd.f6.params.toList Rows.targetOneSpec.vars false W args.toList ds gs before)
    (hwt : (DataW.weightsEach Tryd.prog (Tryd.f6.params.toList ++ (OpenSpec.ofChange Rows.targetOneSpec).bare.plain.varTypes Tryd.prog) (ds ++ gs)).all (· ≤ reachBytes) = true) (hL : laidMetH Tryd.prog Rows.targetOneRow.laid W) :
    Calls Tryd.prog 6 args W fun e W' => ∃ v, e = .returned v ∧ Rows.targetOneSpec.post enc Tryd.prog Tryd.f6 false true false false W args v W' := by
  have hW' := hW
  obtain ⟨p, q, hA0, hV, rfl, hfz, hnd⟩ := hW
  have hA : DataW.TrodAll enc Tryd.prog W 0 (fun _ => true) true Tryd.f6.params.toList args.toList ds p := hA0
  rw [Tryd.params6] at hA hval
  obtain ⟨v0, vs0, d0, ds0, p0, q0, hargs, rfl, rfl, h0, r0⟩ := trodAll_cons hA
  obtain ⟨v1, vs1, d1, ds1, p1, q1, rfl, rfl, rfl, h1, r1⟩ := trodAll_cons r0
  obtain ⟨rfl, rfl, rfl⟩ := trodAll_nil r1
  obtain rfl : args = #[v0, v1] := by cases args; simp_all
  obtain ⟨rfl, rfl⟩ := trodVars_none hV
  clear hA0 hA
  simp only [List.append_nil] at hW'
  have hlt : ∀ x ∈ (p0 ++ (p1)), x.block < W.heap.size := fun x hx => hW'.lt x (by simpa using hx)
  have hwt : (DataW.weightsEach Tryd.prog [9, 38] [d0, d1]).all (· ≤ reachBytes) = true := hwt
  simp only [DataW.weightsEach, List.all_append, List.all_nil, Bool.and_true, Bool.and_eq_true] at hwt
  obtain ⟨x0, rfl, rfl, rfl, wx0⟩ := open_string Tryd.underlying9 ((hval 0 9 v0 rfl rfl).choose_spec) h0
  obtain ⟨x1, hx1⟩ := open_bytes ((hval 1 38 v1 rfl rfl).choose_spec) h1 hwt.2 (fun x hx => hlt x (by simp [hx]))
  refine (K.calls (k_one x0 x1) W (tabs_of hL) #[.string x0, v1] rfl ?_).mono fun e W' he => ?_
  · intro i v a e1 e2
    have e1 := arr_get e1
    match i, e2 with
    | 0, e2 => cases e2; cases e1; exact .tr (.v (by unfold maxLen at wx0; exact wx0))
    | 1, e2 => cases e2; cases e1; exact hx1
  obtain ⟨hb, v, rfl, g', hR⟩ := he
  obtain ⟨rfl, _⟩ := val_inv hR
  exact ⟨_, rfl, _, _, _, [], _, [], hW', trodAll_cons_mk (shut_bool Tryd.underlying4 _) trodAll_mk0, (trodAll_cons_mk (shut_string Tryd.underlying9 wx0) (trodAll_cons_mk (Below.trod laidOut (by kernel_rfl) (of_decide_eq_true (by kernel_rfl)) h1 hb (fun x hx => hlt x (by simp [hx]))) trodAll_mk0)), rfl, hb.frame _, fun h => by cases h⟩

theorem reads (os : Os) {H : Type} (enc : TypeId × Value → H) : ∃ places, DataW.whole enc Tryd.prog ((World.laidAll Tryd.prog os Rows.targetOneRow.laid).forCall (fun _ _ => 0) ⟨#[], #[.string ⟨#[]⟩, .slice none 0 0], []⟩).memory Tryd.f6.params.toList Rows.targetOneSpec.vars false (#[.string ⟨#[]⟩, .slice none 0 0] : Array Value).toList 8 = some ([.lit (.string []), .nil], [], places) :=
  ⟨[], by kernel_rfl⟩

set_option maxRecDepth 100000 in
theorem lifted (os : Os) (started : os.Started) (H : Type) (enc : TypeId × Value → H) (F : Stop.Interp) :
    ReturnsInHanded {} Tryd.checked os 6 .any ((OpenSpec.ofChange Rows.targetOneSpec).preRow enc Tryd.prog Tryd.f6 Rows.targetOneRow.domain false Rows.targetOneRow.laid) (((OpenSpec.ofChange Rows.targetOneSpec).at F).post enc Tryd.prog Tryd.f6 false true false false) := by
  obtain ⟨places, hx⟩ := reads os enc
  refine returnsInHanded_of_row (C := Tryd.checked) (s := OpenSpec.ofChange Rows.targetOneSpec) own started (by kernel_rfl) Tryd.func6
    (witness_row_at (enc := enc) (C := Tryd.checked) false (World.laidAll Tryd.prog os Rows.targetOneRow.laid) #[.string ⟨#[]⟩, .slice none 0 0] rfl (by kernel_rfl) (by kernel_rfl) (by kernel_rfl)
      (OpenSpec.preRow_of_cond 8 hx (by kernel_rfl) (fun k hk => by cases hk) (by kernel_rfl) (by rw [MakeChecks.laidMetH_plain _ _ _ (by kernel_rfl)]; exact laidMet_laidAll _ (by kernel_rfl) (by kernel_rfl)))) ?_
  intro W base args ds gs before hval hW _ _ hwt hL _ _
  exact contract H enc W args ds gs before (fun j t v h1 h2 => ⟨base, hval j t v h1 h2⟩) hW hwt hL

theorem said : Rows.TargetOneSaid :=
  OpenClaim.holds_of_cond 6 Tryd.f6 rfl rfl rfl rfl rfl rfl rfl ⟨rfl, rfl, rfl, rfl, rfl⟩ rfl rfl rfl rfl rfl (by kernel_rfl) Tryd.func6 (by kernel_rfl)
    (of_decide_eq_true (by kernel_rfl)) (by unfold Func.isWrapper; first | (rw [if_pos (by decide +kernel)]; kernel_rfl) | (rw [if_neg (by decide +kernel)]; exact ⟨rfl, rfl⟩))
    (fun os started H enc _ F => by rw [OpenClaim.pre_eq_preRow]; exact lifted os started H enc F)

theorem plain (f : FuncId) (fn : Func) (hf : Tryd.pinned.checked.prog.funcNamed Rows.targetOneRow.func = some f) (hfn : Tryd.pinned.checked.prog.funcs[f]? = some fn) :
    false = Tryd.pinned.checked.prog.looks [] ∧ ∀ (j : Nat) t, fn.params[j]? = some t → Tryd.pinned.checked.prog.wantsStandIn t = false := by
  obtain rfl : f = 6 := Option.some.inj ((show Tryd.prog.funcNamed Rows.targetOneRow.func = some 6 by kernel_rfl).symm.trans hf) |>.symm
  obtain rfl : fn = Tryd.f6 := (Option.some.inj (Tryd.func6.symm.trans hfn)).symm
  refine ⟨by kernel_rfl, fun j t ht => ?_⟩
  rw [Tryd.params6] at ht
  have hm := Array.mem_of_getElem? ht
  simp only [List.mem_toArray, List.mem_cons, List.not_mem_nil, or_false] at hm
  rcases hm with rfl | rfl
  · exact (show Tryd.prog.wantsStandIn 9 = false by kernel_rfl)
  · exact (show Tryd.prog.wantsStandIn 38 = false by kernel_rfl)
theorem card : Rows.TargetOneCardSaid :=
  Claim7.holds_tied_plain_at .later [] _ _ _ _ said (fun _ h => by cases h) (by kernel_rfl) (fun _ h => by cases h) targetOne_row_tie rfl ⟨rfl, rfl⟩ (by kernel_rfl) rfl plain (by kernel_rfl)
end Go.Proofs.YtffhoknkfohfgaaDoor.rTargetOne
