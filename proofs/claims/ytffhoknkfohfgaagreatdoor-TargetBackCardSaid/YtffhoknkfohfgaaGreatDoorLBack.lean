/- The law TargetBack. a right object comes back from its text and its bytes: for every input the law returns true, and each argument reads as it did. Conditions: the tables lie as the program's text lays them (the card ties them). -/
import Derived.Test.YtffhoknkfohfgaaGreatDoorV12
import Derived.Test.YtffhoknkfohfgaaGreatDoorV11
import Derived.Test.YtffhoknkfohfgaaGreatDoorRows
import Derived.Test.YtffhoknkfohfgaaGreatDoorCards
import Derived.Test.YtffhoknkfohfgaaGreatDoorTie
import Derived.Test.YtffhoknkfohfgaaGreatDoorV8
import Derived.Deep.DeepHandedRow
import Derived.ProofKit
import Derived.Lay
import Derived.MakeChecks
set_option linter.all false

namespace Go.Proofs.YtffhoknkfohfgaaGreatDoor.am
open Go Go.Proofs
theorem rng_of {o : Ob} (h : AOk o.av) : Rng o := by
  obtain ⟨_, _, hcs⟩ := (h.agg _ (.tail _ (.tail _ (.tail _ (.tail _ (.head _)))))).tr.lst
  obtain ⟨_, _, hms⟩ := (h.agg _ (.head _)).tr.lst
  refine ⟨fun w hw => ?_, fun c hc i hi => ?_⟩
  · exact ((hms _ (List.mem_map.2 ⟨w, hw, rfl⟩)).2 (ti w) (.head _)).i64
  · obtain ⟨_, _, hci⟩ := ((hcs _ (List.mem_map.2 ⟨c, hc, rfl⟩)).2 (codeT c.code) (.tail _ (.head _))).lst
    exact (iok_of (hci _ (List.mem_map.2 ⟨i, hi, rfl⟩)).2).word
set_option maxRecDepth 100000 in
set_option maxHeartbeats 4000000 in
theorem k_back (o : Ob) : K 6 [o.av] [] (.ret (.tr (tb true))) [] := by
  refine Ctr.of hT hmix Tryz.func6 rfl (fun _ _ => by kernel_rfl) rfl fun hok => ?_
  have hR : Rng o := rng_of (hok.slot 0 rfl)
  clear hok
  have hc := k_check o
  by_cases h : (checkO o).1 = 0
  · rw [checkO_zero h] at hc
    have hp := k_printO o h
    have hen := k_encode o h
    have hd := k_decode (encB o)
    rw [dec_enc h hR] at hd
    have hpt := k_parseT (prnO o) (R := (o, 0, 0)) (parse_fwd h hR).symm rfl
    have hs := k_same2 o
    have ht := k_tsame o
    have hl := encB_len (check_good h)
    generalize encB o = E at hen hd hl
    generalize prnO o = T at hp hpt
    simp only at hd hpt
    clear h hR
    obtain ⟨m, sh, lo, bu, co⟩ := o
    conv => whnf
    refine acall.pure _ (k_begins) rfl rfl fun _ => ?_
    conv => whnf
    refine acall.pure _ (hc) rfl rfl fun _ => ?_
    conv => whnf
    refine acall.pure _ (hp) rfl rfl fun _ => ?_
    conv => whnf
    refine acall.new [] [] _ _ _ _ hen rfl rfl rfl rfl (by repeat' (first | exact trivial | exact Or.inl (ti_succ (by assumption) (by assumption)) | exact Or.inl rfl | exact rfl | exact Nat.le_refl _ | apply And.intro)) (by repeat' (first | exact trivial | exact Or.inl (ti_succ (by assumption) (by assumption)) | exact Or.inl rfl | exact rfl | exact Nat.le_refl _ | apply And.intro)) rfl rfl fun _ => ?_
    conv => whnf
    refine csplit (fun h1 => ?_) (fun h1 => ?_)
    · exact absurd (of_decide_eq_true h1) (by omega)
    conv => whnf

    refine acall.gen [] [21] _ _ _ _ hd rfl rfl rfl rfl ⟨⟨rfl, Nat.le_of_eq (brows_len E).symm, by rw [List.take_of_length_le (by simp [brows])]⟩, trivial⟩ trivial rfl rfl fun _ => ?_
    conv => whnf
    refine acall.pure _ (hs) rfl rfl fun _ => ?_
    conv => whnf
    refine acall.pure _ (hpt) rfl rfl fun _ => ?_
    conv => whnf
    refine acall.pure _ (hs) rfl rfl fun _ => ?_
    conv => whnf
    refine acall.pure _ (ht) rfl rfl fun _ => ?_
    conv => whnf
    exact ⟨.inl rfl, trivial⟩
  · have hp := k_printO0 o h
    have hen := k_encode0 o h
    generalize checkO o = Q at hc h hp hen
    obtain ⟨q1, q2, q3⟩ := Q
    simp only [tri] at hc hp hen h
    clear hR
    obtain ⟨m, sh, lo, bu, co⟩ := o
    conv => whnf
    refine acall.pure _ (k_begins) rfl rfl fun _ => ?_
    conv => whnf
    refine acall.pure _ (hc) rfl rfl fun _ => ?_
    conv => whnf
    refine acall.pure _ (hp) rfl rfl fun _ => ?_
    conv => whnf
    refine acall.pure _ (hen) rfl rfl fun _ => ?_
    conv => whnf
    refine csplit (fun h1 => ?_) (fun h1 => ?_)
    · conv => whnf
      (repeat' (refine csplit (fun g => ?_) (fun g => absurd g (by simp)); conv => whnf))
      exact ⟨.inl rfl, trivial⟩
    · exact absurd h1 (by simpa using h)
end Go.Proofs.YtffhoknkfohfgaaGreatDoor.am

namespace Go.Proofs.YtffhoknkfohfgaaGreatDoor.rTargetBack
open Go Go.RowKit Go.ChangeShapes Go.WideShapes Go.ChangeAt Go.WideMaps Go.WideElems
open Go.ChangeMaps (open_string shut_string)
open Go.Proofs.YtffhoknkfohfgaaGreatDoor.am

theorem own : ownKnob Tryz.prog.godebug = none := by kernel_rfl
theorem laidOut : laidOutB Tryz.prog = true := by kernel_rfl
set_option maxRecDepth 100000 in
theorem contract (H : Type) (enc : TypeId × Value → H) (W : World) (args : Array Value) (ds gs : List (DataW H)) (before : List MemPlace)
    (hval : ∀ (j : Nat) t v, Tryz.f6.params[j]? = some t → args[j]? = some v → ∃ base, Value.okWide Tryz.prog W .any base t v)
    (hW : DataW.Whole enc Tryz.prog Tryz.f6.params.toList Rows.targetBackSpec.vars false W args.toList ds gs before)
    (hwt : (DataW.weightsEach Tryz.prog (Tryz.f6.params.toList ++ (OpenSpec.ofChange Rows.targetBackSpec).bare.plain.varTypes Tryz.prog) (ds ++ gs)).all (· ≤ reachBytes) = true) (hL : laidMetH Tryz.prog Rows.targetBackRow.laid W) :
    Calls Tryz.prog 6 args W fun e W' => ∃ v, e = .returned v ∧ Rows.targetBackSpec.post enc Tryz.prog Tryz.f6 false true false false W args v W' := by
  have hW' := hW
  obtain ⟨p, q, hA0, hV, rfl, hfz, hnd⟩ := hW
  have hA : DataW.TrodAll enc Tryz.prog W 0 (fun _ => true) true Tryz.f6.params.toList args.toList ds p := hA0
  rw [Tryz.params6] at hA hval
  obtain ⟨v0, vs0, d0, ds0, p0, q0, hargs, rfl, rfl, h0, r0⟩ := trodAll_cons hA
  obtain ⟨rfl, rfl, rfl⟩ := trodAll_nil r0
  obtain rfl : args = #[v0] := by cases args; simp_all
  obtain ⟨rfl, rfl⟩ := trodVars_none hV
  clear hA0 hA
  simp only [List.append_nil] at hW'
  have hlt : ∀ x ∈ p0, x.block < W.heap.size := fun x hx => hW'.lt x (by simpa using hx)
  have hwt : (DataW.weightsEach Tryz.prog [29] [d0]).all (· ≤ reachBytes) = true := hwt
  simp only [DataW.weightsEach, List.all_append, List.all_nil, Bool.and_true, Bool.and_eq_true] at hwt
  obtain ⟨cs0, rfl⟩ : ∃ cs, v0 = .agg cs := by
    obtain ⟨base, hv⟩ := hval 0 29 v0 rfl rfl
    unfold Value.okWide at hv
    rw [Tryz.underlying29] at hv
    obtain ⟨cs, rfl, _⟩ := hv
    exact ⟨cs, rfl⟩
  obtain ⟨x0, hx0⟩ := open_obj h0 hwt (fun x hx => hlt x (by simp [hx]))
  refine (K.calls (k_back x0) W (tabs_of hL) #[.agg cs0] rfl ?_).mono fun e W' he => ?_
  · intro i v a e1 e2
    have e1 := arr_get e1
    match i, e2 with
    | 0, e2 => cases e2; cases e1; exact hx0
  obtain ⟨hb, v, rfl, g', hR⟩ := he
  obtain ⟨rfl, _⟩ := val_inv hR
  exact ⟨_, rfl, _, _, _, [], _, [], hW', trodAll_cons_mk (shut_bool Tryz.underlying4 _) trodAll_mk0, (trodAll_cons_mk (Below.trod laidOut (by kernel_rfl) (of_decide_eq_true (by kernel_rfl)) h0 hb (fun x hx => hlt x (by simp [hx]))) trodAll_mk0), rfl, hb.frame _, fun h => by cases h⟩

theorem reads (os : Os) {H : Type} (enc : TypeId × Value → H) : ∃ places, DataW.whole enc Tryz.prog ((World.laidAll Tryz.prog os Rows.targetBackRow.laid).forCall (fun _ _ => 0) ⟨#[], #[.agg #[.slice none 0 0, .int .i64 0, .int .i64 0, .int .i64 0, .slice none 0 0]], []⟩).memory Tryz.f6.params.toList Rows.targetBackSpec.vars false (#[.agg #[.slice none 0 0, .int .i64 0, .int .i64 0, .int .i64 0, .slice none 0 0]] : Array Value).toList 8 = some ([.agg [.nil, .lit (.int .i64 0), .lit (.int .i64 0), .lit (.int .i64 0), .nil]], [], places) :=
  ⟨[], by kernel_rfl⟩

set_option maxRecDepth 100000 in
theorem lifted (os : Os) (started : os.Started) (H : Type) (enc : TypeId × Value → H) (F : Stop.Interp) :
    ReturnsInHanded {} Tryz.checked os 6 .any ((OpenSpec.ofChange Rows.targetBackSpec).preRow enc Tryz.prog Tryz.f6 Rows.targetBackRow.domain false Rows.targetBackRow.laid) (((OpenSpec.ofChange Rows.targetBackSpec).at F).post enc Tryz.prog Tryz.f6 false true false false) := by
  obtain ⟨places, hx⟩ := reads os enc
  refine returnsInHanded_of_row (C := Tryz.checked) (s := OpenSpec.ofChange Rows.targetBackSpec) own started (by kernel_rfl) Tryz.func6
    (witness_row_at (enc := enc) (C := Tryz.checked) false (World.laidAll Tryz.prog os Rows.targetBackRow.laid) #[.agg #[.slice none 0 0, .int .i64 0, .int .i64 0, .int .i64 0, .slice none 0 0]] rfl (by kernel_rfl) (by kernel_rfl) (by kernel_rfl)
      (OpenSpec.preRow_of_cond 8 hx (by kernel_rfl) (fun k hk => by cases hk) (by kernel_rfl) (by rw [MakeChecks.laidMetH_plain _ _ _ (by kernel_rfl)]; exact laidMet_laidAll _ (by kernel_rfl) (by kernel_rfl)))) ?_
  intro W base args ds gs before hval hW _ _ hwt hL _ _
  exact contract H enc W args ds gs before (fun j t v h1 h2 => ⟨base, hval j t v h1 h2⟩) hW hwt hL

theorem said : Rows.TargetBackSaid :=
  OpenClaim.holds_of_cond 6 Tryz.f6 rfl rfl rfl rfl rfl rfl rfl ⟨rfl, rfl, rfl, rfl, rfl⟩ rfl rfl rfl rfl rfl (by kernel_rfl) Tryz.func6 (by kernel_rfl)
    (of_decide_eq_true (by kernel_rfl)) (by unfold Func.isWrapper; first | (rw [if_pos (by decide +kernel)]; kernel_rfl) | (rw [if_neg (by decide +kernel)]; exact ⟨rfl, rfl⟩))
    (fun os started H enc _ F => by rw [OpenClaim.pre_eq_preRow]; exact lifted os started H enc F)

theorem plain (f : FuncId) (fn : Func) (hf : Tryz.pinned.checked.prog.funcNamed Rows.targetBackRow.func = some f) (hfn : Tryz.pinned.checked.prog.funcs[f]? = some fn) :
    false = Tryz.pinned.checked.prog.looks [] ∧ ∀ (j : Nat) t, fn.params[j]? = some t → Tryz.pinned.checked.prog.wantsStandIn t = false := by
  obtain rfl : f = 6 := Option.some.inj ((show Tryz.prog.funcNamed Rows.targetBackRow.func = some 6 by kernel_rfl).symm.trans hf) |>.symm
  obtain rfl : fn = Tryz.f6 := (Option.some.inj (Tryz.func6.symm.trans hfn)).symm
  refine ⟨by kernel_rfl, fun j t ht => ?_⟩
  rw [Tryz.params6] at ht
  have hm := Array.mem_of_getElem? ht
  simp only [List.mem_toArray, List.mem_cons, List.not_mem_nil, or_false] at hm
  rcases hm with rfl
  · exact (show Tryz.prog.wantsStandIn 29 = false by kernel_rfl)
theorem card : Rows.TargetBackCardSaid :=
  Claim7.holds_tied_plain_at .later [] _ _ _ _ said (fun _ h => by cases h) (by kernel_rfl) (fun _ h => by cases h) targetBack_row_tie rfl ⟨rfl, rfl⟩ (by kernel_rfl) rfl plain (by kernel_rfl)
end Go.Proofs.YtffhoknkfohfgaaGreatDoor.rTargetBack
