/- The law TargetBytes. Encode, Decode and Same answer as the reference, and the bytes stay: for every input the law returns true, and each argument reads as it did. Conditions: the tables lie as the program's text lays them (the card ties them). -/
import Derived.Test.YtffhoknkfohfgaaGreatDoorS12
import Derived.Test.YtffhoknkfohfgaaGreatDoorS13
import Derived.Test.YtffhoknkfohfgaaGreatDoorS10
import Derived.Test.YtffhoknkfohfgaaGreatDoorRows
import Derived.Test.YtffhoknkfohfgaaGreatDoorCards
import Derived.Test.YtffhoknkfohfgaaGreatDoorTie
import Derived.Test.YtffhoknkfohfgaaGreatDoorS8
import Derived.Deep.DeepHandedRow
import Derived.ProofKit
import Derived.Lay
import Derived.MakeChecks
set_option linter.all false

namespace Go.Proofs.YtffhoknkfohfgaaGreatDoor.am
open Go Go.Proofs
set_option maxRecDepth 100000 in
set_option maxHeartbeats 4000000 in
theorem k_tbytes (o p : Ob) (b : List UInt8) : K 5 [o.av, p.av, .tr (bytT b)] [] (.ret (.tr (tb true))) [] := by
  refine Ctr.cut [5, 6] hT hmix Tryz.func5 rfl (fun _ _ => by kernel_rfl) rfl fun hok => ?_
  have hbl := (hok.slot 2 rfl).tr.lst.1
  rw [brows_len] at hbl
  replace hbl : b.length * 1 ≤ 140737488351232 := hbl
  clear hok
  obtain ⟨B, hB⟩ : ∃ B : Bool, B = true ↔ o = p := by
    by_cases h : o = p
    · exact ⟨true, by simp [h]⟩
    · exact ⟨false, by simp [h]⟩
  have ht := k_tsameG o p B hB
  have hs := z_sameG o p B hB
  have hcp := k_copy o
  have hts := k_tsame o
  have hd := k_decode b
  have hz := z_decode b
  rw [decZ_eq] at hz
  generalize decS b = D at hd hz
  obtain ⟨⟨m2, sh2, lo2, bu2, co2⟩, w2⟩ := D
  have hs2 := k_same2 ⟨m2, sh2, lo2, bu2, co2⟩
  have hbb := k_bytes b
  simp only at hd hz
  by_cases h : (checkO o).1 = 0
  · have h1 := k_encode o h
    have h2 := z_encode o h
    have hbe := k_bytes (encB o)
    generalize encB o = E at h1 h2 hbe
    clear h hB
    obtain ⟨m, sh, lo, bu, co⟩ := o
    obtain ⟨m1, sh1, lo1, bu1, co1⟩ := p
    conv => whnf
    refine acall.new [] [] _ _ _ _ h1 rfl rfl rfl rfl aut aut rfl rfl fun _ => ?_
    conv => whnf
    refine acall.new [] [] _ _ _ _ h2 rfl rfl rfl rfl aut aut rfl rfl fun _ => ?_
    conv => whnf
    refine CutL.by (fun _ : Unit => ⟨[(2, .tr (bytT b))], [], 10⟩) (fun _ => True) ?_ ?_
    · conv => whnf
      refine acall.gen [] [4, 11] _ _ _ _ hbe rfl rfl rfl rfl ⟨⟨rfl, Nat.le_of_eq (brows_len E).symm, by rw [List.take_of_length_le (by simp [brows])]; rfl⟩, ⟨rfl, Nat.le_of_eq (brows_len E).symm, by rw [List.take_of_length_le (by simp [brows])]; rfl⟩, trivial⟩ trivial rfl rfl ?_
      conv => whnf
      refine acall.pure _ (ht) rfl rfl ?_
      conv => whnf
      refine acall.pure _ (hs) rfl rfl ?_
      conv => whnf
      cases B
      · conv => whnf
        refine acall.pure _ (hcp) rfl rfl ?_
        conv => whnf
        refine acall.pure _ (hts) rfl rfl ?_
        conv => whnf
        refine ⟨by kernel_rfl, fun _ => ?_⟩
        conv => whnf
        exact ⟨(), [], [], Sub.mk' rfl ⟨.inl rfl, trivial⟩ trivial rfl rfl, trivial⟩
      · conv => whnf
        refine acall.pure _ (hcp) rfl rfl ?_
        conv => whnf
        refine acall.pure _ (hts) rfl rfl ?_
        conv => whnf
        refine ⟨by kernel_rfl, fun _ => ?_⟩
        conv => whnf
        exact ⟨(), [], [], Sub.mk' rfl ⟨.inl rfl, trivial⟩ trivial rfl rfl, trivial⟩
    · rintro - - -
      clear h1 h2 hbe ht hs hcp hts
      refine CutL.by (fun _ : Unit => ⟨[(2, .tr (bytT b)), (11, .tr (bytT b))], [], 10⟩) (fun _ => True) ?_ ?_
      · conv => whnf
        refine ⟨rfl, rfl, rfl, Nat.le_refl _, (by show (0 + (brows b).length) * 1 ≤ _; rw [brows_len]; omega), (fun q hq => by cases hq), ?_⟩
        conv => whnf
        exact ⟨(), [], [], Sub.mk' rfl ⟨.inl rfl, ⟨rfl, Nat.le_of_eq (by simp), by rw [List.take_of_length_le (by simp)]; rfl⟩, trivial⟩ trivial rfl rfl, trivial⟩
      · rintro - - -
        conv => whnf
        refine acall.pure _ (hd) rfl rfl fun _ => ?_
        conv => whnf
        refine acall.pure _ (hz) rfl rfl fun _ => ?_
        conv => whnf
        refine acall.pure _ (hs2) rfl rfl fun _ => ?_
        conv => whnf
        refine csplit (fun g1 => ?_) (fun g1 => ?_)
        · conv => whnf
          refine acall.pure _ (hbb) rfl rfl fun _ => ?_
          conv => whnf
          refine acall.pure _ (k_begins) rfl rfl fun _ => ?_
          conv => whnf
          exact ⟨.inl rfl, trivial⟩
        · exact absurd g1 (by simp)
  · have h1 := k_encode0 o h
    have h2 := z_encode0 o h
    generalize checkO o = Q at h h1 h2
    obtain ⟨q1, q2, q3⟩ := Q
    simp only at h h1 h2
    clear hB
    obtain ⟨m, sh, lo, bu, co⟩ := o
    obtain ⟨m1, sh1, lo1, bu1, co1⟩ := p
    have hbe := k_bytes []
    conv => whnf
    refine acall.pure _ (h1) rfl rfl fun _ => ?_
    conv => whnf
    refine acall.pure _ (h2) rfl rfl fun _ => ?_
    conv => whnf
    refine CutL.by (fun _ : Unit => ⟨[(2, .tr (bytT b))], [], 10⟩) (fun _ => True) ?_ ?_
    · conv => whnf
      refine acall.gen [] [] _ _ _ _ hbe rfl rfl rfl rfl ⟨.inr ⟨rfl, _, _, rfl⟩, .inr ⟨rfl, _, _, rfl⟩, trivial⟩ trivial rfl rfl ?_
      conv => whnf
      have hqq : (q1 != q1) = false := by simp
      rw [hqq]
      conv => whnf
      refine acall.pure _ (ht) rfl rfl ?_
      conv => whnf
      refine acall.pure _ (hs) rfl rfl ?_
      conv => whnf
      cases B
      · conv => whnf
        refine acall.pure _ (hcp) rfl rfl ?_
        conv => whnf
        refine acall.pure _ (hts) rfl rfl ?_
        conv => whnf
        refine ⟨by kernel_rfl, fun _ => ?_⟩
        conv => whnf
        exact ⟨(), [], [], Sub.mk' rfl ⟨.inl rfl, trivial⟩ trivial rfl rfl, trivial⟩
      · conv => whnf
        refine acall.pure _ (hcp) rfl rfl ?_
        conv => whnf
        refine acall.pure _ (hts) rfl rfl ?_
        conv => whnf
        refine ⟨by kernel_rfl, fun _ => ?_⟩
        conv => whnf
        exact ⟨(), [], [], Sub.mk' rfl ⟨.inl rfl, trivial⟩ trivial rfl rfl, trivial⟩
    · rintro - - -
      clear h1 h2 hbe ht hs hcp hts
      refine CutL.by (fun _ : Unit => ⟨[(2, .tr (bytT b)), (11, .tr (bytT b))], [], 10⟩) (fun _ => True) ?_ ?_
      · conv => whnf
        refine ⟨rfl, rfl, rfl, Nat.le_refl _, (by show (0 + (brows b).length) * 1 ≤ _; rw [brows_len]; omega), (fun q hq => by cases hq), ?_⟩
        conv => whnf
        exact ⟨(), [], [], Sub.mk' rfl ⟨.inl rfl, ⟨rfl, Nat.le_of_eq (by simp), by rw [List.take_of_length_le (by simp)]; rfl⟩, trivial⟩ trivial rfl rfl, trivial⟩
      · rintro - - -
        conv => whnf
        refine acall.pure _ (hd) rfl rfl fun _ => ?_
        conv => whnf
        refine acall.pure _ (hz) rfl rfl fun _ => ?_
        conv => whnf
        refine acall.pure _ (hs2) rfl rfl fun _ => ?_
        conv => whnf
        refine csplit (fun g1 => ?_) (fun g1 => ?_)
        · conv => whnf
          refine acall.pure _ (hbb) rfl rfl fun _ => ?_
          conv => whnf
          refine acall.pure _ (k_begins) rfl rfl fun _ => ?_
          conv => whnf
          exact ⟨.inl rfl, trivial⟩
        · exact absurd g1 (by simp)
end Go.Proofs.YtffhoknkfohfgaaGreatDoor.am

namespace Go.Proofs.YtffhoknkfohfgaaGreatDoor.rTargetBytes
open Go Go.RowKit Go.ChangeShapes Go.WideShapes Go.ChangeAt Go.WideMaps Go.WideElems
open Go.ChangeMaps (open_string shut_string)
open Go.Proofs.YtffhoknkfohfgaaGreatDoor.am

theorem own : ownKnob Tryz.prog.godebug = none := by kernel_rfl
theorem laidOut : laidOutB Tryz.prog = true := by kernel_rfl
set_option maxRecDepth 100000 in
theorem contract (H : Type) (enc : TypeId × Value → H) (W : World) (args : Array Value) (ds gs : List (DataW H)) (before : List MemPlace)
    (hval : ∀ (j : Nat) t v, Tryz.f5.params[j]? = some t → args[j]? = some v → ∃ base, Value.okWide Tryz.prog W .any base t v)
    (hW : DataW.Whole enc Tryz.prog Tryz.f5.params.toList Rows.targetBytesSpec.vars false W args.toList ds gs before)
    (hwt : (DataW.weightsEach Tryz.prog (Tryz.f5.params.toList ++ (OpenSpec.ofChange Rows.targetBytesSpec).bare.plain.varTypes Tryz.prog) (ds ++ gs)).all (· ≤ reachBytes) = true) (hL : laidMetH Tryz.prog Rows.targetBytesRow.laid W) :
    Calls Tryz.prog 5 args W fun e W' => ∃ v, e = .returned v ∧ Rows.targetBytesSpec.post enc Tryz.prog Tryz.f5 false true false false W args v W' := by
  have hW' := hW
  obtain ⟨p, q, hA0, hV, rfl, hfz, hnd⟩ := hW
  have hA : DataW.TrodAll enc Tryz.prog W 0 (fun _ => true) true Tryz.f5.params.toList args.toList ds p := hA0
  rw [Tryz.params5] at hA hval
  obtain ⟨v0, vs0, d0, ds0, p0, q0, hargs, rfl, rfl, h0, r0⟩ := trodAll_cons hA
  obtain ⟨v1, vs1, d1, ds1, p1, q1, rfl, rfl, rfl, h1, r1⟩ := trodAll_cons r0
  obtain ⟨v2, vs2, d2, ds2, p2, q2, rfl, rfl, rfl, h2, r2⟩ := trodAll_cons r1
  obtain ⟨rfl, rfl, rfl⟩ := trodAll_nil r2
  obtain rfl : args = #[v0, v1, v2] := by cases args; simp_all
  obtain ⟨rfl, rfl⟩ := trodVars_none hV
  clear hA0 hA
  simp only [List.append_nil] at hW'
  have hlt : ∀ x ∈ (p0 ++ (p1 ++ (p2))), x.block < W.heap.size := fun x hx => hW'.lt x (by simpa using hx)
  have hwt : (DataW.weightsEach Tryz.prog [29, 29, 42] [d0, d1, d2]).all (· ≤ reachBytes) = true := hwt
  simp only [DataW.weightsEach, List.all_append, List.all_nil, Bool.and_true, Bool.and_eq_true] at hwt
  obtain ⟨cs0, rfl⟩ : ∃ cs, v0 = .agg cs := by
    obtain ⟨base, hv⟩ := hval 0 29 v0 rfl rfl
    unfold Value.okWide at hv
    rw [Tryz.underlying29] at hv
    obtain ⟨cs, rfl, _⟩ := hv
    exact ⟨cs, rfl⟩
  obtain ⟨x0, hx0⟩ := open_obj h0 hwt.1 (fun x hx => hlt x (by simp [hx]))
  obtain ⟨cs1, rfl⟩ : ∃ cs, v1 = .agg cs := by
    obtain ⟨base, hv⟩ := hval 1 29 v1 rfl rfl
    unfold Value.okWide at hv
    rw [Tryz.underlying29] at hv
    obtain ⟨cs, rfl, _⟩ := hv
    exact ⟨cs, rfl⟩
  obtain ⟨x1, hx1⟩ := open_obj h1 hwt.2.1 (fun x hx => hlt x (by simp [hx]))
  obtain ⟨x2, hx2⟩ := open_bytes ((hval 2 42 v2 rfl rfl).choose_spec) h2 hwt.2.2 (fun x hx => hlt x (by simp [hx]))
  refine (K.calls (k_tbytes x0 x1 x2) W (tabs_of hL) #[.agg cs0, .agg cs1, v2] rfl ?_).mono fun e W' he => ?_
  · intro i v a e1 e2
    have e1 := arr_get e1
    match i, e2 with
    | 0, e2 => cases e2; cases e1; exact hx0
    | 1, e2 => cases e2; cases e1; exact hx1
    | 2, e2 => cases e2; cases e1; exact hx2
  obtain ⟨hb, v, rfl, g', hR⟩ := he
  obtain ⟨rfl, _⟩ := val_inv hR
  exact ⟨_, rfl, _, _, _, [], _, [], hW', trodAll_cons_mk (shut_bool Tryz.underlying4 _) trodAll_mk0, (trodAll_cons_mk (Below.trod laidOut (by kernel_rfl) (of_decide_eq_true (by kernel_rfl)) h0 hb (fun x hx => hlt x (by simp [hx]))) (trodAll_cons_mk (Below.trod laidOut (by kernel_rfl) (of_decide_eq_true (by kernel_rfl)) h1 hb (fun x hx => hlt x (by simp [hx]))) (trodAll_cons_mk (Below.trod laidOut (by kernel_rfl) (of_decide_eq_true (by kernel_rfl)) h2 hb (fun x hx => hlt x (by simp [hx]))) trodAll_mk0))), rfl, hb.frame _, fun h => by cases h⟩

theorem reads (os : Os) {H : Type} (enc : TypeId × Value → H) : ∃ places, DataW.whole enc Tryz.prog ((World.laidAll Tryz.prog os Rows.targetBytesRow.laid).forCall (fun _ _ => 0) ⟨#[], #[.agg #[.slice none 0 0, .int .i64 0, .int .i64 0, .int .i64 0, .slice none 0 0], .agg #[.slice none 0 0, .int .i64 0, .int .i64 0, .int .i64 0, .slice none 0 0], .slice none 0 0], []⟩).memory Tryz.f5.params.toList Rows.targetBytesSpec.vars false (#[.agg #[.slice none 0 0, .int .i64 0, .int .i64 0, .int .i64 0, .slice none 0 0], .agg #[.slice none 0 0, .int .i64 0, .int .i64 0, .int .i64 0, .slice none 0 0], .slice none 0 0] : Array Value).toList 8 = some ([.agg [.nil, .lit (.int .i64 0), .lit (.int .i64 0), .lit (.int .i64 0), .nil], .agg [.nil, .lit (.int .i64 0), .lit (.int .i64 0), .lit (.int .i64 0), .nil], .nil], [], places) :=
  ⟨[], by kernel_rfl⟩

set_option maxRecDepth 100000 in
theorem lifted (os : Os) (started : os.Started) (H : Type) (enc : TypeId × Value → H) (F : Stop.Interp) :
    ReturnsInHanded {} Tryz.checked os 5 .any ((OpenSpec.ofChange Rows.targetBytesSpec).preRow enc Tryz.prog Tryz.f5 Rows.targetBytesRow.domain false Rows.targetBytesRow.laid) (((OpenSpec.ofChange Rows.targetBytesSpec).at F).post enc Tryz.prog Tryz.f5 false true false false) := by
  obtain ⟨places, hx⟩ := reads os enc
  refine returnsInHanded_of_row (C := Tryz.checked) (s := OpenSpec.ofChange Rows.targetBytesSpec) own started (by kernel_rfl) Tryz.func5
    (witness_row_at (enc := enc) (C := Tryz.checked) false (World.laidAll Tryz.prog os Rows.targetBytesRow.laid) #[.agg #[.slice none 0 0, .int .i64 0, .int .i64 0, .int .i64 0, .slice none 0 0], .agg #[.slice none 0 0, .int .i64 0, .int .i64 0, .int .i64 0, .slice none 0 0], .slice none 0 0] rfl (by kernel_rfl) (by kernel_rfl) (by kernel_rfl)
      (OpenSpec.preRow_of_cond 8 hx (by kernel_rfl) (fun k hk => by cases hk) (by kernel_rfl) (by rw [MakeChecks.laidMetH_plain _ _ _ (by kernel_rfl)]; exact laidMet_laidAll _ (by kernel_rfl) (by kernel_rfl)))) ?_
  intro W base args ds gs before hval hW _ _ hwt hL _ _
  exact contract H enc W args ds gs before (fun j t v h1 h2 => ⟨base, hval j t v h1 h2⟩) hW hwt hL

theorem said : Rows.TargetBytesSaid :=
  OpenClaim.holds_of_cond 5 Tryz.f5 rfl rfl rfl rfl rfl rfl rfl ⟨rfl, rfl, rfl, rfl, rfl⟩ rfl rfl rfl rfl rfl (by kernel_rfl) Tryz.func5 (by kernel_rfl)
    (of_decide_eq_true (by kernel_rfl)) (by unfold Func.isWrapper; first | (rw [if_pos (by decide +kernel)]; kernel_rfl) | (rw [if_neg (by decide +kernel)]; exact ⟨rfl, rfl⟩))
    (fun os started H enc _ F => by rw [OpenClaim.pre_eq_preRow]; exact lifted os started H enc F)

theorem plain (f : FuncId) (fn : Func) (hf : Tryz.pinned.checked.prog.funcNamed Rows.targetBytesRow.func = some f) (hfn : Tryz.pinned.checked.prog.funcs[f]? = some fn) :
    false = Tryz.pinned.checked.prog.looks [] ∧ ∀ (j : Nat) t, fn.params[j]? = some t → Tryz.pinned.checked.prog.wantsStandIn t = false := by
  obtain rfl : f = 5 := Option.some.inj ((show Tryz.prog.funcNamed Rows.targetBytesRow.func = some 5 by kernel_rfl).symm.trans hf) |>.symm
  obtain rfl : fn = Tryz.f5 := (Option.some.inj (Tryz.func5.symm.trans hfn)).symm
  refine ⟨by kernel_rfl, fun j t ht => ?_⟩
  rw [Tryz.params5] at ht
  have hm := Array.mem_of_getElem? ht
  simp only [List.mem_toArray, List.mem_cons, List.not_mem_nil, or_false] at hm
  rcases hm with rfl | rfl | rfl
  · exact (show Tryz.prog.wantsStandIn 29 = false by kernel_rfl)
  · exact (show Tryz.prog.wantsStandIn 29 = false by kernel_rfl)
  · exact (show Tryz.prog.wantsStandIn 42 = false by kernel_rfl)
theorem card : Rows.TargetBytesCardSaid :=
  Claim7.holds_tied_plain_at .later [] _ _ _ _ said (fun _ h => by cases h) (by kernel_rfl) (fun _ h => by cases h) targetBytes_row_tie rfl ⟨rfl, rfl⟩ (by kernel_rfl) rfl plain (by kernel_rfl)
end Go.Proofs.YtffhoknkfohfgaaGreatDoor.rTargetBytes
