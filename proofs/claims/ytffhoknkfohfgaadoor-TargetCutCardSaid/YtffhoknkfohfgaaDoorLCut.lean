/- The law TargetCut. bytes that are cut, or have more behind them, are those of none, and so is a text that is cut within a line: for every input the law returns true, and each argument reads as it did. Conditions: the tables lie as the program's text lays them (the card ties them). -/
import Derived.Test.YtffhoknkfohfgaaDoorT11
import Derived.Test.YtffhoknkfohfgaaDoorT10
import Derived.Test.YtffhoknkfohfgaaDoorRows
import Derived.Test.YtffhoknkfohfgaaDoorCards
import Derived.Test.YtffhoknkfohfgaaDoorTie
import Derived.Test.YtffhoknkfohfgaaDoorT8
import Derived.Deep.DeepHandedRow
import Derived.ProofKit
import Derived.Lay
import Derived.MakeChecks
set_option linter.all false

namespace Go.Proofs.YtffhoknkfohfgaaDoor.am
open Go Go.Proofs
theorem rng_of {o : Ob} (h : AOk o.av) : Rng o := by
  obtain ⟨_, _, hcs⟩ := (h.agg _ (.tail _ (.tail _ (.tail _ (.tail _ (.head _)))))).tr.lst
  obtain ⟨_, _, hms⟩ := (h.agg _ (.head _)).tr.lst
  refine ⟨fun w hw => ?_, fun c hc i hi => ?_⟩
  · exact ((hms _ (List.mem_map.2 ⟨w, hw, rfl⟩)).2 (ti w) (.head _)).i64
  · obtain ⟨_, _, hci⟩ := ((hcs _ (List.mem_map.2 ⟨c, hc, rfl⟩)).2 (codeT c.code) (.tail _ (.head _))).lst
    exact (iok_of (hci _ (List.mem_map.2 ⟨i, hi, rfl⟩)).2).word
theorem enc_T {o : Ob} (hG : Good o) (hR : Rng o) (r : List UInt8) : obO limTT (encB o ++ r) = some (o, r) :=
  ob_enc hG hR (fun c hc => limT_ok (by have := (hG.code c hc).2; omega) (by have := hG.mem; omega)) r
/-- bytes with more behind them are those of none -/
theorem more_err {o : Ob} (hc : (checkO o).1 = 0) (hR : Rng o) {m : List UInt8} (hm : m ≠ []) : decS (encB o ++ m) = (emptyO, 162) := by
  rcases decS_cases (encB o ++ m) with ⟨o', h1, _, _⟩ | ⟨h, _⟩
  · rw [enc_T (check_good hc) hR] at h1
    simp only [Option.some.injEq, Prod.mk.injEq] at h1
    exact absurd h1.2 hm
  · exact h
/-- bytes that are cut are those of none -/
theorem cut_err {o : Ob} (hc : (checkO o).1 = 0) (hR : Rng o) {k : Nat} (hk : k < (encB o).length) : decS ((encB o).take k) = (emptyO, 162) := by
  rcases decS_cases ((encB o).take k) with ⟨o', h1, h2, _⟩ | ⟨h, _⟩
  · have hb := ob_inv h1
    rw [List.append_nil] at hb
    have e1 := enc_T (check_good h2) (ob_rng h1) ((encB o).drop k)
    rw [← hb, List.take_append_drop] at e1
    have e2 := enc_T (check_good hc) hR []
    rw [List.append_nil, e1] at e2
    simp only [Option.some.injEq, Prod.mk.injEq] at e2
    have := congrArg List.length e2.2
    rw [List.length_drop, List.length_nil] at this
    omega
  · exact h
theorem ext_list (s : ByteArray) (k : Nat) : (s.extract 0 k).data.toList = s.data.toList.take k := by
  rw [ByteArray.data_extract, Array.toList_extract]
  simp
/-- a text that is cut within a line is that of none -/
theorem text_err {s : ByteArray} (hs : s.size ≤ 16777216) {k : Nat} (hk : k < s.size) (h : k = 0 ∨ ∃ b, s.data.toList[k - 1]? = some b ∧ b ≠ 10) : ∃ p : Nat, parseS (s.extract 0 k) = (emptyO, 161, (p : Int)) := by
  have hl := dat_len s
  obtain ⟨p, _, e⟩ := parse_within (s := s.extract 0 k) (by rw [ByteArray.size_extract]; omega) (by
    rw [ext_list]
    rcases h with rfl | ⟨b, hb, h10⟩
    · exact .inl rfl
    · by_cases h0 : k = 0
      · subst h0; exact .inl rfl
      · refine .inr ⟨s.data.toList.take (k - 1), b, ?_, h10⟩
        obtain ⟨j, rfl⟩ : ∃ j, k = j + 1 := ⟨k - 1, by omega⟩
        rw [Nat.add_sub_cancel] at hb ⊢
        rw [List.take_add_one, hb]; rfl)
  exact ⟨p, e⟩
set_option maxRecDepth 100000 in
set_option maxHeartbeats 4000000 in
theorem k_cut (o : Ob) (k : Int) (more : List UInt8) (hml : more.length ≤ 140737488351232) : K 7 [o.av, .tr (ti k), .tr (bytT more)] [] (.ret (.tr (tb true))) [] := by
  refine Ctr.cut [6, 10, 14] hT hmix Tryd.func7 rfl (fun _ _ => by kernel_rfl) rfl fun hok => ?_
  have hR : Rng o := rng_of (hok.slot 0 rfl)
  have hk64 : in64 k := (hok.slot 1 rfl).tr.i64
  clear hok
  by_cases h : (checkO o).1 = 0
  · have hen := k_encode o h
    have hpr := k_printO o h
    have hlen := encB_len (check_good h)
    have hcut := fun n hn => cut_err h hR (k := n) hn
    have hmore := fun hn => more_err h hR (m := more) hn
    have hpl := prnO_len (check_good h) hR
    generalize encB o = B at hen hlen hcut hmore
    generalize prnO o = S at hpr hpl
    clear h hR
    have hbl := brows_len B
    have hmb := brows_len more
    obtain ⟨m, sh, lo, bu, co⟩ := o
    conv => whnf
    refine acall.pure _ (k_begins) rfl rfl fun _ => ?_
    conv => whnf
    refine acall.new [] [] _ _ _ _ hen rfl rfl rfl rfl aut aut rfl rfl fun _ => ?_
    conv => whnf
    refine CutL.by (fun _ : Unit => ⟨[(1, .tr (ti k)), (2, .tr (bytT more)), (3, .ptr 0 0), (7, .tr (bytT B))], [(0, obB (.tr (.lst 1 8 (m.map irow))) sh lo bu (.tr (.lst 2 40 (co.map Cor.cells))))], 10⟩) (fun _ => True) ?_ ?_
    · conv => whnf
      exact ⟨(), [0], [], Sub.mk' rfl ⟨.inl rfl, .inl rfl, ⟨rfl, rfl⟩, ⟨rfl, Nat.le_of_eq (brows_len B).symm, by rw [List.take_of_length_le (by simp [brows])]⟩, trivial⟩ aut rfl rfl, trivial⟩
    · rintro - - -
      refine CutL.by (fun _ : Unit => ⟨[(1, .tr (ti k)), (2, .tr (bytT more)), (3, .ptr 0 0), (7, .tr (bytT B))], [(0, obB (.tr (.lst 1 8 (m.map irow))) sh lo bu (.tr (.lst 2 40 (co.map Cor.cells))))], 10⟩) (fun _ => True) ?_ ?_
      · conv => whnf
        refine csplit (fun h1 => ?_) (fun h1 => ?_)
        · replace h1 : decide (k ≥ 0) = true := h1
          have h0 := of_decide_eq_true h1
          obtain ⟨n, rfl⟩ := Int.eq_ofNat_of_zero_le h0
          conv => whnf
          refine csplit (fun h2 => ?_) (fun h2 => ?_)
          · replace h2 : decide (((n : Nat) : Int) < ((brows B).length : Int)) = true := h2
            rw [hbl] at h2
            have hn : n < B.length := by have := of_decide_eq_true h2; omega
            have hd := k_decodeErr (B.take n) (by rw [hcut n hn]; decide)
            conv => whnf
            refine ⟨rfl, Int.le_refl _, (show (0 : Int) ≤ (n : Int) by omega), (show (n : Int) ≤ ((brows B).length : Int) by rw [hbl]; omega), ?_⟩
            conv => whnf
            refine acall.gen [] [] _ _ _ _ hd rfl rfl rfl rfl ⟨.inl (congrArg (Tr.lst 1 1) (by rw [brows_take]; rfl)), trivial⟩ trivial rfl rfl fun _ => ?_
            conv => whnf
            exact ⟨(), [0], [], Sub.au, trivial⟩
          · conv => whnf
            exact ⟨(), [0], [], Sub.au, trivial⟩
        · conv => whnf
          exact ⟨(), [0], [], Sub.au, trivial⟩
      · rintro - - -
        refine CutL.by (fun _ : Unit => ⟨[(1, .tr (ti k)), (3, .ptr 0 0)], [(0, obB (.tr (.lst 1 8 (m.map irow))) sh lo bu (.tr (.lst 2 40 (co.map Cor.cells))))], 10⟩) (fun _ => True) ?_ ?_
        · conv => whnf
          refine csplit (fun h1 => ?_) (fun h1 => ?_)
          · have hne : more ≠ [] := fun e => by
              replace h1 : decide (((brows more).length : Int) > 0) = true := h1
              have := of_decide_eq_true h1
              rw [hmb, e, List.length_nil] at this
              omega
            have hd := k_decodeErr (B ++ more) (by rw [hmore hne]; decide)
            conv => whnf
            refine ⟨rfl, rfl, rfl, Nat.le_refl _, (by show (0 + (brows B).length) * 1 ≤ _; rw [hbl]; omega), (fun q hq => by cases hq), ?_⟩
            conv => whnf
            refine ⟨rfl, rfl, rfl, (by simp), (by show ((0 + (brows B).length) + (brows more).length) * 1 ≤ _; rw [hbl, hmb]; omega), (fun q hq => by cases hq), ?_⟩
            conv => whnf
            refine acall.gen [] [17] _ _ _ _ hd rfl rfl rfl rfl ⟨⟨rfl, (by simp), (by rw [List.take_of_length_le (by simp), List.take_of_length_le (by simp)]; simp [brows])⟩, trivial⟩ trivial rfl rfl fun _ => ?_
            conv => whnf
            exact ⟨(), [0], [], Sub.au, trivial⟩
          · conv => whnf
            exact ⟨(), [0], [], Sub.au, trivial⟩
        · rintro - - -
          conv => whnf
          refine acall.pure _ (hpr) rfl rfl fun _ => ?_
          conv => whnf
          refine csplit (fun h1 => ?_) (fun h1 => ?_)
          · conv => whnf
            exact ⟨.inl rfl, trivial⟩
          · replace h1 : decide (k < 0) = false := h1
            obtain ⟨n, rfl⟩ := Int.eq_ofNat_of_zero_le (show 0 ≤ k by have := of_decide_eq_false h1; omega)
            conv => whnf
            refine csplit (fun h2 => ?_) (fun h2 => ?_)
            · conv => whnf
              exact ⟨.inl rfl, trivial⟩
            · replace h2 : decide (((n : Nat) : Int) ≥ (S.size : Int)) = false := h2
              have hn : n < S.size := by have := of_decide_eq_false h2; omega
              have hsl := dat_len S
              have fin : ∀ p : Nat, parseS (S.extract 0 n) = (emptyO, 161, (p : Int)) → K 9 [.tr (ts (S.extract 0 n))] [] (.ret (.tup [.agg [nilT, .tr (ti 0), .tr (ti 0), .tr (ti 0), nilT], .tr (ti 161), .tr (ti p)])) [] := fun p e => k_parseErr (S.extract 0 n) e.symm (show (161 : Int) ≠ 0 by decide)
              conv => whnf
              refine csplit (fun h3 => ?_) (fun h3 => ?_)
              · replace h3 : decide (((n : Nat) : Int) > 0) = true := h3
                have hn0 : 0 < n := by have := of_decide_eq_true h3; omega
                have hw1 : IntKind.i64.wrap ((n : Int) - 1) = ((n - 1 : Nat) : Int) := by rw [w64 (by omega) (by omega)]; omega
                conv => whnf
                refine ⟨(show (0 : Int) ≤ IntKind.i64.wrap ((n : Int) - 1) by rw [hw1]; omega), (show IntKind.i64.wrap ((n : Int) - 1) < (S.size : Int) by rw [hw1]; omega), fun c hc => ?_⟩
                replace hc : S.data.toList[n - 1]? = some c := by
                  have hc : S.data[(IntKind.i64.wrap ((n : Int) - 1)).toNat]? = some c := hc
                  rw [hw1] at hc
                  simpa using hc
                conv => whnf
                refine csplit (fun h4 => ?_) (fun h4 => ?_)
                · conv => whnf
                  exact ⟨.inl rfl, trivial⟩
                · replace h4 : ((c.toNat : Int) == 10) = false := h4
                  obtain ⟨p, hp⟩ := text_err hpl hn (.inr ⟨c, hc, fun e => by rw [e] at h4; exact absurd h4 (by decide)⟩)
                  have hq := fin p hp
                  conv => whnf
                  refine ⟨Int.le_refl _, (show (0 : Int) ≤ (n : Int) by omega), (show (n : Int) ≤ (S.size : Int) by omega), ?_⟩
                  conv => whnf
                  refine acall.pure _ (hq) rfl rfl fun _ => ?_
                  conv => whnf
                  exact ⟨.inl rfl, trivial⟩
              · replace h3 : decide (((n : Nat) : Int) > 0) = false := h3
                have hn0 : n = 0 := by have := of_decide_eq_false h3; omega
                subst hn0
                obtain ⟨p, hp⟩ := text_err hpl hn (.inl rfl)
                have hq := fin p hp
                conv => whnf
                refine ⟨Int.le_refl _, Int.le_refl _, (show (0 : Int) ≤ (S.size : Int) by omega), ?_⟩
                conv => whnf
                refine acall.pure _ (hq) rfl rfl fun _ => ?_
                conv => whnf
                exact ⟨.inl rfl, trivial⟩
  · have hen := k_encode0 o h
    generalize checkO o = Q at h hen
    obtain ⟨q1, q2, q3⟩ := Q
    simp only at h hen
    clear hR
    obtain ⟨m, sh, lo, bu, co⟩ := o
    conv => whnf
    refine acall.pure _ (k_begins) rfl rfl fun _ => ?_
    conv => whnf
    refine acall.pure _ (hen) rfl rfl fun _ => ?_
    conv => whnf
    refine CutL.by (fun _ : Unit => ⟨[(1, .tr (ti k)), (3, .ptr 0 0)], [(0, obB (.tr (.lst 1 8 (m.map irow))) sh lo bu (.tr (.lst 2 40 (co.map Cor.cells))))], 10⟩) (fun _ => False) ?_ ?_
    · conv => whnf
      refine csplit (fun g1 => ?_) (fun g1 => ?_)
      · conv => whnf
        exact ⟨.inl rfl, trivial⟩
      · exact absurd g1 (by simpa using h)
    · rintro - h -
      exact h.elim
end Go.Proofs.YtffhoknkfohfgaaDoor.am

namespace Go.Proofs.YtffhoknkfohfgaaDoor.rTargetCut
open Go Go.RowKit Go.ChangeShapes Go.WideShapes Go.ChangeAt Go.WideMaps Go.WideElems
open Go.ChangeMaps (open_string shut_string)
open Go.Proofs.YtffhoknkfohfgaaDoor.am

theorem own : ownKnob Tryd.prog.godebug = none := by kernel_rfl
theorem laidOut : laidOutB Tryd.prog = true := by kernel_rfl
set_option maxRecDepth 100000 in
theorem contract (H : Type) (enc : TypeId × Value → H) (W : World) (args : Array Value) (ds gs : List (DataW H)) (before : List MemPlace)
    (hval : ∀ (j : Nat) t v, Tryd.f7.params[j]? = some t → args[j]? = some v → ∃ base, Value.okWide Tryd.prog W .any base t v)
    (hW : DataW.Whole enc Tryd.prog Tryd.f7.params.toList Rows.targetCutSpec.vars false W args.toList ds gs before)
    (hwt : (DataW.weightsEach Tryd.prog (Tryd.f7.params.toList ++ (OpenSpec.ofChange Rows.targetCutSpec).bare.plain.varTypes Tryd.prog) (ds ++ gs)).all (· ≤ reachBytes) = true) (hL : laidMetH Tryd.prog Rows.targetCutRow.laid W) :
    Calls Tryd.prog 7 args W fun e W' => ∃ v, e = .returned v ∧ Rows.targetCutSpec.post enc Tryd.prog Tryd.f7 false true false false W args v W' := by
  have hW' := hW
  obtain ⟨p, q, hA0, hV, rfl, hfz, hnd⟩ := hW
  have hA : DataW.TrodAll enc Tryd.prog W 0 (fun _ => true) true Tryd.f7.params.toList args.toList ds p := hA0
  rw [Tryd.params7] at hA hval
  obtain ⟨v0, vs0, d0, ds0, p0, q0, hargs, rfl, rfl, h0, r0⟩ := trodAll_cons hA
  obtain ⟨v1, vs1, d1, ds1, p1, q1, rfl, rfl, rfl, h1, r1⟩ := trodAll_cons r0
  obtain ⟨v2, vs2, d2, ds2, p2, q2, rfl, rfl, rfl, h2, r2⟩ := trodAll_cons r1
  obtain ⟨rfl, rfl, rfl⟩ := trodAll_nil r2
  obtain rfl : args = #[v0, v1, v2] := by cases args; simp_all
  obtain ⟨rfl, rfl⟩ := trodVars_none hV
  clear hA0 hA
  simp only [List.append_nil] at hW'
  have hlt : ∀ x ∈ (p0 ++ (p1 ++ (p2))), x.block < W.heap.size := fun x hx => hW'.lt x (by simpa using hx)
  have hwt : (DataW.weightsEach Tryd.prog [25, 3, 38] [d0, d1, d2]).all (· ≤ reachBytes) = true := hwt
  simp only [DataW.weightsEach, List.all_append, List.all_nil, Bool.and_true, Bool.and_eq_true] at hwt
  obtain ⟨cs0, rfl⟩ : ∃ cs, v0 = .agg cs := by
    obtain ⟨base, hv⟩ := hval 0 25 v0 rfl rfl
    unfold Value.okWide at hv
    rw [Tryd.underlying25] at hv
    obtain ⟨cs, rfl, _⟩ := hv
    exact ⟨cs, rfl⟩
  obtain ⟨x0, hx0⟩ := open_obj h0 hwt.1 (fun x hx => hlt x (by simp [hx]))
  obtain ⟨x1, rfl, rfl, rfl, wx1⟩ := open_int Tryd.underlying3 ((hval 1 3 v1 rfl rfl).choose_spec) h1
  obtain ⟨x2, hx2, hl2⟩ := open_bytesL ((hval 2 38 v2 rfl rfl).choose_spec) h2 hwt.2.2 (fun x hx => hlt x (by simp [hx]))
  refine (K.calls (k_cut x0 x1 x2 hl2) W (tabs_of hL) #[.agg cs0, .int .i64 x1, v2] rfl ?_).mono fun e W' he => ?_
  · intro i v a e1 e2
    have e1 := arr_get e1
    match i, e2 with
    | 0, e2 => cases e2; cases e1; exact hx0
    | 1, e2 => cases e2; cases e1; exact .tr (.v (lit_good wx1))
    | 2, e2 => cases e2; cases e1; exact hx2
  obtain ⟨hb, v, rfl, g', hR⟩ := he
  obtain ⟨rfl, _⟩ := val_inv hR
  exact ⟨_, rfl, _, _, _, [], _, [], hW', trodAll_cons_mk (shut_bool Tryd.underlying4 _) trodAll_mk0, (trodAll_cons_mk (Below.trod laidOut (by kernel_rfl) (of_decide_eq_true (by kernel_rfl)) h0 hb (fun x hx => hlt x (by simp [hx]))) (trodAll_cons_mk (shut_int Tryd.underlying3 wx1) (trodAll_cons_mk (Below.trod laidOut (by kernel_rfl) (of_decide_eq_true (by kernel_rfl)) h2 hb (fun x hx => hlt x (by simp [hx]))) trodAll_mk0))), rfl, hb.frame _, fun h => by cases h⟩

theorem reads (os : Os) {H : Type} (enc : TypeId × Value → H) : ∃ places, DataW.whole enc Tryd.prog ((World.laidAll Tryd.prog os Rows.targetCutRow.laid).forCall (fun _ _ => 0) ⟨#[], #[.agg #[.slice none 0 0, .int .i64 0, .int .i64 0, .int .i64 0, .slice none 0 0], .int .i64 0, .slice none 0 0], []⟩).memory Tryd.f7.params.toList Rows.targetCutSpec.vars false (#[.agg #[.slice none 0 0, .int .i64 0, .int .i64 0, .int .i64 0, .slice none 0 0], .int .i64 0, .slice none 0 0] : Array Value).toList 8 = some ([.agg [.nil, .lit (.int .i64 0), .lit (.int .i64 0), .lit (.int .i64 0), .nil], .lit (.int .i64 0), .nil], [], places) :=
  ⟨[], by kernel_rfl⟩

set_option maxRecDepth 100000 in
theorem lifted (os : Os) (started : os.Started) (H : Type) (enc : TypeId × Value → H) (F : Stop.Interp) :
    ReturnsInHanded {} Tryd.checked os 7 .any ((OpenSpec.ofChange Rows.targetCutSpec).preRow enc Tryd.prog Tryd.f7 Rows.targetCutRow.domain false Rows.targetCutRow.laid) (((OpenSpec.ofChange Rows.targetCutSpec).at F).post enc Tryd.prog Tryd.f7 false true false false) := by
  obtain ⟨places, hx⟩ := reads os enc
  refine returnsInHanded_of_row (C := Tryd.checked) (s := OpenSpec.ofChange Rows.targetCutSpec) own started (by kernel_rfl) Tryd.func7
    (witness_row_at (enc := enc) (C := Tryd.checked) false (World.laidAll Tryd.prog os Rows.targetCutRow.laid) #[.agg #[.slice none 0 0, .int .i64 0, .int .i64 0, .int .i64 0, .slice none 0 0], .int .i64 0, .slice none 0 0] rfl (by kernel_rfl) (by kernel_rfl) (by kernel_rfl)
      (OpenSpec.preRow_of_cond 8 hx (by kernel_rfl) (fun k hk => by cases hk) (by kernel_rfl) (by rw [MakeChecks.laidMetH_plain _ _ _ (by kernel_rfl)]; exact laidMet_laidAll _ (by kernel_rfl) (by kernel_rfl)))) ?_
  intro W base args ds gs before hval hW _ _ hwt hL _ _
  exact contract H enc W args ds gs before (fun j t v h1 h2 => ⟨base, hval j t v h1 h2⟩) hW hwt hL

theorem said : Rows.TargetCutSaid :=
  OpenClaim.holds_of_cond 7 Tryd.f7 rfl rfl rfl rfl rfl rfl rfl ⟨rfl, rfl, rfl, rfl, rfl⟩ rfl rfl rfl rfl rfl (by kernel_rfl) Tryd.func7 (by kernel_rfl)
    (of_decide_eq_true (by kernel_rfl)) (by unfold Func.isWrapper; first | (rw [if_pos (by decide +kernel)]; kernel_rfl) | (rw [if_neg (by decide +kernel)]; exact ⟨rfl, rfl⟩))
    (fun os started H enc _ F => by rw [OpenClaim.pre_eq_preRow]; exact lifted os started H enc F)

theorem plain (f : FuncId) (fn : Func) (hf : Tryd.pinned.checked.prog.funcNamed Rows.targetCutRow.func = some f) (hfn : Tryd.pinned.checked.prog.funcs[f]? = some fn) :
    false = Tryd.pinned.checked.prog.looks [] ∧ ∀ (j : Nat) t, fn.params[j]? = some t → Tryd.pinned.checked.prog.wantsStandIn t = false := by
  obtain rfl : f = 7 := Option.some.inj ((show Tryd.prog.funcNamed Rows.targetCutRow.func = some 7 by kernel_rfl).symm.trans hf) |>.symm
  obtain rfl : fn = Tryd.f7 := (Option.some.inj (Tryd.func7.symm.trans hfn)).symm
  refine ⟨by kernel_rfl, fun j t ht => ?_⟩
  rw [Tryd.params7] at ht
  have hm := Array.mem_of_getElem? ht
  simp only [List.mem_toArray, List.mem_cons, List.not_mem_nil, or_false] at hm
  rcases hm with rfl | rfl | rfl
  · exact (show Tryd.prog.wantsStandIn 25 = false by kernel_rfl)
  · exact (show Tryd.prog.wantsStandIn 3 = false by kernel_rfl)
  · exact (show Tryd.prog.wantsStandIn 38 = false by kernel_rfl)
theorem card : Rows.TargetCutCardSaid :=
  Claim7.holds_tied_plain_at .later [] _ _ _ _ said (fun _ h => by cases h) (by kernel_rfl) (fun _ h => by cases h) targetCut_row_tie rfl ⟨rfl, rfl⟩ (by kernel_rfl) rfl plain (by kernel_rfl)
end Go.Proofs.YtffhoknkfohfgaaDoor.rTargetCut
