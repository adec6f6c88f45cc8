/- what Shrink hands out is its asker's own: for every input the law returns true, and each argument reads as it did. Conditions: the tables lie as -/
import Derived.Test.YtbflekglkkdipaaGreatDoorRows
import Derived.Test.YtbflekglkkdipaaGreatDoorCards
import Derived.Test.YtbflekglkkdipaaGreatDoorTie
import Derived.Test.YtbflekglkkdipaaGreatDoorW12
import Derived.Test.YtbflekglkkdipaaGreatDoorW11
import Derived.Deep.DeepHandedRow
import Derived.ProofKit
import Derived.Lay
import Derived.MakeChecks
set_option linter.all false
namespace Go.Proofs.YtbflekglkkdipaaGreatDoor.rSchedOwn
open Go Go.RowKit Go.ChangeShapes Go.WideShapes Go.ChangeAt Go.WideMaps Go.WideElems
open Go.ChangeMaps (open_string shut_string)
open Go.Proofs.YtbflekglkkdipaaGreatDoor.am
theorem own:ownKnob Tryz.prog.godebug=none:=by kernel_rfl
theorem laidOut:laidOutB Tryz.prog=true:=by kernel_rfl
set_option maxRecDepth 100000 in
theorem contract (H:Type) (enc:TypeId × Value→H) (W:World) (args:Array Value) (ds gs:List (DataW H)) (before:List MemPlace)
  (hval : ∀ (j:Nat) t v,Tryz.f3.params[j]? = some t→args[j]? = some v → ∃ base,Value.okWide Tryz.prog W .any base t v)
  (hW:DataW.Whole enc Tryz.prog Tryz.f3.params.toList Rows.schedOwnSpec.vars false W args.toList ds gs before)
  (hwt:(DataW.weightsEach Tryz.prog (Tryz.f3.params.toList++(OpenSpec.ofChange Rows.schedOwnSpec).bare.plain.varTypes Tryz.prog) (ds++gs)).all (· ≤ reachBytes)=true) (hL:laidMetH Tryz.prog Rows.schedOwnRow.laid W) :
  Calls Tryz.prog 3 args W fun e W' => ∃ v,e = .returned v∧Rows.schedOwnSpec.post enc Tryz.prog Tryz.f3 false true false false W args v W':=by
 have hW':=hW
 obtain ⟨p,q,hA0,hV,rfl,hfz,hnd⟩:=hW
 have hA:DataW.TrodAll enc Tryz.prog W 0 (fun _=>true) true Tryz.f3.params.toList args.toList ds p:=hA0
 rw [Tryz.params3] at hA hval
 obtain ⟨v0,vs0,d0,ds0,p0,q0,hargs,rfl,rfl,h0,r0⟩:=trodAll_cons hA
 obtain ⟨v1,vs1,d1,ds1,p1,q1,rfl,rfl,rfl,h1,r1⟩:=trodAll_cons r0
 obtain ⟨v2,vs2,d2,ds2,p2,q2,rfl,rfl,rfl,h2,r2⟩:=trodAll_cons r1
 obtain ⟨rfl,rfl,rfl⟩:=trodAll_nil r2
 obtain rfl:args = #[v0,v1,v2]:=by cases args; simp_all
 obtain ⟨rfl,rfl⟩:=trodVars_none hV
 clear hA0 hA
 simp only [List.append_nil] at hW'
 have hlt : ∀ x ∈ (p0++(p1++(p2))),x.block<W.heap.size:=fun x hx=>hW'.lt x (by simpa using hx)
 have hwt:(DataW.weightsEach Tryz.prog [25,26,27] [d0,d1,d2]).all (· ≤ reachBytes)=true:=hwt
 simp only [DataW.weightsEach,List.all_append,List.all_nil,Bool.and_true,Bool.and_eq_true] at hwt
 obtain ⟨cs0,rfl⟩ : ∃ cs,v0 = .agg cs:=by
  obtain ⟨base,hv⟩:=hval 0 25 v0 rfl rfl
  unfold Value.okWide at hv
  rw [Tryz.underlying25] at hv
  obtain ⟨cs,rfl,_⟩:=hv
  exact ⟨cs,rfl⟩
 obtain ⟨x0,hx0⟩:=open_obj h0 hwt.1 (fun x hx=>hlt x (by simp [hx]))
 obtain ⟨x1,hx1⟩:=open_steps ((hval 1 26 v1 rfl rfl).choose_spec) h1 hwt.2.1 (fun x hx=>hlt x (by simp [hx]))
 obtain ⟨x2,hx2⟩:=open_prints ((hval 2 27 v2 rfl rfl).choose_spec) h2 hwt.2.2 (fun x hx=>hlt x (by simp [hx]))
 refine (K.calls (kSOwn x0 x1 x2) W (tabs_of hL) #[.agg cs0,v1,v2] rfl ?_).mono fun e W' he => ?_
 ·intro i v a e1 e2
  have e1:=arr_get e1
  match i,e2 with
  | 0,e2=>cases e2; cases e1; exact hx0
  | 1,e2=>cases e2; cases e1; exact hx1
  | 2,e2=>cases e2; cases e1; exact hx2
 obtain ⟨hb,v,rfl,g',hR⟩:=he
 obtain ⟨rfl,_⟩:=val_inv hR
 exact ⟨_,rfl,_,_,_,[],_,[],hW',trodAll_cons_mk (shut_bool Tryz.underlying4 _) trodAll_mk0,(trodAll_cons_mk (Below.trod laidOut (by kernel_rfl) (of_decide_eq_true (by kernel_rfl)) h0 hb (fun x hx=>hlt x (by simp [hx]))) (trodAll_cons_mk (Below.trod laidOut (by kernel_rfl) (of_decide_eq_true (by kernel_rfl)) h1 hb (fun x hx=>hlt x (by simp [hx]))) (trodAll_cons_mk (Below.trod laidOut (by kernel_rfl) (of_decide_eq_true (by kernel_rfl)) h2 hb (fun x hx=>hlt x (by simp [hx]))) trodAll_mk0))),rfl,hb.frame _,fun h=>by cases h⟩
theorem reads (os:Os) {H:Type} (enc:TypeId × Value→H) : ∃ places,DataW.whole enc Tryz.prog ((World.laidAll Tryz.prog os Rows.schedOwnRow.laid).forCall (fun _ _=>0) ⟨#[],#[.agg #[.slice none 0 0,.int .i64 0,.int .i64 0,.int .i64 0,.slice none 0 0],.slice none 0 0,.slice none 0 0],[]⟩).memory Tryz.f3.params.toList Rows.schedOwnSpec.vars false (#[.agg #[.slice none 0 0,.int .i64 0,.int .i64 0,.int .i64 0,.slice none 0 0],.slice none 0 0,.slice none 0 0]:Array Value).toList 8=some ([.agg [.nil,.lit (.int .i64 0),.lit (.int .i64 0),.lit (.int .i64 0),.nil],.nil,.nil],[],places) :=
 ⟨[],by kernel_rfl⟩
set_option maxRecDepth 100000 in
theorem lifted (os:Os) (started:os.Started) (H:Type) (enc:TypeId × Value→H) (F:Stop.Interp) :
  ReturnsInHanded {} Tryz.checked os 3 .any ((OpenSpec.ofChange Rows.schedOwnSpec).preRow enc Tryz.prog Tryz.f3 Rows.schedOwnRow.domain false Rows.schedOwnRow.laid) (((OpenSpec.ofChange Rows.schedOwnSpec).at F).post enc Tryz.prog Tryz.f3 false true false false):=by
 obtain ⟨places,hx⟩:=reads os enc
 refine returnsInHanded_of_row (C := Tryz.checked) (s:=OpenSpec.ofChange Rows.schedOwnSpec) own started (by kernel_rfl) Tryz.func3
  (witness_row_at (enc:=enc) (C := Tryz.checked) false (World.laidAll Tryz.prog os Rows.schedOwnRow.laid) #[.agg #[.slice none 0 0,.int .i64 0,.int .i64 0,.int .i64 0,.slice none 0 0],.slice none 0 0,.slice none 0 0] rfl (by kernel_rfl) (by kernel_rfl) (by kernel_rfl)
   (OpenSpec.preRow_of_cond 8 hx (by kernel_rfl) (fun k hk=>by cases hk) (by kernel_rfl) (by rw [MakeChecks.laidMetH_plain _ _ _ (by kernel_rfl)]; exact laidMet_laidAll _ (by kernel_rfl) (by kernel_rfl)))) ?_
 intro W base args ds gs before hval hW _ _ hwt hL _ _
 exact contract H enc W args ds gs before (fun j t v h1 h2=>⟨base,hval j t v h1 h2⟩) hW hwt hL
theorem said:Rows.SchedOwnSaid :=
 OpenClaim.holds_of_cond 3 Tryz.f3 rfl rfl rfl rfl rfl rfl rfl ⟨rfl,rfl,rfl,rfl,rfl⟩ rfl rfl rfl rfl rfl (by kernel_rfl) Tryz.func3 (by kernel_rfl)
  (of_decide_eq_true (by kernel_rfl)) (by unfold Func.isWrapper; first | (rw [if_pos (by decide +kernel)]; kernel_rfl) | (rw [if_neg (by decide +kernel)]; exact ⟨rfl,rfl⟩))
  (fun os started H enc _ F=>by rw [OpenClaim.pre_eq_preRow]; exact lifted os started H enc F)
theorem plain (f:FuncId) (fn:Func) (hf : Tryz.pinned.checked.prog.funcNamed Rows.schedOwnRow.func=some f) (hfn : Tryz.pinned.checked.prog.funcs[f]? = some fn) :
  true = Tryz.pinned.checked.prog.looks [] ∧ ∀ (j:Nat) t,fn.params[j]? = some t → Tryz.pinned.checked.prog.wantsStandIn t=false:=by
 obtain rfl:f = 3 := Option.some.inj ((show Tryz.prog.funcNamed Rows.schedOwnRow.func=some 3 by kernel_rfl).symm.trans hf) |>.symm
 obtain rfl:fn = Tryz.f3 := (Option.some.inj (Tryz.func3.symm.trans hfn)).symm
 refine ⟨by kernel_rfl,fun j t ht => ?_⟩
 rw [Tryz.params3] at ht
 have hm:=Array.mem_of_getElem? ht
 simp only [List.mem_toArray,List.mem_cons,List.not_mem_nil,or_false] at hm
 rcases hm with rfl | rfl | rfl
 ·exact (show Tryz.prog.wantsStandIn 25 = false by kernel_rfl)
 ·exact (show Tryz.prog.wantsStandIn 26 = false by kernel_rfl)
 ·exact (show Tryz.prog.wantsStandIn 27 = false by kernel_rfl)
theorem card:Rows.SchedOwnCardSaid :=
 Claim7.holds_tied_plain_at .later [] _ _ _ _ said (fun _ h=>by cases h) (by kernel_rfl) (fun _ h=>by cases h) schedOwn_row_tie rfl ⟨rfl,rfl⟩ (by kernel_rfl) rfl plain (by kernel_rfl)
end Go.Proofs.YtbflekglkkdipaaGreatDoor.rSchedOwn
