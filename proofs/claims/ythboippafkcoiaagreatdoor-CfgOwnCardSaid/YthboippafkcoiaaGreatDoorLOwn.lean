/- units and lists are their asker's own: for every input the law returns true, and each argument reads as it did. Conditions: the tables lie as the program's text lays them (the card ties them). -/
import Derived.Test.YthboippafkcoiaaGreatDoorRows
import Derived.Test.YthboippafkcoiaaGreatDoorCards
import Derived.Test.YthboippafkcoiaaGreatDoorTie
import Derived.Test.YthboippafkcoiaaGreatDoorV12
import Derived.Test.YthboippafkcoiaaGreatDoorV15
import Derived.Deep.DeepHandedRow
import Derived.ProofKit
import Derived.Lay
import Derived.MakeChecks
set_option linter.all false
namespace Go.Proofs.YthboippafkcoiaaGreatDoor.rCfgOwn
open Go Go.RowKit Go.ChangeShapes Go.WideShapes Go.ChangeAt Go.WideMaps Go.WideElems
open Go.ChangeMaps (open_string shut_string)
open Go.Proofs.YthboippafkcoiaaGreatDoor.am
theorem own:ownKnob Tryz.prog.godebug=none:=by kernel_rfl
theorem laidOut:laidOutB Tryz.prog=true:=by kernel_rfl
set_option maxRecDepth 100000 in
theorem contract (H:Type) (enc:TypeId × Value→H) (W:World) (args:Array Value) (ds gs:List (DataW H)) (before:List MemPlace)
  (hval : ∀ (j:Nat) t v,Tryz.f7.params[j]? = some t→args[j]? = some v → ∃ base,Value.okWide Tryz.prog W .any base t v)
  (hW:DataW.Whole enc Tryz.prog Tryz.f7.params.toList Rows.cfgOwnSpec.vars false W args.toList ds gs before)
  (hwt:(DataW.weightsEach Tryz.prog (Tryz.f7.params.toList++(OpenSpec.ofChange Rows.cfgOwnSpec).bare.plain.varTypes Tryz.prog) (ds++gs)).all (· ≤ reachBytes)=true) (hL:laidMetH Tryz.prog Rows.cfgOwnRow.laid W) :
  Calls Tryz.prog 7 args W fun e W' => ∃ v,e = .returned v∧Rows.cfgOwnSpec.post enc Tryz.prog Tryz.f7 false true false false W args v W':=by
 have hW':=hW
 obtain ⟨p,q,hA0,hV,rfl,hfz,hnd⟩:=hW
 have hA:DataW.TrodAll enc Tryz.prog W 0 (fun _=>true) true Tryz.f7.params.toList args.toList ds p:=hA0
 rw [Tryz.params7] at hA hval
 obtain ⟨v0,vs0,d0,ds0,p0,q0,hargs,rfl,rfl,h0,r0⟩:=trodAll_cons hA
 obtain ⟨v1,vs1,d1,ds1,p1,q1,rfl,rfl,rfl,h1,r1⟩:=trodAll_cons r0
 obtain ⟨rfl,rfl,rfl⟩:=trodAll_nil r1
 obtain rfl:args = #[v0,v1]:=by cases args; simp_all
 obtain ⟨rfl,rfl⟩:=trodVars_none hV
 clear hA0 hA
 simp only [List.append_nil] at hW'
 have hlt : ∀ x ∈ (p0++(p1)),x.block<W.heap.size:=fun x hx=>hW'.lt x (by simpa using hx)
 have hwt:(DataW.weightsEach Tryz.prog [25,50] [d0,d1]).all (· ≤ reachBytes)=true:=hwt
 simp only [DataW.weightsEach,List.all_append,List.all_nil,Bool.and_true,Bool.and_eq_true] at hwt
 obtain ⟨cs0,rfl⟩ : ∃ cs,v0 = .agg cs:=by
  obtain ⟨base,hv⟩:=hval 0 25 v0 rfl rfl
  unfold Value.okWide at hv
  rw [Tryz.underlying25] at hv
  obtain ⟨cs,rfl,_⟩:=hv
  exact ⟨cs,rfl⟩
 obtain ⟨x0,hx0⟩:=open_prog h0 hwt.1 (fun x hx=>hlt x (by simp [hx]))
 obtain ⟨cs1,rfl⟩ : ∃ cs,v1 = .agg cs:=by
  obtain ⟨base,hv⟩:=hval 1 50 v1 rfl rfl
  unfold Value.okWide at hv
  rw [Tryz.underlying50] at hv
  obtain ⟨cs,rfl,_⟩:=hv
  exact ⟨cs,rfl⟩
 obtain ⟨x1,hx1⟩:=open_graph h1 hwt.2 (fun x hx=>hlt x (by simp [hx]))
 refine (K.calls (k_cown x0 x1) W (tabs_of hL) #[.agg cs0,.agg cs1] rfl ?_).mono fun e W' he => ?_
 ·intro i v a e1 e2
  have e1:=arr_get e1
  match i,e2 with
  | 0,e2=>cases e2; cases e1; exact hx0
  | 1,e2=>cases e2; cases e1; exact hx1
 obtain ⟨hb,v,rfl,g',hR⟩:=he
 obtain ⟨rfl,_⟩:=val_inv hR
 exact ⟨_,rfl,_,_,_,[],_,[],hW',trodAll_cons_mk (shut_bool Tryz.underlying4 _) trodAll_mk0,(trodAll_cons_mk (Below.trod laidOut (by kernel_rfl) (of_decide_eq_true (by kernel_rfl)) h0 hb (fun x hx=>hlt x (by simp [hx]))) (trodAll_cons_mk (Below.trod laidOut (by kernel_rfl) (of_decide_eq_true (by kernel_rfl)) h1 hb (fun x hx=>hlt x (by simp [hx]))) trodAll_mk0)),rfl,hb.frame _,fun h=>by cases h⟩
theorem reads (os:Os) {H:Type} (enc:TypeId × Value→H) : ∃ places,DataW.whole enc Tryz.prog ((World.laidAll Tryz.prog os Rows.cfgOwnRow.laid).forCall (fun _ _=>0) ⟨#[],#[.agg #[.slice none 0 0,.slice none 0 0,.slice none 0 0],.agg #[.string ⟨#[]⟩,.int .i64 0,.int .i64 0,.slice none 0 0]],[]⟩).memory Tryz.f7.params.toList Rows.cfgOwnSpec.vars false (#[.agg #[.slice none 0 0,.slice none 0 0,.slice none 0 0],.agg #[.string ⟨#[]⟩,.int .i64 0,.int .i64 0,.slice none 0 0]]:Array Value).toList 8=some ([.agg [.nil,.nil,.nil],.agg [.lit (.string []),.lit (.int .i64 0),.lit (.int .i64 0),.nil]],[],places) :=
 ⟨[],by kernel_rfl⟩
set_option maxRecDepth 100000 in
theorem lifted (os:Os) (started:os.Started) (H:Type) (enc:TypeId × Value→H) (F:Stop.Interp) :
  ReturnsInHanded {} Tryz.checked os 7 .any ((OpenSpec.ofChange Rows.cfgOwnSpec).preRow enc Tryz.prog Tryz.f7 Rows.cfgOwnRow.domain false Rows.cfgOwnRow.laid) (((OpenSpec.ofChange Rows.cfgOwnSpec).at F).post enc Tryz.prog Tryz.f7 false true false false):=by
 obtain ⟨places,hx⟩:=reads os enc
 refine returnsInHanded_of_row (C := Tryz.checked) (s:=OpenSpec.ofChange Rows.cfgOwnSpec) own started (by kernel_rfl) Tryz.func7
  (witness_row_at (enc:=enc) (C := Tryz.checked) false (World.laidAll Tryz.prog os Rows.cfgOwnRow.laid) #[.agg #[.slice none 0 0,.slice none 0 0,.slice none 0 0],.agg #[.string ⟨#[]⟩,.int .i64 0,.int .i64 0,.slice none 0 0]] rfl (by kernel_rfl) (by kernel_rfl) (by kernel_rfl)
   (OpenSpec.preRow_of_cond 8 hx (by kernel_rfl) (fun k hk=>by cases hk) (by kernel_rfl) (by rw [MakeChecks.laidMetH_plain _ _ _ (by kernel_rfl)]; exact laidMet_laidAll _ (by kernel_rfl) (by kernel_rfl)))) ?_
 intro W base args ds gs before hval hW _ _ hwt hL _ _
 exact contract H enc W args ds gs before (fun j t v h1 h2=>⟨base,hval j t v h1 h2⟩) hW hwt hL
theorem said:Rows.CfgOwnSaid :=
 OpenClaim.holds_of_cond 7 Tryz.f7 rfl rfl rfl rfl rfl rfl rfl aut rfl rfl rfl rfl rfl (by kernel_rfl) Tryz.func7 (by kernel_rfl)
  (of_decide_eq_true (by kernel_rfl)) (by unfold Func.isWrapper; first | (rw [if_pos (by decide +kernel)]; kernel_rfl) | (rw [if_neg (by decide +kernel)]; exact ⟨rfl,rfl⟩))
  (fun os started H enc _ F=>by rw [OpenClaim.pre_eq_preRow]; exact lifted os started H enc F)
theorem plain (f:FuncId) (fn:Func) (hf : Tryz.pinned.checked.prog.funcNamed Rows.cfgOwnRow.func=some f) (hfn : Tryz.pinned.checked.prog.funcs[f]? = some fn) :
  true = Tryz.pinned.checked.prog.looks [] ∧ ∀ (j:Nat) t,fn.params[j]? = some t → Tryz.pinned.checked.prog.wantsStandIn t=false:=by
 obtain rfl:f = 7 := Option.some.inj ((show Tryz.prog.funcNamed Rows.cfgOwnRow.func=some 7 by kernel_rfl).symm.trans hf) |>.symm
 obtain rfl:fn = Tryz.f7 := (Option.some.inj (Tryz.func7.symm.trans hfn)).symm
 refine ⟨by kernel_rfl,fun j t ht => ?_⟩
 rw [Tryz.params7] at ht
 have hm:=Array.mem_of_getElem? ht
 simp only [List.mem_toArray,List.mem_cons,List.not_mem_nil,or_false] at hm
 rcases hm with rfl | rfl
 ·exact (show Tryz.prog.wantsStandIn 25 = false by kernel_rfl)
 ·exact (show Tryz.prog.wantsStandIn 50 = false by kernel_rfl)
theorem card:Rows.CfgOwnCardSaid :=
 Claim7.holds_tied_plain_at .later [] _ _ _ _ said (fun _ h=>by cases h) (by kernel_rfl) (fun _ h=>by cases h) cfgOwn_row_tie rfl ⟨rfl,rfl⟩ (by kernel_rfl) rfl plain (by kernel_rfl)
end Go.Proofs.YthboippafkcoiaaGreatDoor.rCfgOwn
