/- a node lies in as many loops as there are while statements of whose expression or body it is: for every input the law returns true, and each -/
import Derived.Test.YthboippafkcoiaaDoorRows
import Derived.Test.YthboippafkcoiaaDoorCards
import Derived.Test.YthboippafkcoiaaDoorTie
import Derived.Test.YthboippafkcoiaaDoorT13
import Derived.Test.YthboippafkcoiaaDoorT14
import Derived.Deep.DeepHandedRow
import Derived.ProofKit
import Derived.Lay
import Derived.MakeChecks
set_option linter.all false
namespace Go.Proofs.YthboippafkcoiaaDoor.rCfgLoops
open Go Go.RowKit Go.ChangeShapes Go.WideShapes Go.ChangeAt Go.WideMaps Go.WideElems
open Go.ChangeMaps (open_string shut_string)
open Go.Proofs.YthboippafkcoiaaDoor.am
theorem own:ownKnob Tryd.prog.godebug=none:=by kernel_rfl
theorem laidOut:laidOutB Tryd.prog=true:=by kernel_rfl
set_option maxRecDepth 100000 in
theorem contract (H:Type) (enc:TypeId × Value→H) (W:World) (args:Array Value) (ds gs:List (DataW H)) (before:List MemPlace)
  (hval : ∀ (j:Nat) t v,Tryd.f3.params[j]? = some t→args[j]? = some v → ∃ base,Value.okWide Tryd.prog W .any base t v)
  (hW:DataW.Whole enc Tryd.prog Tryd.f3.params.toList Rows.cfgLoopsSpec.vars false W args.toList ds gs before)
  (hwt:(DataW.weightsEach Tryd.prog (Tryd.f3.params.toList++(OpenSpec.ofChange Rows.cfgLoopsSpec).bare.plain.varTypes Tryd.prog) (ds++gs)).all (· ≤ reachBytes)=true) (hL:laidMetH Tryd.prog Rows.cfgLoopsRow.laid W) :
  Calls Tryd.prog 3 args W fun e W' => ∃ v,e = .returned v∧Rows.cfgLoopsSpec.post enc Tryd.prog Tryd.f3 false true false false W args v W':=by
 have hW':=hW
 obtain ⟨p,q,hA0,hV,rfl,hfz,hnd⟩:=hW
 have hA:DataW.TrodAll enc Tryd.prog W 0 (fun _=>true) true Tryd.f3.params.toList args.toList ds p:=hA0
 rw [Tryd.params3] at hA hval
 obtain ⟨v0,vs0,d0,ds0,p0,q0,hargs,rfl,rfl,h0,r0⟩:=trodAll_cons hA
 obtain ⟨rfl,rfl,rfl⟩:=trodAll_nil r0
 obtain rfl:args = #[v0]:=by cases args; simp_all
 obtain ⟨rfl,rfl⟩:=trodVars_none hV
 clear hA0 hA
 simp only [List.append_nil] at hW'
 have hlt : ∀ x ∈ p0,x.block<W.heap.size:=fun x hx=>hW'.lt x (by simpa using hx)
 have hwt:(DataW.weightsEach Tryd.prog [25] [d0]).all (· ≤ reachBytes)=true:=hwt
 simp only [DataW.weightsEach,List.all_append,List.all_nil,Bool.and_true,Bool.and_eq_true] at hwt
 obtain ⟨cs0,rfl⟩ : ∃ cs,v0 = .agg cs:=by
  obtain ⟨base,hv⟩:=hval 0 25 v0 rfl rfl
  unfold Value.okWide at hv
  rw [Tryd.underlying25] at hv
  obtain ⟨cs,rfl,_⟩:=hv
  exact ⟨cs,rfl⟩
 obtain ⟨x0,hx0⟩:=open_prog h0 hwt (fun x hx=>hlt x (by simp [hx]))
 refine (K.calls (k_cloops x0) W (tabs_of hL) #[.agg cs0] rfl ?_).mono fun e W' he => ?_
 ·intro i v a e1 e2
  have e1:=arr_get e1
  match i,e2 with
  | 0,e2=>cases e2; cases e1; exact hx0
 obtain ⟨hb,v,rfl,g',hR⟩:=he
 obtain ⟨rfl,_⟩:=val_inv hR
 exact ⟨_,rfl,_,_,_,[],_,[],hW',trodAll_cons_mk (shut_bool Tryd.underlying4 _) trodAll_mk0,(trodAll_cons_mk (Below.trod laidOut (by kernel_rfl) (of_decide_eq_true (by kernel_rfl)) h0 hb (fun x hx=>hlt x (by simp [hx]))) trodAll_mk0),rfl,hb.frame _,fun h=>by cases h⟩
theorem reads (os:Os) {H:Type} (enc:TypeId × Value→H) : ∃ places,DataW.whole enc Tryd.prog ((World.laidAll Tryd.prog os Rows.cfgLoopsRow.laid).forCall (fun _ _=>0) ⟨#[],#[.agg #[.slice none 0 0,.slice none 0 0,.slice none 0 0]],[]⟩).memory Tryd.f3.params.toList Rows.cfgLoopsSpec.vars false (#[.agg #[.slice none 0 0,.slice none 0 0,.slice none 0 0]]:Array Value).toList 8=some ([.agg [.nil,.nil,.nil]],[],places) :=
 ⟨[],by kernel_rfl⟩
set_option maxRecDepth 100000 in
theorem lifted (os:Os) (started:os.Started) (H:Type) (enc:TypeId × Value→H) (F:Stop.Interp) :
  ReturnsInHanded {} Tryd.checked os 3 .any ((OpenSpec.ofChange Rows.cfgLoopsSpec).preRow enc Tryd.prog Tryd.f3 Rows.cfgLoopsRow.domain false Rows.cfgLoopsRow.laid) (((OpenSpec.ofChange Rows.cfgLoopsSpec).at F).post enc Tryd.prog Tryd.f3 false true false false):=by
 obtain ⟨places,hx⟩:=reads os enc
 refine returnsInHanded_of_row (C := Tryd.checked) (s:=OpenSpec.ofChange Rows.cfgLoopsSpec) own started (by kernel_rfl) Tryd.func3
  (witness_row_at (enc:=enc) (C := Tryd.checked) false (World.laidAll Tryd.prog os Rows.cfgLoopsRow.laid) #[.agg #[.slice none 0 0,.slice none 0 0,.slice none 0 0]] rfl (by kernel_rfl) (by kernel_rfl) (by kernel_rfl)
   (OpenSpec.preRow_of_cond 8 hx (by kernel_rfl) (fun k hk=>by cases hk) (by kernel_rfl) (by rw [MakeChecks.laidMetH_plain _ _ _ (by kernel_rfl)]; exact laidMet_laidAll _ (by kernel_rfl) (by kernel_rfl)))) ?_
 intro W base args ds gs before hval hW _ _ hwt hL _ _
 exact contract H enc W args ds gs before (fun j t v h1 h2=>⟨base,hval j t v h1 h2⟩) hW hwt hL
theorem said:Rows.CfgLoopsSaid :=
 OpenClaim.holds_of_cond 3 Tryd.f3 rfl rfl rfl rfl rfl rfl rfl ⟨rfl,rfl,rfl,rfl,rfl⟩ rfl rfl rfl rfl rfl (by kernel_rfl) Tryd.func3 (by kernel_rfl)
  (of_decide_eq_true (by kernel_rfl)) (by unfold Func.isWrapper; first | (rw [if_pos (by decide +kernel)]; kernel_rfl) | (rw [if_neg (by decide +kernel)]; exact ⟨rfl,rfl⟩))
  (fun os started H enc _ F=>by rw [OpenClaim.pre_eq_preRow]; exact lifted os started H enc F)
theorem plain (f:FuncId) (fn:Func) (hf : Tryd.pinned.checked.prog.funcNamed Rows.cfgLoopsRow.func=some f) (hfn : Tryd.pinned.checked.prog.funcs[f]? = some fn) :
  true = Tryd.pinned.checked.prog.looks [] ∧ ∀ (j:Nat) t,fn.params[j]? = some t → Tryd.pinned.checked.prog.wantsStandIn t=false:=by
 obtain rfl:f = 3 := Option.some.inj ((show Tryd.prog.funcNamed Rows.cfgLoopsRow.func=some 3 by kernel_rfl).symm.trans hf) |>.symm
 obtain rfl:fn = Tryd.f3 := (Option.some.inj (Tryd.func3.symm.trans hfn)).symm
 refine ⟨by kernel_rfl,fun j t ht => ?_⟩
 rw [Tryd.params3] at ht
 have hm:=Array.mem_of_getElem? ht
 simp only [List.mem_toArray,List.mem_cons,List.not_mem_nil,or_false] at hm
 rcases hm with rfl
 ·exact (show Tryd.prog.wantsStandIn 25 = false by kernel_rfl)
theorem card:Rows.CfgLoopsCardSaid :=
 Claim7.holds_tied_plain_at .later [] _ _ _ _ said (fun _ h=>by cases h) (by kernel_rfl) (fun _ h=>by cases h) cfgLoops_row_tie rfl ⟨rfl,rfl⟩ (by kernel_rfl) rfl plain (by kernel_rfl)
end Go.Proofs.YthboippafkcoiaaDoor.rCfgLoops
