/- each fence that is placed stands alone on a way from an open store to a racy load; without such a way there is none; with all of them no racy load -/
import Derived.Test.YtapmdfcmpglieaaGreatDoorRows
import Derived.Test.YtapmdfcmpglieaaGreatDoorCards
import Derived.Test.YtapmdfcmpglieaaGreatDoorTie
import Derived.Test.YtapmdfcmpglieaaGreatDoorV10
import Derived.Test.YtapmdfcmpglieaaGreatDoorV13
import Derived.Deep.DeepHandedRow
import Derived.ProofKit
import Derived.Lay
import Derived.MakeChecks
set_option maxRecDepth 100000
set_option maxHeartbeats 4000000
set_option linter.all false
namespace Go.Proofs.YtapmdfcmpglieaaGreatDoor.rTopFences
open Go Go.RowKit Go.ChangeShapes Go.WideShapes Go.ChangeAt Go.WideMaps Go.WideElems
open Go.ChangeMaps (open_string shut_string)
open Go.Proofs.YtapmdfcmpglieaaGreatDoor.am
theorem own:ownKnob Tryz.prog.godebug=none:=JR
theorem laidOut:laidOutB Tryz.prog=true:=JR
theorem contract(H:Type)(enc:TypeId×Value->H)(W:World)(args:Array Value)(ds gs:List (DataW H))(before:List MemPlace)
  (hval:∀(j:Nat) t v,Tryz.f3.params[j]?=some t->args[j]?=some v->∃base,Value.okWide Tryz.prog W .any base t v)
  (hW:DataW.Whole enc Tryz.prog Tryz.f3.params.toList Rows.topFencesSpec.vars false W args.toList ds gs before)
  (hwt:(DataW.weightsEach Tryz.prog (Tryz.f3.params.toList++(OpenSpec.ofChange Rows.topFencesSpec).bare.plain.varTypes Tryz.prog) (ds++gs)).all (· <= reachBytes)=true) (hL:laidMetH Tryz.prog Rows.topFencesRow.laid W) :
  Calls Tryz.prog 3 args W fun e W'=>∃v,e=.returned v/\Rows.topFencesSpec.post enc Tryz.prog Tryz.f3 false true false false W args v W':=by
 have hW':=hW;obtain⟨p,q,hA0,hV,rfl,hfz,hnd⟩:=hW;have hA:DataW.TrodAll enc Tryz.prog W 0 (fun _=>true) true Tryz.f3.params.toList args.toList ds p:=hA0;rw[Tryz.params3] at hA hval;obtain⟨v0,vs0,d0,ds0,p0,q0,hargs,rfl,rfl,h0,r0⟩:=trodAll_cons hA;obtain⟨rfl,rfl,rfl⟩:=trodAll_nil r0;obtain rfl:args = #[v0]:=by cases args;simp_all
 obtain⟨rfl,rfl⟩:=trodVars_none hV;clear hA0 hA;simp only[List.append_nil] at hW';have hlt:∀x∈p0,x.block<W.heap.size:=fun x hx=>hW'.lt x (by simpa using hx);have hwt:(DataW.weightsEach Tryz.prog [9] [d0]).all (· <= reachBytes)=true:=hwt;simp only[DataW.weightsEach,List.all_append,List.all_nil,Bool.and_true,Bool.and_eq_true] at hwt;obtain⟨x0,rfl,rfl,rfl,wx0⟩:=open_string Tryz.underlying9 ((hval 0 9 v0 rfl rfl).choose_spec) h0;refine(K.calls (cp.one (pK x0)) W (Cj hL) #[.string x0] rfl ?_).mono fun e W' he=>?_
 ·intro i v a e1 e2;have e1:=Cw e1
  match i,e2 with
  |0,e2=>cases e2;cases e1;exact .tr (.v (by unfold maxLen at wx0;exact wx0))
 obtain⟨hb,v,rfl,g',hR⟩:=he;obtain⟨rfl,_⟩:=al hR;exact⟨_,rfl,_,_,_,[],_,[],hW',trodAll_cons_mk (shut_bool Tryz.underlying4 _) trodAll_mk0,(trodAll_cons_mk (shut_string Tryz.underlying9 wx0) trodAll_mk0),rfl,hb.frame _,fun h=>by cases h⟩
theorem reads(os:Os){H:Type}(enc:TypeId×Value->H):∃places,DataW.whole enc Tryz.prog ((World.laidAll Tryz.prog os Rows.topFencesRow.laid).forCall (fun _ _=>0) ⟨#[],#[.string ⟨#[]⟩],[]⟩).memory Tryz.f3.params.toList Rows.topFencesSpec.vars false (#[.string ⟨#[]⟩]:Array Value).toList 8=some ([.lit (.string [])],[],places):=
 ⟨[],JR⟩
theorem lifted(os:Os)(started:os.Started)(H:Type)(enc:TypeId×Value->H)(F:Stop.Interp):
  ReturnsInHanded {} Tryz.checked os 3 .any ((OpenSpec.ofChange Rows.topFencesSpec).preRow enc Tryz.prog Tryz.f3 Rows.topFencesRow.domain false Rows.topFencesRow.laid) (((OpenSpec.ofChange Rows.topFencesSpec).at F).post enc Tryz.prog Tryz.f3 false true false false):=by
 obtain⟨places,hx⟩:=reads os enc;refine returnsInHanded_of_row (C:=Tryz.checked) (s:=OpenSpec.ofChange Rows.topFencesSpec) own started JR Tryz.func3
  (witness_row_at (enc:=enc) (C:=Tryz.checked) false (World.laidAll Tryz.prog os Rows.topFencesRow.laid) #[.string ⟨#[]⟩] rfl JR JR JR
   (OpenSpec.preRow_of_cond 8 hx JR (fun k hk=>by cases hk) JR (by rw[MakeChecks.laidMetH_plain _ _ _ JR];exact laidMet_laidAll _ JR JR))) ?_
 intro W base args ds gs before hval hW _ _ hwt hL _ _;exact contract H enc W args ds gs before (fun j t v h1 h2=>⟨base,hval j t v h1 h2⟩) hW hwt hL
theorem said:Rows.TopFencesSaid:=
 OpenClaim.holds_of_cond 3 Tryz.f3 rfl rfl rfl rfl rfl rfl rfl ⟨rfl,rfl,rfl,rfl,rfl⟩ rfl rfl rfl rfl rfl JR Tryz.func3 JR
  (of_decide_eq_true JR) (by unfold Func.isWrapper;first|(rw[if_pos (by decide +kernel)];kernel_rfl)|(rw[if_neg (by decide +kernel)];exact⟨rfl,rfl⟩))
  (fun os started H enc _ F=>by rw[OpenClaim.pre_eq_preRow];exact lifted os started H enc F)
theorem plain(f:FuncId)(fn:Func)(hf:Tryz.pinned.checked.prog.funcNamed Rows.topFencesRow.func=some f)(hfn:Tryz.pinned.checked.prog.funcs[f]?=some fn):
  true=Tryz.pinned.checked.prog.looks []/\∀(j:Nat) t,fn.params[j]?=some t->Tryz.pinned.checked.prog.wantsStandIn t=false:=by
 obtain rfl:f=3:=Option.some.inj ((JR:Tryz.prog.funcNamed Rows.topFencesRow.func=some 3).symm.trans hf) |>.symm
 obtain rfl:fn=Tryz.f3:=(Option.some.inj (Tryz.func3.symm.trans hfn)).symm;refine⟨JR,fun j t ht=>?_⟩;rw[Tryz.params3] at ht;have hm:=Array.mem_of_getElem? ht;simp only[List.mem_toArray,List.mem_cons,List.not_mem_nil,or_false] at hm;rcases hm with rfl
 ·exact(JR:Tryz.prog.wantsStandIn 9=false)
theorem card:Rows.TopFencesCardSaid:=
 Claim7.holds_tied_plain_at .later [] _ _ _ _ said (fun _ h=>by cases h) JR (fun _ h=>by cases h) topFences_row_tie rfl ⟨rfl,rfl⟩ JR rfl plain JR
end Go.Proofs.YtapmdfcmpglieaaGreatDoor.rTopFences
