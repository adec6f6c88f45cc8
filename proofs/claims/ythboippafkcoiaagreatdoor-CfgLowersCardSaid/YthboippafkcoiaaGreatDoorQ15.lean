/- Contracts of the reference: number, value, uses, node. Contract of the reference: named; it says what the program's says. Contracts: the -/
import Derived.Test.YthboippafkcoiaaGreatDoorQ14
import Derived.Test.YthboippafkcoiaaGreatDoorQ11
import Derived.Test.YthboippafkcoiaaGreatDoorQ12
import Derived.Test.YthboippafkcoiaaGreatDoorQ8
set_option linter.all false
namespace Go.Proofs.YthboippafkcoiaaGreatDoor.am
open Go Go.Proofs
set_option linter.all false
end Go.Proofs.YthboippafkcoiaaGreatDoor.am
namespace Go.Proofs.YthboippafkcoiaaGreatDoor.am
open Go Go.Proofs
set_option linter.all false
end Go.Proofs.YthboippafkcoiaaGreatDoor.am
namespace Go.Proofs.YthboippafkcoiaaGreatDoor.am
open Go Go.Proofs
set_option linter.all false
def dcEq (a b:Decl):Bool:=(a.name.toList == b.name.toList) && ((a.word == b.word) && ((a.at_ == b.at_) && true))
def vlEq (a b:Val):Bool:=(a.s == b.s) && ((a.k == b.k) && ((a.w == b.w) && true))
def ndEq (a b:Nd):Bool:=(a.kind == b.kind) && ((a.op == b.op) && ((a.slot == b.slot) && ((a.thing == b.thing) && (vlEq a.a b.a && (vlEq a.b b.b && ((a.next == b.next) && ((a.els == b.els) && ((a.origin == b.origin) && true))))))))
def eqL {α:Type} (p:α→α→Bool):List α→List α→Bool
 | [],[]=>true
 | a::l,b::l'=>bif !(p a b) then false else eqL p l l'
 | _,_=>false
def eqLL {α:Type} (p:α→α→Bool) (l l':List α):Bool:=bif (l.length:Int) != (l'.length:Int) then false else eqL p l l'
def grEq (a b:Gr):Bool:=bif (!(a.name.toList == b.name.toList) || (a.locals != b.locals) || (a.slots != b.slots) || ((a.nodes.length:Int) != (b.nodes.length:Int))) then false else eqL ndEq a.nodes b.nodes
def unEq (a b:Un):Bool:=bif ((a.graphs.length:Int) != (b.graphs.length:Int)) || !(eqLL dcEq a.shared b.shared) || !(eqLL dcEq a.locks b.locks) then false else eqL grEq a.graphs b.graphs
theorem eqL_refl {α:Type} {p:α→α→Bool} (h : ∀ a,p a a=true) : ∀ l:List α,eqL p l l=true
 | []=>rfl
 | a::l=>by show (bif !(p a a) then false else eqL p l l)=true; rw [h,eqL_refl h l]; rfl
theorem eqLL_refl {α:Type} {p:α→α→Bool} (h : ∀ a,p a a=true) (l:List α):eqLL p l l=true:=by
 unfold eqLL
 rw [eqL_refl h]; simp
theorem dcEq_refl (a:Decl):dcEq a a=true:=by simp [dcEq]
theorem ndEq_refl (a:Nd):ndEq a a=true:=by simp [ndEq,vlEq]
theorem grEq_refl (a:Gr):grEq a a=true:=by
 unfold grEq
 rw [eqL_refl ndEq_refl]; simp
theorem unEq_refl (a:Un):unEq a a=true:=by
 unfold unEq
 rw [eqL_refl grEq_refl,eqLL_refl dcEq_refl,eqLL_refl dcEq_refl]; simp
set_option maxRecDepth 100000 in
theorem k_rdecls (l l':List Decl):K 46 [.tr (declsT l),.tr (declsT l')] [] (.ret (.tr (tb (eqLL dcEq l l')))) []:=by
 have h1:(l.map Decl.cells).length=l.length:=List.length_map ..
 have h2:(l'.map Decl.cells).length=l'.length:=List.length_map ..
 refine Ctr.of hT hmix Tryz.func46 rfl (fun _ _=>by kernel_rfl) rfl fun hok => ?_
 obtain ⟨_,hl1,_⟩:=(hok.slot 0 rfl).tr.lst
 rw [List.length_map] at hl1
 clear hok
 conv=>whnf
 cases hc:(((l.map Decl.cells).length:Int) != ((l'.map Decl.cells).length:Int)) with
 | true =>
  conv=>whnf
  exact ⟨.inl (congrArg tb (by rw [h1,h2] at hc; unfold eqLL; rw [hc]; rfl)),trivial⟩
 | false =>
 have hE:eqLL dcEq l l'=eqL dcEq l l':=by rw [h1,h2] at hc; unfold eqLL; rw [hc]; rfl
 have hll:l.length=l'.length:=by
  rw [h1,h2] at hc
  refine Classical.byContradiction fun w => ?_
  rw [bne_iff_ne.2 (fun e=>w (by omega))] at hc
  cases hc
 rw [hE]
 generalize hR:eqL dcEq l l'=R
 clear hE hc
 conv=>whnf
 refine LoopL.by (fun i:Nat=>⟨[(0,.tr (declsT l)),(1,.tr (declsT l')),(5,.tr (ti (i:Nat)))],[],10⟩) (fun i=>i≤l.length∧R=eqL dcEq (l.drop i) (l'.drop i)) (fun i=>l.length - i) 0 [] []
  (Sub.mk' rfl ⟨.inl rfl,.inl rfl,.inl rfl,trivial⟩ trivial rfl rfl) ⟨Nat.zero_le _,hR.symm⟩ ?_
 clear hR
 rintro i ⟨hi,hR⟩ -
 conv=>whnf
 refine csplit (fun hit => ?_) (fun hit => ?_)
 ·replace hit:i<l.length:=by have:decide ((i:Int)<((l.map Decl.cells).length:Int))=true:=hit; have:=of_decide_eq_true this; omega
  obtain ⟨a,ha⟩ : ∃ a,l[i]? = some a:=⟨_,List.getElem?_eq_getElem hit⟩
  obtain ⟨b,hb⟩ : ∃ b,l'[i]? = some b:=⟨_,List.getElem?_eq_getElem (by omega)⟩
  rw [drop_cons ha,drop_cons hb] at hR
  obtain ⟨q,hq⟩ : ∃ q,dcEq a b=q:=⟨_,rfl⟩
  have hR2:R=bif !q then false else eqL dcEq (l.drop (i+1)) (l'.drop (i+1)):=by rw [hR]; show (bif !(dcEq a b) then false else _)=_; rw [hq]
  clear hR
  conv=>whnf
  refine ⟨rfl,(show (0:Int)≤i by omega),(show (i:Int)<((l.map Decl.cells).length:Int) by omega),fun row hrow => ?_⟩
  obtain ⟨d,hd,rfl⟩:=decl_get hrow
  obtain rfl:=Option.some.inj (ha.symm.trans hd)
  clear hrow hd
  conv=>whnf
  refine ⟨rfl,(show (0:Int)≤i by omega),(show (i:Int)<((l'.map Decl.cells).length:Int) by omega),fun row hrow => ?_⟩
  obtain ⟨d,hd,rfl⟩:=decl_get hrow
  obtain rfl:=Option.some.inj (hb.symm.trans hd)
  clear hrow hd
  unfold dcEq at hq
  conv=>whnf
  rw [hq]
  refine ⟨by kernel_rfl,fun _ => ?_⟩
  conv=>whnf
  cases q with
  | false =>
   conv=>whnf
   exact ⟨.inl (congrArg tb hR2.symm),trivial⟩
  | true =>
   conv=>whnf
   exact ⟨i+1,[],[],Sub.mk' rfl ⟨.inl rfl,.inl rfl,.inl (ti_succ hit (by omega)),trivial⟩ trivial rfl rfl,⟨hit,hR2⟩,by show l.length - (i+1)<l.length - i; omega⟩
 replace hit:l.length≤i:=by have:decide ((i:Int)<((l.map Decl.cells).length:Int))=false:=hit; have:=of_decide_eq_false this; omega
 rw [List.drop_of_length_le hit,List.drop_of_length_le (by omega)] at hR
 conv=>whnf
 refine ⟨fun _ => ?_,fun h=>absurd rfl h⟩
 conv=>whnf
 exact ⟨.inl (by rw [hR]; rfl),trivial⟩
set_option maxRecDepth 100000 in
theorem k_rsameG (a b:Gr):K 47 [a.av,b.av] [] (.ret (.tr (tb (grEq a b)))) []:=by
 have hR:grEq a b=bif (!(a.name.toList == b.name.toList) || (a.locals != b.locals) || (a.slots != b.slots) || ((a.nodes.length:Int) != (b.nodes.length:Int))) then false else eqL ndEq a.nodes b.nodes:=rfl
 generalize grEq a b=R at hR ⊢
 have h1:(a.nodes.map Nd.cells).length=a.nodes.length:=List.length_map ..
 have h2:(b.nodes.map Nd.cells).length=b.nodes.length:=List.length_map ..
 obtain ⟨na,la,sa,l⟩:=a
 obtain ⟨nb,lb,sb,l'⟩:=b
 simp only at hR h1 h2
 refine Ctr.of hT hmix Tryz.func47 rfl (fun _ _=>by kernel_rfl) rfl fun hok => ?_
 obtain ⟨_,hl1,_⟩:=((hok.slot 0 rfl).agg _ (.tail _ (.tail _ (.tail _ (.head _))))).tr.lst
 rw [List.length_map] at hl1
 clear hok
 conv=>whnf
 cases c1:(!(na.toList == nb.toList)) with
 | true =>
  conv=>whnf
  exact ⟨.inl (congrArg tb (by rw [hR,c1]; rfl)),trivial⟩
 | false =>
 rw [c1] at hR
 conv=>whnf
 cases c2:(la != lb) with
 | true =>
  conv=>whnf
  exact ⟨.inl (congrArg tb (by rw [hR,c2]; rfl)),trivial⟩
 | false =>
 rw [c2] at hR
 conv=>whnf
 cases c3:(sa != sb) with
 | true =>
  conv=>whnf
  exact ⟨.inl (congrArg tb (by rw [hR,c3]; rfl)),trivial⟩
 | false =>
 rw [c3] at hR
 conv=>whnf
 cases c4:(((l.map Nd.cells).length:Int) != ((l'.map Nd.cells).length:Int)) with
 | true =>
  rw [h1,h2] at c4
  conv=>whnf
  exact ⟨.inl (congrArg tb (by rw [hR,c4]; rfl)),trivial⟩
 | false =>
 have hll:l.length=l'.length:=by
  rw [h1,h2] at c4
  refine Classical.byContradiction fun w => ?_
  rw [bne_iff_ne.2 (fun e=>w (by omega))] at c4
  cases c4
 replace hR:R=eqL ndEq l l':=by rw [h1,h2] at c4; rw [hR,c4]; rfl
 clear c1 c2 c3 c4
 conv=>whnf
 refine LoopL.by (fun i:Nat=>⟨[(2,.ptr 0 0),(3,.ptr 1 0),(5,.tr (ti (i:Nat)))],[(0,grBl ⟨na,la,sa,l⟩),(1,grBl ⟨nb,lb,sb,l'⟩)],10⟩) (fun i=>i≤l.length∧R=eqL ndEq (l.drop i) (l'.drop i)) (fun i=>l.length - i) 0 [_,_] []
  (Sub.mk' rfl ⟨⟨rfl,rfl⟩,⟨rfl,rfl⟩,.inl rfl,trivial⟩ ⟨⟨rfl,.inl rfl,.inl rfl,.inl rfl,.inl rfl,trivial⟩,⟨rfl,.inl rfl,.inl rfl,.inl rfl,.inl rfl,trivial⟩,trivial⟩ rfl rfl) ⟨Nat.zero_le _,hR⟩ ?_
 clear hR
 rintro i ⟨hi,hR⟩ -
 conv=>whnf
 refine csplit (fun hit => ?_) (fun hit => ?_)
 ·replace hit:i<l.length:=by have:decide ((i:Int)<((l.map Nd.cells).length:Int))=true:=hit; have:=of_decide_eq_true this; omega
  obtain ⟨a,ha⟩ : ∃ a,l[i]? = some a:=⟨_,List.getElem?_eq_getElem hit⟩
  obtain ⟨b,hb⟩ : ∃ b,l'[i]? = some b:=⟨_,List.getElem?_eq_getElem (by omega)⟩
  rw [drop_cons ha,drop_cons hb] at hR
  obtain ⟨q,hq⟩ : ∃ q,ndEq a b=q:=⟨_,rfl⟩
  have hR2:R=bif !q then false else eqL ndEq (l.drop (i+1)) (l'.drop (i+1)):=by rw [hR]; show (bif !(ndEq a b) then false else _)=_; rw [hq]
  clear hR
  conv=>whnf
  refine ⟨rfl,(show (0:Int)≤i by omega),(show (i:Int)<((l.map Nd.cells).length:Int) by omega),fun row hrow => ?_⟩
  obtain ⟨d,hd,rfl⟩:=nd_get hrow
  obtain rfl:=Option.some.inj (ha.symm.trans hd)
  clear hrow hd
  conv=>whnf
  refine ⟨rfl,(show (0:Int)≤i by omega),(show (i:Int)<((l'.map Nd.cells).length:Int) by omega),fun row hrow => ?_⟩
  obtain ⟨d,hd,rfl⟩:=nd_get hrow
  obtain rfl:=Option.some.inj (hb.symm.trans hd)
  clear hrow hd
  unfold ndEq vlEq at hq
  conv=>whnf
  rw [hq]
  refine ⟨by kernel_rfl,fun _ => ?_⟩
  conv=>whnf
  cases q with
  | false =>
   conv=>whnf
   exact ⟨.inl (congrArg tb hR2.symm),trivial⟩
  | true =>
   conv=>whnf
   exact ⟨i+1,[0,1],[],Sub.mk' rfl ⟨⟨rfl,rfl⟩,⟨rfl,rfl⟩,.inl (ti_succ hit (by omega)),trivial⟩ ⟨⟨rfl,.inl rfl,.inl rfl,.inl rfl,.inl rfl,trivial⟩,⟨rfl,.inl rfl,.inl rfl,.inl rfl,.inl rfl,trivial⟩,trivial⟩ rfl rfl,⟨hit,hR2⟩,by show l.length - (i+1)<l.length - i; omega⟩
 replace hit:l.length≤i:=by have:decide ((i:Int)<((l.map Nd.cells).length:Int))=false:=hit; have:=of_decide_eq_false this; omega
 rw [List.drop_of_length_le hit,List.drop_of_length_le (by omega)] at hR
 conv=>whnf
 refine ⟨fun _ => ?_,fun h=>absurd rfl h⟩
 conv=>whnf
 exact ⟨.inl (by rw [hR]; rfl),trivial⟩
set_option maxRecDepth 100000 in
theorem k_rsameU (a b:Un):K 12 [a.av,b.av] [] (.ret (.tr (tb (unEq a b)))) []:=by
 have hR:unEq a b=bif ((a.graphs.length:Int) != (b.graphs.length:Int)) || !(eqLL dcEq a.shared b.shared) || !(eqLL dcEq a.locks b.locks) then false else eqL grEq a.graphs b.graphs:=rfl
 generalize unEq a b=R at hR ⊢
 have h1:(a.graphs.map Gr.cells).length=a.graphs.length:=List.length_map ..
 have h2:(b.graphs.map Gr.cells).length=b.graphs.length:=List.length_map ..
 obtain ⟨s1,k1,l⟩:=a
 obtain ⟨s2,k2,l'⟩:=b
 simp only at hR h1 h2
 have d1:=k_rdecls s1 s2
 have d2:=k_rdecls k1 k2
 generalize eqLL dcEq s1 s2=e1 at d1 hR
 generalize eqLL dcEq k1 k2=e2 at d2 hR
 refine Ctr.of hT hmix Tryz.func12 rfl (fun _ _=>by kernel_rfl) rfl fun hok => ?_
 obtain ⟨_,hl1,_⟩:=((hok.slot 0 rfl).agg _ (.tail _ (.tail _ (.head _)))).tr.lst
 rw [List.length_map] at hl1
 clear hok
 conv=>whnf
 cases c4:(((l.map Gr.cells).length:Int) != ((l'.map Gr.cells).length:Int)) with
 | true =>
  rw [h1,h2] at c4
  conv=>whnf
  exact ⟨.inl (congrArg tb (by rw [hR,c4]; rfl)),trivial⟩
 | false =>
 have hll:l.length=l'.length:=by
  rw [h1,h2] at c4
  refine Classical.byContradiction fun w => ?_
  rw [bne_iff_ne.2 (fun e=>w (by omega))] at c4
  cases c4
 rw [h1,h2] at c4
 rw [c4] at hR
 clear c4
 conv=>whnf
 refine acall.pure _ (d1) rfl rfl fun _ => ?_
 conv=>whnf
 cases e1 with
 | false =>
  conv=>whnf
  exact ⟨.inl (congrArg tb (by rw [hR]; rfl)),trivial⟩
 | true =>
 conv=>whnf
 refine acall.pure _ (d2) rfl rfl fun _ => ?_
 conv=>whnf
 cases e2 with
 | false =>
  conv=>whnf
  exact ⟨.inl (congrArg tb (by rw [hR]; rfl)),trivial⟩
 | true =>
 replace hR:R=eqL grEq l l':=hR
 conv=>whnf
 refine LoopL.by (fun i:Nat=>⟨[(2,.ptr 0 0),(3,.ptr 1 0),(5,.tr (ti (i:Nat)))],[(0,.cells 29 [.tr (declsT s1),.tr (declsT k1),.tr (graphsT l)]),(1,.cells 29 [.tr (declsT s2),.tr (declsT k2),.tr (graphsT l')])],10⟩) (fun i=>i≤l.length∧R=eqL grEq (l.drop i) (l'.drop i)) (fun i=>l.length - i) 0 [_,_] []
  (Sub.mk' rfl ⟨⟨rfl,rfl⟩,⟨rfl,rfl⟩,.inl rfl,trivial⟩ ⟨⟨rfl,.inl rfl,.inl rfl,.inl rfl,trivial⟩,⟨rfl,.inl rfl,.inl rfl,.inl rfl,trivial⟩,trivial⟩ rfl rfl) ⟨Nat.zero_le _,hR⟩ ?_
 clear hR d1 d2
 rintro i ⟨hi,hR⟩ -
 conv=>whnf
 refine csplit (fun hit => ?_) (fun hit => ?_)
 ·replace hit:i<l.length:=by have:decide ((i:Int)<((l.map Gr.cells).length:Int))=true:=hit; have:=of_decide_eq_true this; omega
  obtain ⟨a,ha⟩ : ∃ a,l[i]? = some a:=⟨_,List.getElem?_eq_getElem hit⟩
  obtain ⟨b,hb⟩ : ∃ b,l'[i]? = some b:=⟨_,List.getElem?_eq_getElem (by omega)⟩
  rw [drop_cons ha,drop_cons hb] at hR
  have hs:=k_rsameG a b
  have hR2:R=bif !(grEq a b) then false else eqL grEq (l.drop (i+1)) (l'.drop (i+1)):=hR
  generalize grEq a b=q at hs hR2
  clear hR
  conv=>whnf
  refine ⟨rfl,(show (0:Int)≤i by omega),(show (i:Int)<((l.map Gr.cells).length:Int) by omega),fun row hrow => ?_⟩
  obtain ⟨d,hd,rfl⟩:=gr_get hrow
  obtain rfl:=Option.some.inj (ha.symm.trans hd)
  clear hrow hd
  conv=>whnf
  refine ⟨rfl,(show (0:Int)≤i by omega),(show (i:Int)<((l'.map Gr.cells).length:Int) by omega),fun row hrow => ?_⟩
  obtain ⟨d,hd,rfl⟩:=gr_get hrow
  obtain rfl:=Option.some.inj (hb.symm.trans hd)
  clear hrow hd
  conv=>whnf
  refine acall.pure _ (hs) rfl rfl ?_
  conv=>whnf
  refine ⟨by kernel_rfl,fun _ => ?_⟩
  conv=>whnf
  cases q with
  | false =>
   conv=>whnf
   exact ⟨.inl (congrArg tb hR2.symm),trivial⟩
  | true =>
   conv=>whnf
   exact ⟨i+1,[0,1],[],Sub.mk' rfl ⟨⟨rfl,rfl⟩,⟨rfl,rfl⟩,.inl (ti_succ hit (by omega)),trivial⟩ ⟨⟨rfl,.inl rfl,.inl rfl,.inl rfl,trivial⟩,⟨rfl,.inl rfl,.inl rfl,.inl rfl,trivial⟩,trivial⟩ rfl rfl,⟨hit,hR2⟩,by show l.length - (i+1)<l.length - i; omega⟩
 replace hit:l.length≤i:=by have:decide ((i:Int)<((l.map Gr.cells).length:Int))=false:=hit; have:=of_decide_eq_false this; omega
 rw [List.drop_of_length_le hit,List.drop_of_length_le (by omega)] at hR
 conv=>whnf
 refine ⟨fun _ => ?_,fun h=>absurd rfl h⟩
 conv=>whnf
 exact ⟨.inl (by rw [hR]; rfl),trivial⟩
end Go.Proofs.YthboippafkcoiaaGreatDoor.am
namespace Go.Proofs.YthboippafkcoiaaGreatDoor.am
open Go Go.Proofs
set_option linter.all false
end Go.Proofs.YthboippafkcoiaaGreatDoor.am
namespace Go.Proofs.YthboippafkcoiaaGreatDoor.am
open Go Go.Proofs
set_option linter.all false
end Go.Proofs.YthboippafkcoiaaGreatDoor.am
namespace Go.Proofs.YthboippafkcoiaaGreatDoor.am
open Go Go.Proofs
set_option linter.all false
set_option maxRecDepth 100000 in
theorem k_lowers (p:Prg):K 3 [p.av] [] (.ret (.tr (tb true))) []:=by
 have h1:=k9 p
 have h2:=k_lowerG p fun h th hth=>(check_wf h th hth).1
 have hck:=k11 p
 rw [← check_eq] at hck
 have h3:=r_lower p (fun h=>check_wf h) hck
 have h5:=k_rsameU (lowerU p).1 (lowerU p).1
 rw [unEq_refl] at h5
 have h6:=k13 p
 have hbe:=k_begins
 clear hck
 generalize lowerU p=c at h2 h3 h5
 obtain ⟨U,W⟩:=c
 simp only at h2 h3 h5
 have e1:(W == W)=true:=beq_self_eq_true W
 refine Ctr.of hT hmix Tryz.func3 rfl (fun _ _=>by kernel_rfl) rfl fun hok => ?_
 clear hok
 conv=>whnf
 refine acall.pure _ (h1) rfl rfl fun _ => ?_
 conv=>whnf
 refine acall.pure _ (h2) rfl rfl fun _ => ?_
 conv=>whnf
 refine acall.pure _ (h3) rfl rfl fun _ => ?_
 conv=>whnf
 refine acall.pure _ (h5) rfl rfl fun _ => ?_
 conv=>whnf
 rw [e1]
 conv=>whnf
 refine acall.pure _ (h6) rfl rfl fun _ => ?_
 conv=>whnf
 refine acall.pure _ (hbe) rfl rfl fun _ => ?_
 conv=>whnf
 exact ⟨.inl rfl,trivial⟩
end Go.Proofs.YthboippafkcoiaaGreatDoor.am
