/- Contracts of the reference: number, value, uses, node. Contract of the reference: named; it says what the program's says. Contracts: the -/
import Derived.Test.YthboippafkcoiaaGreatDoorV13
import Derived.Test.YthboippafkcoiaaGreatDoorV11
set_option linter.all false
namespace Go.Proofs.YthboippafkcoiaaGreatDoor.am
open Go Go.Proofs
set_option linter.all false
end Go.Proofs.YthboippafkcoiaaGreatDoor.am
namespace Go.Proofs.YthboippafkcoiaaGreatDoor.am
open Go Go.Proofs
set_option linter.all false
end Go.Proofs.YthboippafkcoiaaGreatDoor.am
namespace Go.Proofs.YthboippafkcoiaaGreatDoor.am
open Go Go.Proofs
set_option linter.all false
def dcEq (a b:Decl):Bool:=(a.name.toList == b.name.toList) && ((a.word == b.word) && ((a.at_ == b.at_) && true))
def vlEq (a b:Val):Bool:=(a.s == b.s) && ((a.k == b.k) && ((a.w == b.w) && true))
def ndEq (a b:Nd):Bool:=(a.kind == b.kind) && ((a.op == b.op) && ((a.slot == b.slot) && ((a.thing == b.thing) && (vlEq a.a b.a && (vlEq a.b b.b && ((a.next == b.next) && ((a.els == b.els) && ((a.origin == b.origin) && true))))))))
def eqL {α:Type} (p:α→α→Bool):List α→List α→Bool
 | [],[]=>true
 | a::l,b::l'=>bif !(p a b) then false else eqL p l l'
 | _,_=>false
def eqLL {α:Type} (p:α→α→Bool) (l l':List α):Bool:=bif (l.length:Int) != (l'.length:Int) then false else eqL p l l'
def grEq (a b:Gr):Bool:=bif (!(a.name.toList == b.name.toList) || (a.locals != b.locals) || (a.slots != b.slots) || ((a.nodes.length:Int) != (b.nodes.length:Int))) then false else eqL ndEq a.nodes b.nodes
def unEq (a b:Un):Bool:=bif ((a.graphs.length:Int) != (b.graphs.length:Int)) || !(eqLL dcEq a.shared b.shared) || !(eqLL dcEq a.locks b.locks) then false else eqL grEq a.graphs b.graphs
theorem eqL_refl {α:Type} {p:α→α→Bool} (h : ∀ a,p a a=true) : ∀ l:List α,eqL p l l=true
 | []=>rfl
 | a::l=>by show (bif !(p a a) then false else eqL p l l)=true; rw [h,eqL_refl h l]; rfl
theorem eqLL_refl {α:Type} {p:α→α→Bool} (h : ∀ a,p a a=true) (l:List α):eqLL p l l=true:=by
 unfold eqLL
 rw [eqL_refl h]; simp
theorem dcEq_refl (a:Decl):dcEq a a=true:=by simp [dcEq]
theorem ndEq_refl (a:Nd):ndEq a a=true:=by simp [ndEq,vlEq]
theorem grEq_refl (a:Gr):grEq a a=true:=by
 unfold grEq
 rw [eqL_refl ndEq_refl]; simp
theorem unEq_refl (a:Un):unEq a a=true:=by
 unfold unEq
 rw [eqL_refl grEq_refl,eqLL_refl dcEq_refl,eqLL_refl dcEq_refl]; simp
set_option maxRecDepth 100000 in
theorem k_rdecls (l l':List Decl):K 46 [.tr (declsT l),.tr (declsT l')] [] (.ret (.tr (tb (eqLL dcEq l l')))) []:=by
 have h1:(l.map Decl.cells).length=l.length:=List.length_map ..
 have h2:(l'.map Decl.cells).length=l'.length:=List.length_map ..
 refine Ctr.of hT hmix Tryz.func46 rfl (fun _ _=>by kernel_rfl) rfl fun hok => ?_
 obtain ⟨_,hl1,_⟩:=(hok.slot 0 rfl).tr.lst
 rw [List.length_map] at hl1
 clear hok
 conv=>whnf
 cases hc:(((l.map Decl.cells).length:Int) != ((l'.map Decl.cells).length:Int)) with
 | true =>
  conv=>whnf
  exact ⟨.inl (congrArg tb (by rw [h1,h2] at hc; unfold eqLL; rw [hc]; rfl)),trivial⟩
 | false =>
 have hE:eqLL dcEq l l'=eqL dcEq l l':=by rw [h1,h2] at hc; unfold eqLL; rw [hc]; rfl
 have hll:l.length=l'.length:=by
  rw [h1,h2] at hc
  refine Classical.byContradiction fun w => ?_
  rw [bne_iff_ne.2 (fun e=>w (by omega))] at hc
  cases hc
 rw [hE]
 generalize hR:eqL dcEq l l'=R
 clear hE hc
 conv=>whnf
 refine LoopL.by (fun i:Nat=>⟨[(0,.tr (declsT l)),(1,.tr (declsT l')),(5,.tr (ti (i:Nat)))],[],10⟩) (fun i=>i≤l.length∧R=eqL dcEq (l.drop i) (l'.drop i)) (fun i=>l.length - i) 0 [] []
  (Sub.mk' rfl aut trivial rfl rfl) ⟨Nat.zero_le _,hR.symm⟩ ?_
 clear hR
 rintro i ⟨hi,hR⟩ -
 conv=>whnf
 refine csplit (fun hit => ?_) (fun hit => ?_)
 ·replace hit:i<l.length:=by have:decide ((i:Int)<((l.map Decl.cells).length:Int))=true:=hit; have:=of_decide_eq_true this; omega
  obtain ⟨a,ha⟩ : ∃ a,l[i]? = some a:=⟨_,List.getElem?_eq_getElem hit⟩
  obtain ⟨b,hb⟩ : ∃ b,l'[i]? = some b:=⟨_,List.getElem?_eq_getElem (by omega)⟩
  rw [drop_cons ha,drop_cons hb] at hR
  obtain ⟨q,hq⟩ : ∃ q,dcEq a b=q:=⟨_,rfl⟩
  have hR2:R=bif !q then false else eqL dcEq (l.drop (i+1)) (l'.drop (i+1)):=by rw [hR]; show (bif !(dcEq a b) then false else _)=_; rw [hq]
  clear hR
  conv=>whnf
  refine ⟨rfl,(show (0:Int)≤i by omega),(show (i:Int)<((l.map Decl.cells).length:Int) by omega),fun row hrow => ?_⟩
  obtain ⟨d,hd,rfl⟩:=decl_get hrow
  obtain rfl:=Option.some.inj (ha.symm.trans hd)
  clear hrow hd
  conv=>whnf
  refine ⟨rfl,(show (0:Int)≤i by omega),(show (i:Int)<((l'.map Decl.cells).length:Int) by omega),fun row hrow => ?_⟩
  obtain ⟨d,hd,rfl⟩:=decl_get hrow
  obtain rfl:=Option.some.inj (hb.symm.trans hd)
  clear hrow hd
  unfold dcEq at hq
  conv=>whnf
  rw [hq]
  refine ⟨by kernel_rfl,fun _ => ?_⟩
  conv=>whnf
  cases q with
  | false =>
   conv=>whnf
   exact ⟨.inl (congrArg tb hR2.symm),trivial⟩
  | true =>
   conv=>whnf
   exact ⟨i+1,[],[],Sub.mk' rfl ⟨.inl rfl,.inl rfl,.inl (ti_succ hit (by omega)),trivial⟩ trivial rfl rfl,⟨hit,hR2⟩,by show l.length - (i+1)<l.length - i; omega⟩
 replace hit:l.length≤i:=by have:decide ((i:Int)<((l.map Decl.cells).length:Int))=false:=hit; have:=of_decide_eq_false this; omega
 rw [List.drop_of_length_le hit,List.drop_of_length_le (by omega)] at hR
 conv=>whnf
 refine ⟨fun _ => ?_,fun h=>absurd rfl h⟩
 conv=>whnf
 exact ⟨.inl (by rw [hR]; rfl),trivial⟩
set_option maxRecDepth 100000 in
theorem k_rsameG (a b:Gr):K 47 [a.av,b.av] [] (.ret (.tr (tb (grEq a b)))) []:=by
 have hR:grEq a b=bif (!(a.name.toList == b.name.toList) || (a.locals != b.locals) || (a.slots != b.slots) || ((a.nodes.length:Int) != (b.nodes.length:Int))) then false else eqL ndEq a.nodes b.nodes:=rfl
 generalize grEq a b=R at hR ⊢
 have h1:(a.nodes.map Nd.cells).length=a.nodes.length:=List.length_map ..
 have h2:(b.nodes.map Nd.cells).length=b.nodes.length:=List.length_map ..
 obtain ⟨na,la,sa,l⟩:=a
 obtain ⟨nb,lb,sb,l'⟩:=b
 simp only at hR h1 h2
 refine Ctr.of hT hmix Tryz.func47 rfl (fun _ _=>by kernel_rfl) rfl fun hok => ?_
 obtain ⟨_,hl1,_⟩:=((hok.slot 0 rfl).agg _ (.tail _ (.tail _ (.tail _ (.head _))))).tr.lst
 rw [List.length_map] at hl1
 clear hok
 conv=>whnf
 cases c1:(!(na.toList == nb.toList)) with
 | true =>
  conv=>whnf
  exact ⟨.inl (congrArg tb (by rw [hR,c1]; rfl)),trivial⟩
 | false =>
 rw [c1] at hR
 conv=>whnf
 cases c2:(la != lb) with
 | true =>
  conv=>whnf
  exact ⟨.inl (congrArg tb (by rw [hR,c2]; rfl)),trivial⟩
 | false =>
 rw [c2] at hR
 conv=>whnf
 cases c3:(sa != sb) with
 | true =>
  conv=>whnf
  exact ⟨.inl (congrArg tb (by rw [hR,c3]; rfl)),trivial⟩
 | false =>
 rw [c3] at hR
 conv=>whnf
 cases c4:(((l.map Nd.cells).length:Int) != ((l'.map Nd.cells).length:Int)) with
 | true =>
  rw [h1,h2] at c4
  conv=>whnf
  exact ⟨.inl (congrArg tb (by rw [hR,c4]; rfl)),trivial⟩
 | false =>
 have hll:l.length=l'.length:=by
  rw [h1,h2] at c4
  refine Classical.byContradiction fun w => ?_
  rw [bne_iff_ne.2 (fun e=>w (by omega))] at c4
  cases c4
 replace hR:R=eqL ndEq l l':=by rw [h1,h2] at c4; rw [hR,c4]; rfl
 clear c1 c2 c3 c4
 conv=>whnf
 refine LoopL.by (fun i:Nat=>⟨[(2,.ptr 0 0),(3,.ptr 1 0),(5,.tr (ti (i:Nat)))],[(0,grBl ⟨na,la,sa,l⟩),(1,grBl ⟨nb,lb,sb,l'⟩)],10⟩) (fun i=>i≤l.length∧R=eqL ndEq (l.drop i) (l'.drop i)) (fun i=>l.length - i) 0 [_,_] []
  (Sub.aw) ⟨Nat.zero_le _,hR⟩ ?_
 clear hR
 rintro i ⟨hi,hR⟩ -
 conv=>whnf
 refine csplit (fun hit => ?_) (fun hit => ?_)
 ·replace hit:i<l.length:=by have:decide ((i:Int)<((l.map Nd.cells).length:Int))=true:=hit; have:=of_decide_eq_true this; omega
  obtain ⟨a,ha⟩ : ∃ a,l[i]? = some a:=⟨_,List.getElem?_eq_getElem hit⟩
  obtain ⟨b,hb⟩ : ∃ b,l'[i]? = some b:=⟨_,List.getElem?_eq_getElem (by omega)⟩
  rw [drop_cons ha,drop_cons hb] at hR
  obtain ⟨q,hq⟩ : ∃ q,ndEq a b=q:=⟨_,rfl⟩
  have hR2:R=bif !q then false else eqL ndEq (l.drop (i+1)) (l'.drop (i+1)):=by rw [hR]; show (bif !(ndEq a b) then false else _)=_; rw [hq]
  clear hR
  conv=>whnf
  refine ⟨rfl,(show (0:Int)≤i by omega),(show (i:Int)<((l.map Nd.cells).length:Int) by omega),fun row hrow => ?_⟩
  obtain ⟨d,hd,rfl⟩:=nd_get hrow
  obtain rfl:=Option.some.inj (ha.symm.trans hd)
  clear hrow hd
  conv=>whnf
  refine ⟨rfl,(show (0:Int)≤i by omega),(show (i:Int)<((l'.map Nd.cells).length:Int) by omega),fun row hrow => ?_⟩
  obtain ⟨d,hd,rfl⟩:=nd_get hrow
  obtain rfl:=Option.some.inj (hb.symm.trans hd)
  clear hrow hd
  unfold ndEq vlEq at hq
  conv=>whnf
  rw [hq]
  refine ⟨by kernel_rfl,fun _ => ?_⟩
  conv=>whnf
  cases q with
  | false =>
   conv=>whnf
   exact ⟨.inl (congrArg tb hR2.symm),trivial⟩
  | true =>
   conv=>whnf
   exact ⟨i+1,[0,1],[],Sub.mk' rfl ⟨⟨rfl,rfl⟩,⟨rfl,rfl⟩,.inl (ti_succ hit (by omega)),trivial⟩ aut rfl rfl,⟨hit,hR2⟩,by show l.length - (i+1)<l.length - i; omega⟩
 replace hit:l.length≤i:=by have:decide ((i:Int)<((l.map Nd.cells).length:Int))=false:=hit; have:=of_decide_eq_false this; omega
 rw [List.drop_of_length_le hit,List.drop_of_length_le (by omega)] at hR
 conv=>whnf
 refine ⟨fun _ => ?_,fun h=>absurd rfl h⟩
 conv=>whnf
 exact ⟨.inl (by rw [hR]; rfl),trivial⟩
set_option maxRecDepth 100000 in
theorem k_rsameU (a b:Un):K 12 [a.av,b.av] [] (.ret (.tr (tb (unEq a b)))) []:=by
 have hR:unEq a b=bif ((a.graphs.length:Int) != (b.graphs.length:Int)) || !(eqLL dcEq a.shared b.shared) || !(eqLL dcEq a.locks b.locks) then false else eqL grEq a.graphs b.graphs:=rfl
 generalize unEq a b=R at hR ⊢
 have h1:(a.graphs.map Gr.cells).length=a.graphs.length:=List.length_map ..
 have h2:(b.graphs.map Gr.cells).length=b.graphs.length:=List.length_map ..
 obtain ⟨s1,k1,l⟩:=a
 obtain ⟨s2,k2,l'⟩:=b
 simp only at hR h1 h2
 have d1:=k_rdecls s1 s2
 have d2:=k_rdecls k1 k2
 generalize eqLL dcEq s1 s2=e1 at d1 hR
 generalize eqLL dcEq k1 k2=e2 at d2 hR
 refine Ctr.of hT hmix Tryz.func12 rfl (fun _ _=>by kernel_rfl) rfl fun hok => ?_
 obtain ⟨_,hl1,_⟩:=((hok.slot 0 rfl).agg _ (.tail _ (.tail _ (.head _)))).tr.lst
 rw [List.length_map] at hl1
 clear hok
 conv=>whnf
 cases c4:(((l.map Gr.cells).length:Int) != ((l'.map Gr.cells).length:Int)) with
 | true =>
  rw [h1,h2] at c4
  conv=>whnf
  exact ⟨.inl (congrArg tb (by rw [hR,c4]; rfl)),trivial⟩
 | false =>
 have hll:l.length=l'.length:=by
  rw [h1,h2] at c4
  refine Classical.byContradiction fun w => ?_
  rw [bne_iff_ne.2 (fun e=>w (by omega))] at c4
  cases c4
 rw [h1,h2] at c4
 rw [c4] at hR
 clear c4
 conv=>whnf
 refine acall.pure _ (d1) rfl rfl fun _ => ?_
 conv=>whnf
 cases e1 with
 | false =>
  conv=>whnf
  exact ⟨.inl (congrArg tb (by rw [hR]; rfl)),trivial⟩
 | true =>
 conv=>whnf
 refine acall.pure _ (d2) rfl rfl fun _ => ?_
 conv=>whnf
 cases e2 with
 | false =>
  conv=>whnf
  exact ⟨.inl (congrArg tb (by rw [hR]; rfl)),trivial⟩
 | true =>
 replace hR:R=eqL grEq l l':=hR
 conv=>whnf
 refine LoopL.by (fun i:Nat=>⟨[(2,.ptr 0 0),(3,.ptr 1 0),(5,.tr (ti (i:Nat)))],[(0,.cells 29 [.tr (declsT s1),.tr (declsT k1),.tr (graphsT l)]),(1,.cells 29 [.tr (declsT s2),.tr (declsT k2),.tr (graphsT l')])],10⟩) (fun i=>i≤l.length∧R=eqL grEq (l.drop i) (l'.drop i)) (fun i=>l.length - i) 0 [_,_] []
  (Sub.aw) ⟨Nat.zero_le _,hR⟩ ?_
 clear hR d1 d2
 rintro i ⟨hi,hR⟩ -
 conv=>whnf
 refine csplit (fun hit => ?_) (fun hit => ?_)
 ·replace hit:i<l.length:=by have:decide ((i:Int)<((l.map Gr.cells).length:Int))=true:=hit; have:=of_decide_eq_true this; omega
  obtain ⟨a,ha⟩ : ∃ a,l[i]? = some a:=⟨_,List.getElem?_eq_getElem hit⟩
  obtain ⟨b,hb⟩ : ∃ b,l'[i]? = some b:=⟨_,List.getElem?_eq_getElem (by omega)⟩
  rw [drop_cons ha,drop_cons hb] at hR
  have hs:=k_rsameG a b
  have hR2:R=bif !(grEq a b) then false else eqL grEq (l.drop (i+1)) (l'.drop (i+1)):=hR
  generalize grEq a b=q at hs hR2
  clear hR
  conv=>whnf
  refine ⟨rfl,(show (0:Int)≤i by omega),(show (i:Int)<((l.map Gr.cells).length:Int) by omega),fun row hrow => ?_⟩
  obtain ⟨d,hd,rfl⟩:=gr_get hrow
  obtain rfl:=Option.some.inj (ha.symm.trans hd)
  clear hrow hd
  conv=>whnf
  refine ⟨rfl,(show (0:Int)≤i by omega),(show (i:Int)<((l'.map Gr.cells).length:Int) by omega),fun row hrow => ?_⟩
  obtain ⟨d,hd,rfl⟩:=gr_get hrow
  obtain rfl:=Option.some.inj (hb.symm.trans hd)
  clear hrow hd
  conv=>whnf
  refine acall.pure _ (hs) rfl rfl ?_
  conv=>whnf
  refine ⟨by kernel_rfl,fun _ => ?_⟩
  conv=>whnf
  cases q with
  | false =>
   conv=>whnf
   exact ⟨.inl (congrArg tb hR2.symm),trivial⟩
  | true =>
   conv=>whnf
   exact ⟨i+1,[0,1],[],Sub.mk' rfl ⟨⟨rfl,rfl⟩,⟨rfl,rfl⟩,.inl (ti_succ hit (by omega)),trivial⟩ aut rfl rfl,⟨hit,hR2⟩,by show l.length - (i+1)<l.length - i; omega⟩
 replace hit:l.length≤i:=by have:decide ((i:Int)<((l.map Gr.cells).length:Int))=false:=hit; have:=of_decide_eq_false this; omega
 rw [List.drop_of_length_le hit,List.drop_of_length_le (by omega)] at hR
 conv=>whnf
 refine ⟨fun _ => ?_,fun h=>absurd rfl h⟩
 conv=>whnf
 exact ⟨.inl (by rw [hR]; rfl),trivial⟩
end Go.Proofs.YthboippafkcoiaaGreatDoor.am
namespace Go.Proofs.YthboippafkcoiaaGreatDoor.am
open Go Go.Proofs
set_option linter.all false
end Go.Proofs.YthboippafkcoiaaGreatDoor.am
namespace Go.Proofs.YthboippafkcoiaaGreatDoor.am
open Go Go.Proofs
set_option linter.all false
theorem allP_refl {α:Type} {r:α→α→Prop} (h : ∀ a,r a a) : ∀ l:List α,allP r l l
 | []=>trivial
 | a::l=>⟨h a,allP_refl h l⟩
theorem nlD_refl : ∀ (k:Nat) (t:Tr),nlD k t t
 | 0,t=>by show t=t; rfl
 | k+1,.v x=>by show nl1 _ _; exact .inl rfl
 | k+1,.lst n B rows=>by show n=n∧B=B∧_; exact ⟨rfl,rfl,allP_refl (fun l=>allP_refl (fun t=>nlD_refl k t) l) rows⟩
theorem Rep.tup2 {g:Gh} {w:World} {v:Value} {t t' b:Tr} (k:Nat) (h:nlD k t t') (hr:Rep g w v (.tup [.tr t,.tr b])):Rep g w v (.tup [.tr t',.tr b]):=by
 cases hr with
 | tup h1 h2 =>
  refine .tup h1 fun i c a e1 e2 => ?_
  match i,e2 with
  | 0,e2 =>
   cases e2
   cases h2 0 c _ e1 rfl with
   | tr hq=>exact .tr (hq.nlD k h)
  | 1,e2=>exact h2 1 c a e1 e2
def heL (L:List (Option (List Int))):List (List Int):=L.map fun o=>o.getD []
theorem heT_il (L:List (Option (List Int))):nlD 2 (heT L) (ilistsT (heL L)):=by
 show 1=1∧24=24∧allP (allP (nlD 1)) (L.map hrow) ((heL L).map ilrow)
 refine ⟨rfl,rfl,?_⟩
 unfold heL
 induction L with
 | nil=>trivial
 | cons o L ih =>
  refine ⟨?_,ih⟩
  cases o with
  | none=>exact ⟨.inr ⟨rfl,1,8,rfl⟩,trivial⟩
  | some l=>exact ⟨nlD_refl 1 _,trivial⟩
theorem heldC (g:Gr) : ∃ (H:List (List Int)) (B:Bool),K 31 [g.av] [] (.ret (.tup [.tr (ilistsT H),.tr (tb B)])) []∧K 32 [g.av] [] (.ret (.tup [.tr (ilistsT H),.tr (tb B)])) []:=by
 have w1:=k_whole g
 have w2:=k_rwhole g
 cases hW:wholeB g with
 | false =>
  rw [hW] at w1 w2
  refine ⟨[],false,?_,?_⟩
  ·clear w2
   obtain ⟨name,locals,slots,nodes⟩:=g
   refine Ctr.of hT hmix Tryz.func31 rfl (fun _ _=>by kernel_rfl) rfl fun hok => ?_
   clear hok
   conv=>whnf
   refine acall.pure _ (w1) rfl rfl fun _ => ?_
   conv=>whnf
   exact ⟨⟨.inr ⟨rfl,_,_,rfl⟩,.inl rfl,trivial⟩,trivial⟩
  ·clear w1
   obtain ⟨name,locals,slots,nodes⟩:=g
   refine Ctr.of hT hmix Tryz.func32 rfl (fun _ _=>by kernel_rfl) rfl fun hok => ?_
   clear hok
   conv=>whnf
   refine acall.pure _ (w2) rfl rfl fun _ => ?_
   conv=>whnf
   exact ⟨⟨.inr ⟨rfl,_,_,rfl⟩,.inl rfl,trivial⟩,trivial⟩
 | true =>
  rw [hW] at w1 w2
  have hW:=whole_of hW
  have h1:=k_heldR g hW
  have h2:=k_rheld g hW
  clear hW
  generalize heldR g=R at h1 h2
  obtain ⟨L,q⟩:=R
  simp only at h1 h2
  refine ⟨heL L,decide (q<0),?_,?_⟩
  ·refine Ctr.res (a := .tup [.tr (heT L),.tr (tb (decide (q<0)))]) ?_ fun _ _ _ h=>h.tup2 2 (heT_il L)
   clear w2 h2
   obtain ⟨name,locals,slots,nodes⟩:=g
   refine Ctr.of hT hmix Tryz.func31 rfl (fun _ _=>by kernel_rfl) rfl fun hok => ?_
   clear hok
   conv=>whnf
   refine acall.pure _ (w1) rfl rfl fun _ => ?_
   conv=>whnf
   refine acall.pure _ (h1) rfl rfl fun _ => ?_
   conv=>whnf
   exact aut
  ·refine Ctr.res (a := .tup [.tr (heT L),.tr (tb (decide (q<0)))]) ?_ fun _ _ _ h=>h.tup2 2 (heT_il L)
   clear w1 h1
   obtain ⟨name,locals,slots,nodes⟩:=g
   refine Ctr.of hT hmix Tryz.func32 rfl (fun _ _=>by kernel_rfl) rfl fun hok => ?_
   clear hok
   conv=>whnf
   refine acall.pure _ (w2) rfl rfl fun _ => ?_
   conv=>whnf
   refine acall.pure _ (h2) rfl rfl fun _ => ?_
   conv=>whnf
   exact aut
set_option maxRecDepth 100000 in
theorem k_copyGT (g:Gr):K 67 [g.av] [] (.ret g.av) []:=by
 have hln:(g.nodes.map Nd.cells).length=g.nodes.length:=List.length_map ..
 obtain ⟨name,locals,slots,nodes⟩:=g
 simp only at hln
 refine Ctr.of hT hmix Tryz.func67 rfl (fun _ _=>by kernel_rfl) rfl fun hok => ?_
 obtain ⟨hb,_⟩:=((hok.slot 0 rfl).agg _ (.tail _ (.tail _ (.tail _ (.head _))))).tr.lst
 clear hok
 conv=>whnf
 refine ⟨rfl,rfl,rfl,Nat.le_refl _,(by show (0+(nodes.map Nd.cells).length)*96≤150000000000000; rw [Nat.zero_add]; exact hb),(fun q hq=>by cases hq),?_⟩
 conv=>whnf
 exact ⟨⟨.inl rfl,.inl rfl,.inl rfl,⟨rfl,(by show 0+(nodes.map Nd.cells).length≤(nodes.map Nd.cells).length; omega),(by show nodesT nodes=Tr.lst 13 96 ((nodes.map Nd.cells).take (0+(nodes.map Nd.cells).length)); rw [Nat.zero_add,List.take_length])⟩,trivial⟩,trivial⟩
theorem take_all {l:List (List Tr)} {n:Nat} (h:l.length=n):l.take (0+n)=l:=by rw [Nat.zero_add,List.take_of_length_le (Nat.le_of_eq h)]
abbrev grsB (l:List Gr):Blk := .vec 50 4 56 (l.map Gr.cells)
set_option maxRecDepth 100000 in
set_option maxHeartbeats 2000000 in
theorem k_copyU (u:Un):K 28 [u.av] [] (.ret u.av) []:=by
 obtain ⟨sh,lo,gr⟩:=u
 have hlg:(gr.map Gr.cells).length=gr.length:=List.length_map ..
 refine Ctr.cut [2] hT hmix Tryz.func28 rfl (fun _ _=>by kernel_rfl) rfl fun hok => ?_
 obtain ⟨hb1,_⟩:=((hok.slot 0 rfl).agg _ (.head _)).tr.lst
 obtain ⟨hb2,_⟩:=((hok.slot 0 rfl).agg _ (.tail _ (.head _))).tr.lst
 obtain ⟨hb3,hl3,_⟩:=((hok.slot 0 rfl).agg _ (.tail _ (.tail _ (.head _)))).tr.lst
 rw [List.length_map] at hl3
 clear hok
 conv=>whnf
 refine CutL.by (fun _:Unit=>⟨[(1,.ptr 0 0),(2,.ptr 1 0),(3,.ptr 2 0)],[(0,.cells 29 [.tr (declsT sh),.tr (declsT lo),.tr (graphsT gr)]),(1,.cells 29 [nilA,nilA,nilA]),(2,.cells 29 [.tr (declsT sh),.tr (declsT lo),.sl 3 0]),(3,grsB [])],10⟩) (fun _=>True) ?_ ?_
 ·conv=>whnf
  refine ⟨rfl,rfl,rfl,Nat.le_refl _,(by show (0+(sh.map Decl.cells).length)*32≤150000000000000; rw [Nat.zero_add]; exact hb1),(fun q hq=>by cases hq),?_⟩
  conv=>whnf
  refine ⟨rfl,rfl,rfl,Nat.le_refl _,(by show (0+(lo.map Decl.cells).length)*32≤150000000000000; rw [Nat.zero_add]; exact hb2),(fun q hq=>by cases hq),?_⟩
  conv=>whnf
  refine ⟨by kernel_rfl,fun _ => ?_⟩
  conv=>whnf
  exact ⟨(),[_,_,_],[3],Sub.mk' rfl ⟨⟨rfl,rfl⟩,⟨rfl,rfl⟩,⟨rfl,rfl⟩,trivial⟩ ⟨⟨rfl,.inl rfl,.inl rfl,.inl rfl,trivial⟩,⟨rfl,.inl rfl,.inl rfl,.inl rfl,trivial⟩,⟨rfl,⟨rfl,(by simp),(by show declsT sh=Tr.lst 3 32 ((sh.map Decl.cells).take _); rw [take_all rfl])⟩,⟨rfl,(by simp),(by show declsT lo=Tr.lst 3 32 ((lo.map Decl.cells).take _); rw [take_all rfl])⟩,⟨rfl,rfl,rfl,rfl⟩,trivial⟩,⟨rfl,_,_,_,rfl,by decide⟩,trivial⟩ rfl rfl,trivial⟩
 rintro - - -
 conv=>whnf
 refine LoopL.by (fun i:Nat=>⟨[(1,.ptr 0 0),(2,.ptr 1 0),(3,.ptr 2 0),(4,.tr (ti (i:Nat)))],[(0,.cells 29 [.tr (declsT sh),.tr (declsT lo),.tr (graphsT gr)]),(1,.cells 29 [nilA,nilA,nilA]),(2,.cells 29 [.tr (declsT sh),.tr (declsT lo),.sl 3 i]),(3,grsB (gr.take i))],10⟩) (fun i=>i≤gr.length) (fun i=>gr.length - i) 0 [0,1,2,3] []
  (Sub.mk' rfl aut aut rfl rfl) (Nat.zero_le _) ?_
 rintro i hi -
 conv=>whnf
 refine csplit (fun hit => ?_) (fun hit => ?_)
 ·replace hit:i<gr.length:=by have:decide ((i:Int)<((gr.map Gr.cells).length:Int))=true:=hit; have:=of_decide_eq_true this; omega
  obtain ⟨g,hg⟩ : ∃ g,gr[i]? = some g:=⟨_,List.getElem?_eq_getElem hit⟩
  have hcg:=k_copyGT g
  have htk:gr.take (i+1)=gr.take i++[g]:=by rw [List.take_succ,hg]; rfl
  have hlk2:(gr.take i).length=i:=by rw [List.length_take]; omega
  have hda:((gr.take i).map Gr.cells).take i++[g.cells]=(gr.take (i+1)).map Gr.cells:=by rw [htk,List.map_append,List.take_of_length_le (by rw [List.length_map]; omega)]; rfl
  have hbd:(i+1)*56≤150000000000000:=by
   have:(i+1)*56≤(gr.map Gr.cells).length*56:=Nat.mul_le_mul_right _ (by omega)
   exact Nat.le_trans this hb3
  conv=>whnf
  refine ⟨rfl,(show (0:Int)≤i by omega),(show (i:Int)<((gr.map Gr.cells).length:Int) by omega),fun row hrow => ?_⟩
  obtain ⟨d,hd,rfl⟩:=gr_get hrow
  obtain rfl:=Option.some.inj (hg.symm.trans hd)
  clear hrow hd
  conv=>whnf
  refine acall.pure _ (hcg) rfl rfl ?_
  conv=>whnf
  refine ⟨rfl,rfl,rfl,(by rw [List.length_map]; omega),hbd,fun q hq => ?_,?_⟩
  ·cases hq with
   | head=>exact Nat.ne_of_beq_eq_false rfl
   | tail _ h=>cases h
  conv=>whnf
  refine ⟨by kernel_rfl,fun _ => ?_⟩
  conv=>whnf
  exact ⟨i+1,[0,1,2,_],[],Sub.mk' rfl ⟨⟨rfl,rfl⟩,⟨rfl,rfl⟩,⟨rfl,rfl⟩,.inl (ti_succ hit (by omega)),trivial⟩ ⟨⟨rfl,.inl rfl,.inl rfl,.inl rfl,trivial⟩,⟨rfl,.inl rfl,.inl rfl,.inl rfl,trivial⟩,⟨rfl,.inl rfl,.inl rfl,⟨rfl,rfl⟩,trivial⟩,⟨rfl,rfl,rfl,hda⟩,trivial⟩ rfl rfl,hit,by show gr.length - (i+1)<gr.length - i; omega⟩
 ·replace hit:i=gr.length:=by have:decide ((i:Int)<((gr.map Gr.cells).length:Int))=false:=hit; have:=of_decide_eq_false this; omega
  subst hit
  have htk:gr.take gr.length=gr:=List.take_of_length_le (Nat.le_refl _)
  rw [htk]
  conv=>whnf
  refine ⟨fun _ => ?_,fun h=>absurd rfl h⟩
  conv=>whnf
  exact ⟨⟨.inl rfl,.inl rfl,⟨rfl,(by rw [List.length_map]; exact Nat.le_refl _),(by show graphsT gr=Tr.lst 4 56 ((gr.map Gr.cells).take gr.length); rw [List.take_of_length_le (by rw [List.length_map]; exact Nat.le_refl _)])⟩,trivial⟩,trivial⟩
end Go.Proofs.YthboippafkcoiaaGreatDoor.am
namespace Go.Proofs.YthboippafkcoiaaGreatDoor.am
open Go Go.Proofs
set_option linter.all false
set_option maxRecDepth 100000 in
theorem k_HeldO (g:Gr) (hW:wholeB g=true) (hs:(heldR g).2 = -1):K 31 [g.av] [] (.ret (.tup [.sl 0 g.nodes.length,.tr (tb true)])) [some (oB (heldR g).1 [])]:=by
 have w1:=k_whole g
 rw [hW] at w1
 have h1:=k_heldO g (whole_of hW) hs
 clear hs hW
 generalize (heldR g).1=L at h1
 obtain ⟨name,locals,slots,nodes⟩:=g
 simp only at h1
 refine Ctr.new [] hT hmix Tryz.func31 rfl (fun _ _=>by kernel_rfl) rfl fun hok => ?_
 clear hok
 conv=>whnf
 refine acall.pure _ (w1) rfl rfl fun _ => ?_
 conv=>whnf
 refine acall.new [] [] _ _ _ _ (h1) rfl rfl rfl rfl aut aut rfl rfl ?_
 conv=>whnf
 intro _
 conv=>whnf
 exact ⟨[_],rfl,rfl,⟨⟨rfl,rfl⟩,.inl rfl,trivial⟩,⟨rfl,rfl,rfl,rfl,.inl rfl⟩,trivial⟩
theorem inH_most {N k:Nat} {now:List Int} (hn:now.length≤k) : ∀ {F:List Nat} {s:HSt},(∀ x ∈ F,x<N)→HInv N k s.1 s.2→HInv N k (inH now F s).1.1 (inH now F s).1.2
 | [],s,_,h=>h
 | y::r,s,hF,h=>by
  show HInv N k (bif s.2.contains y then (bif eqI2 (lkAt s.1 y) now then inH now r s else (s,some y)) else inH now r (s.1.set y (some now),s.2++[y])).1.1 (bif s.2.contains y then (bif eqI2 (lkAt s.1 y) now then inH now r s else (s,some y)) else inH now r (s.1.set y (some now),s.2++[y])).1.2
  cases hc:s.2.contains y with
  | true =>
   rw [cond_true]
   cases he:eqI2 (lkAt s.1 y) now with
   | true=>exact inH_most hn (fun x hx=>hF x (.tail _ hx)) h
   | false=>exact h
  | false =>
   rw [cond_false]
   refine inH_most hn (fun x hx=>hF x (.tail _ hx)) (h.put (hF y (.head _)) (fun w => ?_) hn)
   rw [List.contains_iff_mem.2 w] at hc; cases hc
theorem outH_most (g:Gr) {N:Nat} (hlt : ∀ a,∀ x ∈ fol g a,x<N) : ∀ (f:Nat) (s:HSt) (k:Nat),HInv N k s.1 s.2 → ∀ (a:Nat) l,(outH g f s k).1[a]? = some (some l)→l.length≤k+f
 | 0,s,k,h,a,l,e=>by cases e
 | f+1,s,k,h,a,l,e=>by
  change (match s.2[k]? with
  | none=>(s.1,-1)
  | some a=>match g.nodes[a]? with
   | none=>([],0)
   | some n=>match nowN n (lkAt s.1 a) with
    | none=>([],(a:Int))
    | some now=>contH (outH g f) (k+1) (inH now (fol g a) s)).1[a]? = some (some l) at e
  cases ha:s.2[k]? with
  | none =>
   rw [ha] at e
   have:=h.most a l e; omega
  | some b =>
   rw [ha] at e
   change (match g.nodes[b]? with
    | none=>([],0)
    | some n=>match nowN n (lkAt s.1 b) with
     | none=>([],(b:Int))
     | some now=>contH (outH g f) (k+1) (inH now (fol g b) s)).1[a]? = some (some l) at e
   cases hn:g.nodes[b]? with
   | none=>rw [hn] at e; cases e
   | some n =>
    rw [hn] at e
    change (match nowN n (lkAt s.1 b) with
     | none=>([],(b:Int))
     | some now=>contH (outH g f) (k+1) (inH now (fol g b) s)).1[a]? = some (some l) at e
    cases hnow:nowN n (lkAt s.1 b) with
    | none=>rw [hnow] at e; cases e
    | some now =>
     rw [hnow] at e
     change (contH (outH g f) (k+1) (inH now (fol g b) s)).1[a]? = some (some l) at e
     have hn:now.length≤k+1:=Nat.le_trans (nowN_len hnow) (Nat.succ_le_succ (h.at b))
     have h2:=inH_most hn (hlt b) (h.mono (Nat.le_succ k))
     generalize inH now (fol g b) s=r at h2 e
     obtain ⟨s',o⟩:=r
     cases o with
     | some y=>cases e
     | none=>have:=outH_most g hlt f s' (k+1) h2 a l e; omega
theorem heldR_most (g:Gr) (hW:Whole g) (a:Nat) (l:List Int) (e:(heldR g).1[a]? = some (some l)):l.length≤g.nodes.length+1:=by
 have:=outH_most g (N:=g.nodes.length) hW.lt (g.nodes.length+1) (List.replicate g.nodes.length none,[0]) 0 ⟨List.length_replicate ..,by simp,fun x hx=>by rw [List.mem_singleton.1 hx]; exact hW.pos,fun a l e=>by
   have e:(List.replicate g.nodes.length none)[a]? = some (some l):=e
   rw [List.getElem?_replicate] at e
   split at e <;> cases e⟩ a l e
 omega
set_option maxRecDepth 100000 in
theorem k_copyGO (g:Gr):K 67 [g.av] [] (.ret (.agg [.tr (ts g.name),.tr (ti g.locals),.tr (ti g.slots),.sl 0 g.nodes.length])) [some (.own 13 96 (g.nodes.map Nd.cells) [])]:=by
 have hln:(g.nodes.map Nd.cells).length=g.nodes.length:=List.length_map ..
 obtain ⟨name,locals,slots,nodes⟩:=g
 simp only at hln ⊢
 refine Ctr.new [] hT hmix Tryz.func67 rfl (fun _ _=>by kernel_rfl) rfl fun hok => ?_
 obtain ⟨hb,_⟩:=((hok.slot 0 rfl).agg _ (.tail _ (.tail _ (.tail _ (.head _))))).tr.lst
 clear hok
 conv=>whnf
 refine ⟨rfl,rfl,rfl,Nat.le_refl _,(by show (0+(nodes.map Nd.cells).length)*96≤150000000000000; rw [Nat.zero_add]; exact hb),(fun q hq=>by cases hq),?_⟩
 conv=>whnf
 exact ⟨[_],rfl,rfl,⟨.inl rfl,.inl rfl,.inl rfl,⟨rfl,(by show 0+(nodes.map Nd.cells).length=nodes.length; omega)⟩,trivial⟩,⟨rfl,rfl,rfl,nd_leaf _,.inl rfl⟩,trivial⟩
abbrev grO (l:List Gr):Blk := .own 4 56 (l.map Gr.cells) []
abbrev deO (l:List Decl):Blk := .own 3 32 (l.map Decl.cells) []
abbrev bUn (u:Un):Blk := .cells 29 [.tr (declsT u.shared),.tr (declsT u.locks),.tr (graphsT u.graphs)]
set_option maxRecDepth 100000 in
set_option maxHeartbeats 2000000 in
theorem k_copyO (u:Un):K 28 [u.av] [] (.ret (.agg [.sl 0 (u.shared.map Decl.cells).length,.sl 1 (u.locks.map Decl.cells).length,.sl 2 u.graphs.length])) [some (deO u.shared),some (deO u.locks),some (grO u.graphs)]:=by
 obtain ⟨sh,lo,gr⟩:=u
 simp only
 have hlg:(gr.map Gr.cells).length=gr.length:=List.length_map ..
 refine Ctr.new [2] hT hmix Tryz.func28 rfl (fun _ _=>by kernel_rfl) rfl fun hok => ?_
 obtain ⟨hb1,_⟩:=((hok.slot 0 rfl).agg _ (.head _)).tr.lst
 obtain ⟨hb2,_⟩:=((hok.slot 0 rfl).agg _ (.tail _ (.head _))).tr.lst
 obtain ⟨hb3,hl3,_⟩:=((hok.slot 0 rfl).agg _ (.tail _ (.tail _ (.head _)))).tr.lst
 rw [List.length_map] at hl3
 clear hok
 conv=>whnf
 refine CutL.by (fun _:Unit=>⟨[(1,.ptr 0 0),(2,.ptr 1 0),(3,.ptr 2 0)],[(0,bUn ⟨sh,lo,gr⟩),(1,.cells 29 [nilA,nilA,nilA]),(2,.cells 29 [.sl 3 (sh.map Decl.cells).length,.sl 4 (lo.map Decl.cells).length,.sl 5 0]),(3,deO sh),(4,deO lo),(5,grO [])],10⟩) (fun _=>True) ?_ ?_
 ·conv=>whnf
  refine ⟨rfl,rfl,rfl,Nat.le_refl _,(by show (0+(sh.map Decl.cells).length)*32≤150000000000000; rw [Nat.zero_add]; exact hb1),(fun q hq=>by cases hq),?_⟩
  conv=>whnf
  refine ⟨rfl,rfl,rfl,Nat.le_refl _,(by show (0+(lo.map Decl.cells).length)*32≤150000000000000; rw [Nat.zero_add]; exact hb2),(fun q hq=>by cases hq),?_⟩
  conv=>whnf
  refine ⟨by kernel_rfl,fun _ => ?_⟩
  conv=>whnf
  exact ⟨(),[_,_,_,_,_],[5],Sub.mk' rfl ⟨⟨rfl,rfl⟩,⟨rfl,rfl⟩,⟨rfl,rfl⟩,trivial⟩ ⟨⟨rfl,.inl rfl,.inl rfl,.inl rfl,trivial⟩,⟨rfl,.inl rfl,.inl rfl,.inl rfl,trivial⟩,⟨rfl,⟨rfl,(by show 0+_=_; rw [Nat.zero_add])⟩,⟨rfl,(by show 0+_=_; rw [Nat.zero_add])⟩,⟨rfl,rfl,rfl,rfl⟩,trivial⟩,⟨rfl,rfl,rfl,decl_leafD _,.inl rfl⟩,⟨rfl,rfl,rfl,decl_leafD _,.inl rfl⟩,⟨rfl,rfl,rfl,by decide⟩,trivial⟩ rfl rfl,trivial⟩
 rintro - - -
 conv=>whnf
 refine LoopL.by (fun i:Nat=>⟨[(1,.ptr 0 0),(2,.ptr 1 0),(3,.ptr 2 0),(4,.tr (ti (i:Nat)))],[(0,bUn ⟨sh,lo,gr⟩),(1,.cells 29 [nilA,nilA,nilA]),(2,.cells 29 [.sl 3 (sh.map Decl.cells).length,.sl 4 (lo.map Decl.cells).length,.sl 5 i]),(3,deO sh),(4,deO lo),(5,grO (gr.take i))],10⟩) (fun i=>i≤gr.length) (fun i=>gr.length - i) 0 [0,1,2,3,4,5] []
  (Sub.mk' rfl aut aut rfl rfl) (Nat.zero_le _) ?_
 rintro i hi -
 conv=>whnf
 refine csplit (fun hit => ?_) (fun hit => ?_)
 ·replace hit:i<gr.length:=by have:decide ((i:Int)<((gr.map Gr.cells).length:Int))=true:=hit; have:=of_decide_eq_true this; omega
  obtain ⟨g,hg⟩ : ∃ g,gr[i]? = some g:=⟨_,List.getElem?_eq_getElem hit⟩
  have hcg:=k_copyGO g
  have htk:gr.take (i+1)=gr.take i++[g]:=by rw [List.take_succ,hg]; rfl
  have hlk2:(gr.take i).length=i:=by rw [List.length_take]; omega
  have hlk3:((gr.take i).map Gr.cells).length=i:=by rw [List.length_map,hlk2]
  have hbd:(i+1)*56≤150000000000000:=by
   have:(i+1)*56≤(gr.map Gr.cells).length*56:=Nat.mul_le_mul_right _ (by omega)
   exact Nat.le_trans this hb3
  conv=>whnf
  refine ⟨rfl,(show (0:Int)≤i by omega),(show (i:Int)<((gr.map Gr.cells).length:Int) by omega),fun row hrow => ?_⟩
  obtain ⟨d,hd,rfl⟩:=gr_get hrow
  obtain rfl:=Option.some.inj (hg.symm.trans hd)
  clear hrow hd
  conv=>whnf
  refine acall.new [] [] _ _ _ _ (hcg) rfl rfl rfl rfl aut aut rfl rfl ?_
  conv=>whnf
  refine ⟨hlk3.symm,rfl,Nat.le_refl _,hbd,trivial,trivial,trivial,?_⟩
  conv=>whnf
  refine ⟨by kernel_rfl,fun _ => ?_⟩
  conv=>whnf
  refine ⟨i+1,[0,1,2,3,4,24],[],Sub.pk [24] ?_,hit,by show gr.length - (i+1)<gr.length - i; omega⟩
  conv=>whnf
  refine ⟨rfl,rfl,(by show g.nodes.length≤(g.nodes.map Nd.cells).length; rw [List.length_map]; exact Nat.le_refl _),?_⟩
  refine Sub0.mk' rfl ⟨⟨rfl,rfl⟩,⟨rfl,rfl⟩,⟨rfl,rfl⟩,.inl (ti_succ hit (by omega)),trivial⟩ ⟨aut,aut,aut,aut,aut,⟨rfl,rfl,rfl,rfl,.inl ?_⟩,trivial⟩ rfl rfl
  refine (setC_last ((gr.take i).map Gr.cells) _ (i+0) _ _ (by rw [hlk3]; rfl)).trans ?_
  have hnt:(g.nodes.map Nd.cells).take g.nodes.length=g.nodes.map Nd.cells:=List.take_of_length_le (by rw [List.length_map]; exact Nat.le_refl _)
  rw [htk,List.map_append,hnt]; rfl
 ·replace hit:i=gr.length:=by have:decide ((i:Int)<((gr.map Gr.cells).length:Int))=false:=hit; have:=of_decide_eq_false this; omega
  subst hit
  have htk:gr.take gr.length=gr:=List.take_of_length_le (Nat.le_refl _)
  rw [htk]
  conv=>whnf
  refine ⟨fun _ => ?_,fun h=>absurd rfl h⟩
  conv=>whnf
  exact ⟨[3,4,5],rfl,rfl,aut,aut,aut,aut,trivial⟩
end Go.Proofs.YthboippafkcoiaaGreatDoor.am
namespace Go.Proofs.YthboippafkcoiaaGreatDoor.am
open Go Go.Proofs
set_option linter.all false
theorem low_p0:lowerU p0=(u0,0):=by kernel_rfl
theorem k_lowerL:K 10 [p0.av] [] (.ret (.tup [u0.av,.tr (ti 0)])) []:=by
 have h:=k_lowerG p0 fun h th hth=>(check_wf h th hth).1
 rw [low_p0] at h
 exact h
set_option maxRecDepth 100000 in
theorem k_beginsL:K 14 [] [] (.ret (.tr (tb true))) []:=by
 have hlo:=k_loop0
 have hlw:=k_lowerL
 have hch:=k_check u0
 rw [show (checkU u0).1=0 from by kernel_rfl,show (checkU u0).2.1=0 from by kernel_rfl,show (checkU u0).2.2=0 from by kernel_rfl] at hch
 have hpr:=k_print0
 obtain ⟨S,hS⟩ : ∃ S:ByteArray,S=⟨#[116,104,114,101,97,100,32,97,10,48,32,115,48,32,61,32,120,32,45,62,32,49,10,49,32,98,114,97,110,99,104,32,115,48,32,45,62,32,48,32,50,10,50,32,101,110,100,10]⟩:=⟨_,rfl⟩
 replace hpr:K 33 [u0.av] [] (.ret (.tup [.tr (ts S),.tr (ti 0)])) []:=by rw [hS]; exact hpr
 have e:(S.toList == ByteArray.toList ⟨#[116,104,114,101,97,100,32,97,10,48,32,115,48,32,61,32,120,32,45,62,32,49,10,49,32,98,114,97,110,99,104,32,115,48,32,45,62,32,48,32,50,10,50,32,101,110,100,10]⟩)=true:=by rw [hS]; exact beq_self_eq_true _
 clear hS
 have hdp:=k_depth g0 (by kernel_rfl)
 rw [show g0.nodes.length=3 from rfl,depth0] at hdp
 have hdo:=k_dominators g0 (by kernel_rfl)
 rw [show g0.nodes.length=3 from rfl,idom0] at hdo
 have hi1:=k_ints [1,1,0] [1,1,0]
 rw [show eqI2 [1,1,0] [1,1,0]=true from by kernel_rfl] at hi1
 have hi2:=k_ints [-1,0,1] [-1,0,1]
 rw [show eqI2 [-1,0,1] [-1,0,1]=true from by kernel_rfl] at hi2
 refine Ctr.cut [6] hT hmix Tryz.func14 rfl (fun _ _=>by kernel_rfl) rfl fun hok => ?_
 clear hok
 conv=>whnf
 refine acall.pure _ (hlo) rfl rfl fun _ => ?_
 conv=>whnf
 refine acall.pure _ (hlw) rfl rfl fun _ => ?_
 conv=>whnf
 refine acall.pure _ (hch) rfl rfl fun _ => ?_
 conv=>whnf
 refine acall.pure _ (hpr) rfl rfl fun _ => ?_
 conv=>whnf
 refine CutL.by (fun _:Unit=>⟨[(0,.tr (tb false)),(1,.ptr 0 0)],[(0,.cells 29 (u0.cells.map .tr))],10⟩) (fun _=>True) ?_ ?_
 ·conv=>whnf
  rw [e]
  conv=>whnf
  exact ⟨(),[_],[],Sub.aw,trivial⟩
 rintro - - -
 conv=>whnf
 refine ⟨rfl,Int.le_refl _,(by decide),fun row hrow => ?_⟩
 obtain rfl:Gr.cells g0=row:=Option.some.inj hrow
 clear hrow
 conv=>whnf
 refine acall.pure _ (hdp) rfl rfl fun _ => ?_
 conv=>whnf
 refine acall.au [] [15] (hi1) ?_
 intro _
 conv=>whnf
 refine ⟨rfl,Int.le_refl _,(by decide),fun row hrow => ?_⟩
 obtain rfl:Gr.cells g0=row:=Option.some.inj hrow
 clear hrow
 conv=>whnf
 refine acall.pure _ (hdo) rfl rfl fun _ => ?_
 conv=>whnf
 refine acall.au [] [23] (hi2) ?_
 intro _
 conv=>whnf
 exact aut
end Go.Proofs.YthboippafkcoiaaGreatDoor.am
namespace Go.Proofs.YthboippafkcoiaaGreatDoor.am
open Go Go.Proofs
set_option linter.all false
theorem lowTs_few (p:Prg) : ∀ (ths:List Thread) (i:Nat) (gs:List Gr),lowTs p i ths=some gs → ∀ g ∈ gs,g.nodes.length≤4096
 | [],i,gs,h,g,hg=>by cases h; cases hg
 | th::r,i,gs,h,g,hg=>by
  change (bif (endS (blockS (thrC p i th) th.body (low0 th))).over then none else match lowTs p (i+1) r with
   | some l=>some (grS (thrC p i th) (endS (blockS (thrC p i th) th.body (low0 th)))::l)
   | none=>none)=some gs at h
  have h2:=(((low0_ok th).rel (blockS_rel (thrC p i th) th.body (low0 th))).relE (endS_rel _)).cap
  generalize endS (blockS (thrC p i th) th.body (low0 th))=S at h h2
  cases ho:S.over with
  | true=>rw [ho] at h; cases h
  | false =>
   rw [ho,cond_false] at h
   cases hr:lowTs p (i+1) r with
   | none=>rw [hr] at h; cases h
   | some l =>
    rw [hr] at h
    cases h
    cases hg with
    | head=>show (zeroLast S.nodes).length≤4096; rw [zeroLast_len]; exact h2
    | tail _ hg=>exact lowTs_few p r (i+1) l hr g hg
theorem lowTs_len (p:Prg) : ∀ (ths:List Thread) (i:Nat) (gs:List Gr),lowTs p i ths=some gs→gs.length=ths.length
 | [],i,gs,h=>by cases h; rfl
 | th::r,i,gs,h=>by
  change (bif (endS (blockS (thrC p i th) th.body (low0 th))).over then none else match lowTs p (i+1) r with
   | some l=>some (grS (thrC p i th) (endS (blockS (thrC p i th) th.body (low0 th)))::l)
   | none=>none)=some gs at h
  generalize endS (blockS (thrC p i th) th.body (low0 th))=S at h
  cases ho:S.over with
  | true=>rw [ho] at h; cases h
  | false =>
   rw [ho,cond_false] at h
   cases hr:lowTs p (i+1) r with
   | none=>rw [hr] at h; cases h
   | some l =>
    rw [hr] at h
    cases h
    exact congrArg (· + 1) (lowTs_len p r (i+1) l hr)
theorem lower_or (p:Prg):(∃ w,lowerU p=(⟨[],[],[]⟩,w)) ∨ ∃ gs,(checkW p).1=0∧lowTs p 0 p.threads=some gs:=by
 unfold lowerU
 cases hc:((checkW p).1 != 0) with
 | true=>exact .inl ⟨_,rfl⟩
 | false =>
  cases hl:lowTs p 0 p.threads with
  | none=>exact .inl ⟨_,rfl⟩
  | some gs=>exact .inr ⟨gs,by simpa using hc,rfl⟩
theorem aheadC (g:Gr) : ∃ A:List (List Int),K 21 [g.av] [] (.ret (.tr (ilistsT A))) []∧K 22 [g.av] [] (.ret (.tr (ilistsT A))) []:=by
 cases h:wholeB g with
 | true =>
  refine ⟨(aheadL (fol g) g.nodes.length).map (fun l=>l.map fun (x:Nat)=>(x:Int)),?_,?_⟩
  ·rw [← listsT_i]; exact k_ahead g h
  ·rw [← listsT_i]; exact k_rahead g h
 | false=>exact ⟨[],k_ahead0 g h,k_rahead0 g h⟩
theorem tk_all (l:List Decl):declsT l=Tr.lst 3 32 ((l.map Decl.cells).take (l.map Decl.cells).length):=by rw [List.take_length]
theorem tg_all (l:List Gr):graphsT l=Tr.lst 4 56 ((l.map Gr.cells).take l.length):=by rw [List.take_of_length_le (by rw [List.length_map]; exact Nat.le_refl _)]
theorem lenG (l:List Gr):l.length≤(l.map Gr.cells).length:=by rw [List.length_map]; exact Nat.le_refl _
def LBnd (L:List (Option (List Int))):Prop:=L.length≤5000 ∧ ∀ (j:Nat) l,L[j]? = some (some l)→l.length≤5000
theorem aheadOC (g:Gr):K 21 [g.av] [] (.ret (.tr (ilistsT []))) [] ∨ ∃ L,K 21 [g.av] [] (.ret (.sl 0 L.length)) [some (oB L [])]∧LBnd L:=by
 cases h:wholeB g with
 | false=>exact .inl (k_ahead0 g h)
 | true =>
  refine .inr ⟨(aheadL (fol g) g.nodes.length).map fun l=>some (l.map fun (x:Nat)=>(x:Int)),?_,?_⟩
  ·have:=k_aheadO g h
   rw [List.length_map]
   show K _ _ _ _ [some (.own 1 24 (((aheadL (fol g) g.nodes.length).map fun l=>some (l.map fun (x:Nat)=>(x:Int))).map hrow) [])]
   rw [List.map_map]
   exact this
  ·have hm:=(whole_of h).most
   refine ⟨by rw [List.length_map]; unfold aheadL; rw [List.length_map,List.length_range]; omega,fun j l e => ?_⟩
   rw [List.getElem?_map,Option.map_eq_some_iff] at e
   obtain ⟨d,e1,e2⟩:=e
   cases e2
   rw [List.length_map]
   unfold aheadL at e1
   rw [List.getElem?_map,Option.map_eq_some_iff] at e1
   obtain ⟨k,_,rfl⟩:=e1
   have:=List.length_filter_le (fun i=>(fol g i).contains k) (List.range g.nodes.length)
   rw [List.length_range] at this
   show ((List.range g.nodes.length).filter _).length≤5000
   omega
theorem inH_len (now:List Int) : ∀ (F:List Nat) (s:HSt),(inH now F s).1.1.length=s.1.length
 | [],s=>rfl
 | y::r,s=>by
  show (bif s.2.contains y then (bif eqI2 (lkAt s.1 y) now then inH now r s else (s,some y)) else inH now r (s.1.set y (some now),s.2++[y])).1.1.length=s.1.length
  cases s.2.contains y with
  | true =>
   rw [cond_true]
   cases eqI2 (lkAt s.1 y) now with
   | true=>exact inH_len now r s
   | false=>rfl
  | false=>rw [cond_false]; exact (inH_len now r _).trans (List.length_set ..)
theorem outH_len (g:Gr) : ∀ (f:Nat) (s:HSt) (k:Nat),(outH g f s k).2 = -1→(outH g f s k).1.length=s.1.length
 | 0,s,k,h=>by cases h
 | f+1,s,k,h=>by
  change (match s.2[k]? with
  | none=>(s.1,-1)
  | some a=>match g.nodes[a]? with
   | none=>([],0)
   | some n=>match nowN n (lkAt s.1 a) with
    | none=>([],(a:Int))
    | some now=>contH (outH g f) (k+1) (inH now (fol g a) s)).2 = -1 at h
  show (match s.2[k]? with
  | none=>(s.1,-1)
  | some a=>match g.nodes[a]? with
   | none=>([],0)
   | some n=>match nowN n (lkAt s.1 a) with
    | none=>([],(a:Int))
    | some now=>contH (outH g f) (k+1) (inH now (fol g a) s)).1.length=s.1.length
  cases hk:s.2[k]? with
  | none=>rfl
  | some b =>
   rw [hk] at h
   simp only at h ⊢
   cases hn:g.nodes[b]? with
   | none=>rw [hn] at h; cases h
   | some n =>
    rw [hn] at h
    simp only at h ⊢
    cases hw:nowN n (lkAt s.1 b) with
    | none=>rw [hw] at h; simp only at h; omega
    | some now =>
     rw [hw] at h
     simp only at h ⊢
     have hi:=inH_len now (fol g b) s
     generalize inH now (fol g b) s=r at h hi ⊢
     obtain ⟨s',o⟩:=r
     cases o with
     | some y=>change (y:Int) = -1 at h; omega
     | none=>exact (outH_len g f s' (k+1) h).trans hi
theorem heldR_len (g:Gr) (hW:Whole g) (hs:(heldR g).2 = -1):(heldR g).1.length=g.nodes.length:=(outH_len g _ _ _ hs).trans (List.length_replicate ..)
theorem outH_or (g:Gr) : ∀ (f:Nat) (s:HSt) (k:Nat),(outH g f s k).2 = -1∨(outH g f s k).1=[]
 | 0,s,k => .inr rfl
 | f+1,s,k=>by
  show (match s.2[k]? with
  | none=>(s.1,-1)
  | some a=>match g.nodes[a]? with
   | none=>([],0)
   | some n=>match nowN n (lkAt s.1 a) with
    | none=>([],(a:Int))
    | some now=>contH (outH g f) (k+1) (inH now (fol g a) s)).2 = -1∨(match s.2[k]? with
  | none=>(s.1,-1)
  | some a=>match g.nodes[a]? with
   | none=>([],0)
   | some n=>match nowN n (lkAt s.1 a) with
    | none=>([],(a:Int))
    | some now=>contH (outH g f) (k+1) (inH now (fol g a) s)).1=[]
  cases s.2[k]? with
  | none=>exact .inl rfl
  | some b =>
   simp only
   cases g.nodes[b]? with
   | none=>exact .inr rfl
   | some n =>
    simp only
    cases nowN n (lkAt s.1 b) with
    | none=>exact .inr rfl
    | some now =>
     simp only
     generalize inH now (fol g b) s=r
     obtain ⟨s',o⟩:=r
     cases o with
     | some y=>exact .inr rfl
     | none=>exact outH_or g f s' (k+1)
theorem heldOC (g:Gr):(∃ b,K 31 [g.av] [] (.ret (.tup [.tr (ilistsT []),.tr (tb b)])) []) ∨ ∃ L b,K 31 [g.av] [] (.ret (.tup [.sl 0 L.length,.tr (tb b)])) [some (oB L [])]∧LBnd L:=by
 have w1:=k_whole g
 cases h:wholeB g with
 | false =>
  rw [h] at w1
  refine .inl ⟨false,?_⟩
  obtain ⟨name,locals,slots,nodes⟩:=g
  refine Ctr.of hT hmix Tryz.func31 rfl (fun _ _=>by kernel_rfl) rfl fun hok => ?_
  clear hok
  conv=>whnf
  refine acall.pure _ (w1) rfl rfl fun _ => ?_
  conv=>whnf
  exact ⟨⟨.inr ⟨rfl,_,_,rfl⟩,.inl rfl,trivial⟩,trivial⟩
 | true =>
  rw [h] at w1
  have hW:=whole_of h
  have hb:=heldR_most g hW
  have hm:=hW.most
  have hor:(heldR g).2 = -1∨(heldR g).1=[]:=outH_or g _ _ _
  by_cases hs:(heldR g).2 = -1
  ·have hlen:=heldR_len g hW hs
   refine .inr ⟨(heldR g).1,true,?_,by omega,fun j l e => ?_⟩
   ·rw [hlen]; exact k_HeldO g h hs
   ·have:=hb j l e; omega
  ·have he:=hor.resolve_left hs
   have h1:=k_heldR g hW
   rw [he] at h1
   clear hor hb he
   generalize (heldR g).2=q at h1 hs
   refine .inl ⟨decide (q<0),?_⟩
   clear hW hm
   obtain ⟨name,locals,slots,nodes⟩:=g
   refine Ctr.of hT hmix Tryz.func31 rfl (fun _ _=>by kernel_rfl) rfl fun hok => ?_
   clear hok
   conv=>whnf
   refine acall.pure _ (w1) rfl rfl fun _ => ?_
   conv=>whnf
   refine acall.pure _ (h1) rfl rfl fun _ => ?_
   conv=>whnf
   exact aut
end Go.Proofs.YthboippafkcoiaaGreatDoor.am
