/- The law CfgOwn. -/
import Derived.Test.YthboippafkcoiaaGreatDoorV14
set_option linter.all false
namespace Go.Proofs.YthboippafkcoiaaGreatDoor.am
open Go Go.Proofs
set_option linter.all false
theorem lnkh3 {a j:Nat} {x:Nat × Nat}:lnk [((a,j),x)] a j=some x:=by
 show (bif Nat.beq j j && Nat.beq a a then some x else none)=some x
 rw [show Nat.beq a a=true from Nat.beq_refl a,show Nat.beq j j=true from Nat.beq_refl j]; rfl
theorem setC_gr {gs:List Gr} {i:Nat} {g:Gr} (h:gs[i]? = some g) (ns:List Nd):setC (gs.map Gr.cells) i 3 (nodesT ns)=(gs.set i { g with nodes:=ns }).map Gr.cells:=by
 unfold setC
 rw [List.getElem?_map,h,List.map_set]; rfl
theorem setC_grS {gs:List Gr} {i:Nat} {g:Gr} (h:gs[i]? = some g) (ns:List Nd):setC ((gs.map Gr.cells).set i (g.cells.take 3++[.v (.slice none 0 0)]++g.cells.drop (3+1))) i 3 (nodesT ns)=(gs.set i { g with nodes:=ns }).map Gr.cells:=by
 have hi:i<(gs.map Gr.cells).length:=by rw [List.length_map]; exact (List.getElem?_eq_some_iff.1 h).1
 unfold setC
 rw [List.getElem?_set_self hi,List.set_set,List.map_set]; rfl
theorem lower_eq {p:Prg} {gs:List Gr} (h1:(checkW p).1=0) (h2:lowTs p 0 p.threads=some gs):lowerU p=(⟨p.shared,p.locks,gs⟩,0):=by
 unfold lowerU
 rw [h1,h2]; rfl
theorem setC_h {M:List (Option (List Int))} {i:Nat} {o:Option (List Int)} (h:M[i]? = some o) (l:List Int):setC (M.map hrow) i 0 (intsT l)=(M.set i (some l)).map hrow:=by
 unfold setC
 rw [List.getElem?_map,h,List.map_set]
 cases o <;> rfl
theorem setC_hS {M:List (Option (List Int))} {i:Nat} {o:Option (List Int)} (h:M[i]? = some o) (l:List Int):setC ((M.map hrow).set i ((hrow o).take 0++[.v (.slice none 0 0)]++(hrow o).drop (0+1))) i 0 (intsT l)=(M.set i (some l)).map hrow:=by
 have hi:i<(M.map hrow).length:=by rw [List.length_map]; exact (List.getElem?_eq_some_iff.1 h).1
 unfold setC
 rw [List.getElem?_set_self hi,List.set_set,List.map_set]
 cases o <;> rfl
set_option maxRecDepth 100000 in
set_option maxHeartbeats 4000000 in
theorem k_cown (p:Prg) (g:Gr):K 7 [p.av,g.av] [] (.ret (.tr (tb true))) []:=by
 have hbe:=k_beginsL
 obtain ⟨X,w,hX⟩ : ∃ (X:Option (List Gr)) (w:Int),match X with | none=>lowerU p=(⟨[],[],[]⟩,w) | some gs=>w=0∧(checkW p).1=0∧lowTs p 0 p.threads=some gs:=by
  rcases lower_or p with ⟨w,h⟩ | ⟨gs,h1,h2⟩
  ·exact ⟨none,w,h⟩
  ·exact ⟨some gs,0,rfl,h1,h2⟩
 have hlg:=k_lowerG p fun h th hth=>(check_wf h th hth).1
 refine Ctr.cut [4,5,13,17,18,20,21,22,30,38] hT hmix Tryz.func7 rfl (fun _ _=>by kernel_rfl) rfl fun hok => ?_
 obtain ⟨_,hb1,_⟩:=((hok.slot 0 rfl).agg _ (.head _)).tr.lst
 obtain ⟨_,hb3,_⟩:=((hok.slot 0 rfl).agg _ (.tail _ (.tail _ (.head _)))).tr.lst
 rw [List.length_map] at hb1 hb3
 clear hok
 conv=>whnf
 refine acall.pure _ (hbe) rfl rfl fun _ => ?_
 conv=>whnf
 refine CutL.by (fun _:Unit=>⟨[(2,.ptr 0 0),(3,.ptr 1 0),(5,.ptr 2 0),(6,.tr (ti w))],match (generalizing:=false) X with
  | none=>[(0,.cells 25 [.tr (declsT p.shared),.tr (declsT p.locks),.tr (threadsT p.threads)]),(1,grBl g),(2,bUn ⟨[],[],[]⟩)]
  | some gs0=>[(0,.cells 25 [.tr (declsT p.shared),.tr (declsT p.locks),.tr (threadsT p.threads)]),(1,grBl g),(2,.cells 29 [.sl 3 (p.shared.map Decl.cells).length,.tr (declsT p.locks),.sl 4 gs0.length]),(3,deO p.shared),(4,grO gs0)],30⟩) (fun _=>True) ?_ ?_
 ·cases X with
  | none =>
   have hX:lowerU p=(⟨[],[],[]⟩,w):=hX
   rw [hX] at hlg
   conv=>whnf
   refine acall.pure _ (hlg) rfl rfl fun _ => ?_
   conv=>whnf
   exact ⟨(),[_,_,_],[],Sub.aw,trivial⟩
  | some gs0 =>
   obtain ⟨rfl,h1,h2⟩:w=0∧(checkW p).1=0∧lowTs p 0 p.threads=some gs0:=hX
   have hl:=k_lowerO p gs0 h1 (fun th hth=>(check_wf h1 th hth).1) h2
   clear hlg
   conv=>whnf
   refine acall.new [] [] _ _ _ _ (hl) rfl rfl rfl rfl aut aut rfl rfl ?_
   conv=>whnf
   intro _
   conv=>whnf
   exact ⟨(),[_,_,_,_,_],[],Sub.aw,trivial⟩
 rintro - - -
 conv=>whnf
 refine CutL.by (fun _:Unit=>⟨[(2,.ptr 0 0),(3,.ptr 1 0),(5,.ptr 2 0),(6,.tr (ti w)),(7,.ptr 3 0)],match (generalizing:=false) X with
  | none=>[(0,.cells 25 [.tr (declsT p.shared),.tr (declsT p.locks),.tr (threadsT p.threads)]),(1,grBl g),(2,bUn ⟨[],[],[]⟩),(3,bUn ⟨[],[],[]⟩)]
  | some gs0=>[(0,.cells 25 [.tr (declsT p.shared),.tr (declsT p.locks),.tr (threadsT p.threads)]),(1,grBl g),(2,.cells 29 [.sl 4 (p.shared.map Decl.cells).length,.tr (declsT p.locks),.sl 5 gs0.length]),(3,.cells 29 [.sl 6 (p.shared.map Decl.cells).length,.sl 7 (p.locks.map Decl.cells).length,.sl 8 gs0.length]),(4,deO p.shared),(5,grO gs0),(6,deO p.shared),(7,deO p.locks),(8,grO gs0)],30⟩) (fun _=>True) ?_ ?_
 ·clear hX hlg
  cases X with
  | none =>
   have hc:=k_copyU ⟨[],[],[]⟩
   conv=>whnf
   refine acall.pure _ (hc) rfl rfl fun _ => ?_
   conv=>whnf
   exact ⟨(),[_,_,_,_],[],Sub.aw,trivial⟩
  | some gs0 =>
   have hc:=k_copyO ⟨p.shared,p.locks,gs0⟩
   conv=>whnf
   refine acall.new [] [3,4] _ _ _ _ (hc) rfl rfl rfl rfl ⟨⟨⟨rfl,Nat.le_refl _,tk_all _⟩,.inl rfl,⟨rfl,lenG _,tg_all _⟩,trivial⟩,trivial⟩ trivial rfl rfl ?_
   conv=>whnf
   intro _
   conv=>whnf
   exact ⟨(),[0,1,2,_,3,4,_,_,_],[],Sub.aw,trivial⟩
 rintro - - -
 conv=>whnf
 refine CutL.by (fun x:List Gr=>⟨[(2,.ptr 0 0),(3,.ptr 1 0),(5,.ptr 2 0),(6,.tr (ti w)),(7,.ptr 3 0)],match (generalizing:=false) X with
  | none=>[(0,.cells 25 [.tr (declsT p.shared),.tr (declsT p.locks),.tr (threadsT p.threads)]),(1,grBl g),(2,bUn ⟨[],[],[]⟩),(3,bUn ⟨[],[],[]⟩)]
  | some gs0=>[(0,.cells 25 [.tr (declsT p.shared),.tr (declsT p.locks),.tr (threadsT p.threads)]),(1,grBl g),(2,.cells 29 [.sl 4 (p.shared.map Decl.cells).length,.tr (declsT p.locks),.tr (graphsT x)]),(3,.cells 29 [.sl 5 (p.shared.map Decl.cells).length,.sl 6 (p.locks.map Decl.cells).length,.sl 7 gs0.length]),(4,deO p.shared),(5,deO p.shared),(6,deO p.locks),(7,grO gs0)],30⟩) (fun _=>True) ?_ ?_
 ·cases X with
  | none =>
   clear hX hlg
   conv=>whnf
   refine LoopL.by (fun _:Unit=>⟨[(2,.ptr 0 0),(3,.ptr 1 0),(5,.ptr 2 0),(6,.tr (ti w)),(7,.ptr 3 0),(8,.tr (ti (0:Nat)))],[(0,.cells 25 [.tr (declsT p.shared),.tr (declsT p.locks),.tr (threadsT p.threads)]),(1,grBl g),(2,bUn ⟨[],[],[]⟩),(3,bUn ⟨[],[],[]⟩)],30⟩) (fun _=>True) (fun _=>0) () [0,1,2,3] [] (Sub.mk' rfl aut aut rfl rfl) trivial ?_
   rintro - - -
   conv=>whnf
   refine ⟨fun _ => ?_,fun h=>absurd rfl h⟩
   conv=>whnf
   exact ⟨[],[0,1,2,3],[],Sub.mk' rfl aut aut rfl rfl,trivial⟩
  | some gs0 =>
   obtain ⟨_,h1,h2⟩:w=0∧(checkW p).1=0∧lowTs p 0 p.threads=some gs0:=hX
   have hfew:=lowTs_few p p.threads 0 gs0 h2
   have hgl0:=lowTs_len p p.threads 0 gs0 h2
   clear hlg h1 h2
   conv=>whnf
   refine LoopL.by (fun x:List Gr × Nat=>⟨[(2,.ptr 0 0),(3,.ptr 1 0),(5,.ptr 2 0),(6,.tr (ti w)),(7,.ptr 3 0),(8,.tr (ti (x.2:Nat)))],[(0,.cells 25 [.tr (declsT p.shared),.tr (declsT p.locks),.tr (threadsT p.threads)]),(1,grBl g),(2,.cells 29 [.sl 4 (p.shared.map Decl.cells).length,.tr (declsT p.locks),.sl 5 gs0.length]),(3,.cells 29 [.sl 6 (p.shared.map Decl.cells).length,.sl 7 (p.locks.map Decl.cells).length,.sl 8 gs0.length]),(4,deO p.shared),(5,grO x.1),(6,deO p.shared),(7,deO p.locks),(8,grO gs0)],30⟩) (fun x=>x.1.length=gs0.length∧x.2≤gs0.length ∧ ∀ j g,x.2≤j→x.1[j]? = some g→g.nodes.length≤4096) (fun x=>gs0.length - x.2) (gs0,0) [0,1,2,3,4,5,6,7,8] [] (Sub.mk' rfl aut aut rfl rfl) ⟨rfl,Nat.zero_le _,fun j g _ e=>hfew g (List.mem_of_getElem? e)⟩ ?_
   clear hfew
   rintro ⟨gs,i⟩ ⟨hl,hi,hb⟩ -
   simp only at hl hi hb
   conv=>whnf
   refine csplit (fun hit => ?_) (fun hit => ?_)
   ·replace hit:i<gs0.length:=by have:decide ((i:Int)<(gs0.length:Int))=true:=hit; have:=of_decide_eq_true this; omega
    obtain ⟨g0,hg0⟩ : ∃ g0,gs[i]? = some g0:=⟨_,List.getElem?_eq_getElem (by omega)⟩
    have hm:=hb i g0 (Nat.le_refl _) hg0
    conv=>whnf
    refine LoopL.by (fun x:List Gr × Nat=>⟨[(2,.ptr 0 0),(3,.ptr 1 0),(5,.ptr 2 0),(6,.tr (ti w)),(7,.ptr 3 0),(8,.tr (ti (i:Nat))),(9,.tr (ti (x.2:Nat)))],[(0,.cells 25 [.tr (declsT p.shared),.tr (declsT p.locks),.tr (threadsT p.threads)]),(1,grBl g),(2,.cells 29 [.sl 4 (p.shared.map Decl.cells).length,.tr (declsT p.locks),.sl 5 gs0.length]),(3,.cells 29 [.sl 6 (p.shared.map Decl.cells).length,.sl 7 (p.locks.map Decl.cells).length,.sl 8 gs0.length]),(4,deO p.shared),(5,grO x.1),(6,deO p.shared),(7,deO p.locks),(8,grO gs0)],30⟩) (fun x=>x.1.length=gs0.length∧x.2≤g0.nodes.length∧(∃ g1,x.1[i]? = some g1∧g1.nodes.length=g0.nodes.length) ∧ ∀ j g,i+1≤j→x.1[j]? = some g→g.nodes.length≤4096) (fun x=>g0.nodes.length - x.2) (gs,0) [0,1,2,3,4,5,6,7,8] [] (Sub.mk' rfl aut aut rfl rfl) ⟨hl,Nat.zero_le _,⟨g0,hg0,rfl⟩,fun j g hj=>hb j g (by omega)⟩ ?_
    clear hb hl hg0
    rintro ⟨gs,k⟩ ⟨hl,hk,⟨g1,hg1,hn1⟩,hb⟩ -
    simp only at hl hk hg1 hb
    have hgl:(gs.map Gr.cells).length=gs0.length:=by rw [List.length_map,hl]
    have hnl:(g1.nodes.map Nd.cells).length=g0.nodes.length:=by rw [List.length_map,hn1]
    conv=>whnf
    refine ⟨rfl,(show (0:Int)≤i by omega),(show (i:Int)<(gs0.length:Int) by omega),?_⟩
    conv=>whnf
    refine ⟨rfl,(by show i<(gs.map Gr.cells).length; omega),fun row hrow => ?_⟩
    obtain ⟨d,hd,rfl⟩:=gr_get hrow
    obtain rfl:=Option.some.inj (hg1.symm.trans hd)
    clear hrow hd
    refine ⟨(show 3<4 by decide),fun t ht => ?_⟩
    cases ht
    conv=>whnf
    refine ⟨(show 0<13 by decide),?_⟩
    conv=>whnf
    refine csplit (fun hkt => ?_) (fun hkt => ?_)
    ·replace hkt:k<g0.nodes.length:=by have:decide ((k:Int)<((g1.nodes.map Nd.cells).length:Int))=true:=hkt; have:=of_decide_eq_true this; omega
     conv=>whnf
     refine ⟨rfl,(show (0:Int)≤i by omega),(show (i:Int)<(gs0.length:Int) by omega),?_⟩
     conv=>whnf
     refine ⟨rfl,(by show i<(gs.map Gr.cells).length; omega),fun row hrow => ?_⟩
     obtain ⟨d,hd,rfl⟩:=gr_get hrow
     obtain rfl:=Option.some.inj (hg1.symm.trans hd)
     clear hrow hd
     refine ⟨(show 3<4 by decide),fun t ht => ?_⟩
     cases ht
     rw [lnkh3]
     conv=>whnf
     refine ⟨rfl,(show (0:Int)≤k by omega),(show (k:Int)<((g1.nodes.map Nd.cells).length:Int) by omega),?_⟩
     conv=>whnf
     refine ⟨rfl,rfl,rfl,(by show k<(g1.nodes.map Nd.cells).length; omega),trivial,fun row hrow => ?_⟩
     obtain ⟨d,hd,rfl⟩:=nd_get hrow
     clear hrow hd
     refine ⟨(show 0+13≤13 by decide),?_⟩
     conv=>whnf
     refine ⟨(gs.set i { g1 with nodes:=g1.nodes.set k nd00 },k+1),[0,1,2,3,4,5,6,7,8],[],Sub.pk [5] ?_,⟨by show (gs.set i _).length=_; rw [List.length_set]; exact hl,hkt,⟨_,List.getElem?_set_self (by omega),by show (g1.nodes.set k nd00).length=_; rw [List.length_set]; exact hn1⟩,fun j g hj e=>hb j g hj (by rwa [List.getElem?_set_ne (by omega)] at e)⟩,by show g0.nodes.length - (k+1)<g0.nodes.length - k; omega⟩
     conv=>whnf
     refine ⟨rfl,rfl,(by show _≤((g1.nodes.map Nd.cells).set k _).length; rw [List.length_set]; exact Nat.le_refl _),?_⟩
     refine Sub0.mk' rfl ⟨⟨rfl,rfl⟩,⟨rfl,rfl⟩,⟨rfl,rfl⟩,.inl rfl,⟨rfl,rfl⟩,.inl rfl,.inl (ti_succ hkt (by omega)),trivial⟩ ⟨aut,aut,aut,aut,aut,⟨rfl,rfl,rfl,rfl,.inl ?_⟩,aut,aut,aut,trivial⟩ rfl rfl
     have hr:((g1.nodes.map Nd.cells).set k (d.cells.take 0++nd00.cells++d.cells.drop (0+13))).take (g1.nodes.map Nd.cells).length=(g1.nodes.set k nd00).map Nd.cells:=by
      rw [List.take_of_length_le (by rw [List.length_set]; exact Nat.le_refl _),List.map_set]; rfl
     refine Eq.trans ?_ (setC_gr hg1 (g1.nodes.set k nd00))
     show setC (gs.map Gr.cells) i 3 (.lst 13 96 _)=setC (gs.map Gr.cells) i 3 (.lst 13 96 _)
     rw [← hr]; rfl
    ·replace hkt:g0.nodes.length≤k:=by have:decide ((k:Int)<((g1.nodes.map Nd.cells).length:Int))=false:=hkt; have:=of_decide_eq_false this; omega
     conv=>whnf
     refine ⟨fun _ => ?_,fun h=>absurd rfl h⟩
     conv=>whnf
     refine ⟨rfl,(show (0:Int)≤i by omega),(show (i:Int)<(gs0.length:Int) by omega),?_⟩
     conv=>whnf
     refine ⟨rfl,(by show i<(gs.map Gr.cells).length; omega),fun row hrow => ?_⟩
     obtain ⟨d,hd,rfl⟩:=gr_get hrow
     obtain rfl:=Option.some.inj (hg1.symm.trans hd)
     clear hrow hd
     refine ⟨(show 3<4 by decide),fun t ht => ?_⟩
     cases ht
     rw [lnkh3]
     conv=>whnf
     refine ⟨rfl,rfl,(show 1≤2 by decide),(by show ((g1.nodes.map Nd.cells).length+2)*96≤150000000000000; omega),trivial,nd_leaf [nd00,nd00],trivial,?_⟩
     conv=>whnf
     refine ⟨rfl,(show (0:Int)≤i by omega),(show (i:Int)<(gs0.length:Int) by omega),?_⟩
     conv=>whnf
     refine .inl ⟨rfl,rfl,rfl,(by show i<(gs.map Gr.cells).length; omega),⟨fun _=>rfl,trivial⟩,fun row hrow => ?_⟩
     obtain ⟨d,hd,rfl⟩:=gr_get hrow
     obtain rfl:=Option.some.inj (hg1.symm.trans hd)
     clear hrow hd
     refine ⟨(show 3+1≤4 by decide),?_⟩
     conv=>whnf
     refine ⟨by kernel_rfl,fun _ => ?_⟩
     conv=>whnf
     refine ⟨(gs.set i { g1 with nodes:=g1.nodes++[nd00,nd00] },i+1),[0,1,2,3,4,5,6,7,8],[],Sub.pk [5] ?_,⟨by show (gs.set i _).length=_; rw [List.length_set]; exact hl,hit,fun j g hj e=>hb j g hj (by rwa [List.getElem?_set_ne (by omega)] at e)⟩,by show gs0.length - (i+1)<gs0.length - i; omega⟩
     conv=>whnf
     refine ⟨rfl,rfl,(by show (g1.nodes.map Nd.cells).length+2≤(g1.nodes.map Nd.cells++[nd00,nd00].map Nd.cells).length; rw [List.length_append]; exact Nat.le_refl _),?_⟩
     refine Sub0.mk' rfl ⟨⟨rfl,rfl⟩,⟨rfl,rfl⟩,⟨rfl,rfl⟩,.inl rfl,⟨rfl,rfl⟩,.inl (ti_succ hit (by omega)),trivial⟩ ⟨aut,aut,aut,aut,aut,⟨rfl,rfl,rfl,rfl,.inl ?_⟩,aut,aut,aut,trivial⟩ rfl rfl
     have hr:((g1.nodes.map Nd.cells)++[nd00,nd00].map Nd.cells).take ((g1.nodes.map Nd.cells).length+2)=(g1.nodes++[nd00,nd00]).map Nd.cells:=by
      rw [List.take_of_length_le (by rw [List.length_append]; exact Nat.le_refl _),List.map_append]
     refine Eq.trans ?_ (setC_grS hg1 (g1.nodes++[nd00,nd00]))
     show setC _ i 3 (.lst 13 96 _)=setC _ i 3 (.lst 13 96 _)
     rw [← hr]; rfl
   ·replace hit:i=gs0.length:=by have:decide ((i:Int)<(gs0.length:Int))=false:=hit; have:=of_decide_eq_false this; omega
    subst hit
    conv=>whnf
    refine ⟨fun _ => ?_,fun h=>absurd rfl h⟩
    conv=>whnf
    exact ⟨gs,[0,1,2,3,4,6,7,8],[],Sub.mk' rfl aut ⟨aut,aut,⟨rfl,⟨rfl,rfl⟩,.inl rfl,⟨rfl,(by rw [← hl]; exact lenG gs),(by rw [← hl]; exact tg_all gs)⟩,trivial⟩,aut,aut,aut,aut,aut,trivial⟩ rfl rfl,trivial⟩
 rintro x - -
 conv=>whnf
 refine CutL.by (fun _:Unit=>⟨[(2,.ptr 0 0),(3,.ptr 1 0),(6,.tr (ti w)),(7,.ptr 2 0)],match (generalizing:=false) X with
  | none=>[(0,.cells 25 [.tr (declsT p.shared),.tr (declsT p.locks),.tr (threadsT p.threads)]),(1,grBl g),(2,bUn ⟨[],[],[]⟩)]
  | some gs0=>[(0,.cells 25 [.tr (declsT p.shared),.tr (declsT p.locks),.tr (threadsT p.threads)]),(1,grBl g),(2,.cells 29 [.sl 3 (p.shared.map Decl.cells).length,.sl 4 (p.locks.map Decl.cells).length,.sl 5 gs0.length]),(3,deO p.shared),(4,deO p.locks),(5,grO gs0)],30⟩) (fun _=>True) ?_ ?_
 ·clear hX hlg
  cases X with
  | none =>
   conv=>whnf
   refine LoopL.by (fun _:Unit=>⟨[(2,.ptr 0 0),(3,.ptr 1 0),(5,.ptr 2 0),(6,.tr (ti w)),(7,.ptr 3 0),(10,.tr (ti (0:Nat)))],[(0,.cells 25 [.tr (declsT p.shared),.tr (declsT p.locks),.tr (threadsT p.threads)]),(1,grBl g),(2,bUn ⟨[],[],[]⟩),(3,bUn ⟨[],[],[]⟩)],30⟩) (fun _=>True) (fun _=>0) () [0,1,2,3] [] (Sub.mk' rfl aut aut rfl rfl) trivial ?_
   rintro - - -
   conv=>whnf
   refine ⟨fun _ => ?_,fun h=>absurd rfl h⟩
   conv=>whnf
   exact ⟨(),[0,1,3],[],Sub.mk' rfl aut aut rfl rfl,trivial⟩
  | some gs0 =>
   conv=>whnf
   refine LoopL.by (fun y:List Decl × Nat=>⟨[(2,.ptr 0 0),(3,.ptr 1 0),(5,.ptr 2 0),(6,.tr (ti w)),(7,.ptr 3 0),(10,.tr (ti (y.2:Nat)))],[(0,.cells 25 [.tr (declsT p.shared),.tr (declsT p.locks),.tr (threadsT p.threads)]),(1,grBl g),(2,.cells 29 [.sl 4 (p.shared.map Decl.cells).length,.tr (declsT p.locks),.tr (graphsT x)]),(3,.cells 29 [.sl 5 (p.shared.map Decl.cells).length,.sl 6 (p.locks.map Decl.cells).length,.sl 7 gs0.length]),(4,deO y.1),(5,deO p.shared),(6,deO p.locks),(7,grO gs0)],30⟩) (fun y=>y.1.length=p.shared.length∧y.2≤p.shared.length) (fun y=>p.shared.length - y.2) (p.shared,0) [0,1,2,3,4,5,6,7] [] (Sub.mk' rfl aut aut rfl rfl) ⟨rfl,Nat.zero_le _⟩ ?_
   rintro ⟨ds,i⟩ ⟨hl,hi⟩ -
   simp only at hl hi
   have hls:(p.shared.map Decl.cells).length=p.shared.length:=List.length_map ..
   have hld:(ds.map Decl.cells).length=p.shared.length:=by rw [List.length_map,hl]
   conv=>whnf
   refine csplit (fun hit => ?_) (fun hit => ?_)
   ·replace hit:i<p.shared.length:=by have:decide ((i:Int)<((p.shared.map Decl.cells).length:Int))=true:=hit; have:=of_decide_eq_true this; omega
    conv=>whnf
    refine ⟨rfl,(show (0:Int)≤i by omega),(show (i:Int)<((p.shared.map Decl.cells).length:Int) by omega),?_⟩
    conv=>whnf
    refine ⟨rfl,rfl,rfl,(by show i<(ds.map Decl.cells).length; omega),trivial,fun row hrow => ?_⟩
    obtain ⟨d,hd,rfl⟩:=decl_get hrow
    clear hrow
    refine ⟨(show 0+1≤3 by decide),?_⟩
    conv=>whnf
    exact ⟨(ds.set i { d with name:=⟨#[103,111,110,101]⟩ },i+1),[0,1,2,3,4,5,6,7],[],Sub.mk' rfl ⟨⟨rfl,rfl⟩,⟨rfl,rfl⟩,⟨rfl,rfl⟩,.inl rfl,⟨rfl,rfl⟩,.inl (ti_succ hit (by omega)),trivial⟩ ⟨aut,aut,aut,aut,⟨rfl,rfl,rfl,rfl,.inl (by rw [List.map_set]; rfl)⟩,aut,aut,aut,trivial⟩ rfl rfl,⟨by show (ds.set i _).length=_; rw [List.length_set]; exact hl,hit⟩,by show p.shared.length - (i+1)<p.shared.length - i; omega⟩
   ·conv=>whnf
    refine ⟨fun _ => ?_,fun h=>absurd rfl h⟩
    conv=>whnf
    exact ⟨(),[0,1,3,5,6,7],[],Sub.mk' rfl aut aut rfl rfl,trivial⟩
 rintro - - -
 conv=>whnf
 refine CutL.by (fun _:Unit=>⟨[(2,.ptr 0 0),(3,.ptr 1 0),(6,.tr (ti w)),(7,.ptr 2 0),(11,.ptr 3 0),(12,.tr (ti w))],match (generalizing:=false) X with
  | none=>[(0,.cells 25 [.tr (declsT p.shared),.tr (declsT p.locks),.tr (threadsT p.threads)]),(1,grBl g),(2,bUn ⟨[],[],[]⟩),(3,bUn ⟨[],[],[]⟩)]
  | some gs0=>[(0,.cells 25 [.tr (declsT p.shared),.tr (declsT p.locks),.tr (threadsT p.threads)]),(1,grBl g),(2,.cells 29 [.sl 4 (p.shared.map Decl.cells).length,.sl 5 (p.locks.map Decl.cells).length,.sl 6 gs0.length]),(3,bUn ⟨p.shared,p.locks,gs0⟩),(4,deO p.shared),(5,deO p.locks),(6,grO gs0)],30⟩) (fun _=>True) ?_ ?_
 ·cases X with
  | none =>
   have hX:lowerU p=(⟨[],[],[]⟩,w):=hX
   rw [hX] at hlg
   conv=>whnf
   refine acall.pure _ (hlg) rfl rfl fun _ => ?_
   conv=>whnf
   exact ⟨(),[0,1,2,_],[],Sub.aw,trivial⟩
  | some gs0 =>
   obtain ⟨rfl,h1,h2⟩:w=0∧(checkW p).1=0∧lowTs p 0 p.threads=some gs0:=hX
   rw [lower_eq h1 h2] at hlg
   conv=>whnf
   refine acall.pure _ (hlg) rfl rfl fun _ => ?_
   conv=>whnf
   exact ⟨(),[0,1,2,_,3,4,5],[],Sub.aw,trivial⟩
 rintro - - -
 clear hX hlg
 conv=>whnf
 refine CutL.by (fun _:Unit=>⟨[(2,.ptr 0 0),(3,.ptr 1 0)],[(0,.cells 25 [.tr (declsT p.shared),.tr (declsT p.locks),.tr (threadsT p.threads)]),(1,grBl g)],30⟩) (fun _=>True) ?_ ?_
 ·have hww:(w != w)=false:=by simp
  cases X with
  | none =>
   have hsm:=k_rsameU ⟨[],[],[]⟩ ⟨[],[],[]⟩
   rw [unEq_refl] at hsm
   conv=>whnf
   rw [hww]
   conv=>whnf
   refine acall.pure _ (hsm) rfl rfl fun _ => ?_
   conv=>whnf
   exact ⟨(),[0,1],[],Sub.mk' rfl aut aut rfl rfl,trivial⟩
  | some gs0 =>
   have hsm:=k_rsameU ⟨p.shared,p.locks,gs0⟩ ⟨p.shared,p.locks,gs0⟩
   rw [unEq_refl] at hsm
   conv=>whnf
   rw [hww]
   conv=>whnf
   refine acall.gen [] [4,5,6] _ _ _ _ hsm rfl rfl rfl rfl ⟨aut,⟨⟨rfl,Nat.le_refl _,tk_all _⟩,⟨rfl,Nat.le_refl _,tk_all _⟩,⟨rfl,lenG _,tg_all _⟩,trivial⟩,trivial⟩ trivial rfl rfl fun _ => ?_
   conv=>whnf
   exact ⟨(),[0,1],[],Sub.mk' rfl aut aut rfl rfl,trivial⟩
 rintro - - -
 clear hbe hb1 hb3
 clear X w
 obtain ⟨AA,hA⟩ : ∃ AA:Option (List (Option (List Int))),match AA with | none=>K 21 [g.av] [] (.ret (.tr (ilistsT []))) [] | some L=>K 21 [g.av] [] (.ret (.sl 0 L.length)) [some (oB L [])]∧LBnd L:=by
  rcases aheadOC g with h | ⟨L,h1,h2⟩
  ·exact ⟨none,h⟩
  ·exact ⟨some L,h1,h2⟩
 obtain ⟨HH,b,hH⟩ : ∃ (HH:Option (List (Option (List Int)))) (b:Bool),match HH with | none=>K 31 [g.av] [] (.ret (.tup [.tr (ilistsT []),.tr (tb b)])) [] | some L=>K 31 [g.av] [] (.ret (.tup [.sl 0 L.length,.tr (tb b)])) [some (oB L [])]∧LBnd L:=by
  rcases heldOC g with ⟨b,h⟩ | ⟨L,b,h1,h2⟩
  ·exact ⟨none,b,h⟩
  ·exact ⟨some L,b,h1,h2⟩
 conv=>whnf
 refine CutL.by (fun _:Unit=>⟨match (generalizing:=false) AA with
  | none=>[(3,.ptr 0 0),(13,.tr (ilistsT []))]
  | some L=>[(3,.ptr 0 0),(13,.sl 1 L.length)],match (generalizing:=false) AA with
  | none=>[(0,grBl g)]
  | some L=>[(0,grBl g),(1,oB L [])],30⟩) (fun _=>True) ?_ ?_
 ·cases AA with
  | none =>
   have hA:K 21 [g.av] [] (.ret (.tr (ilistsT []))) []:=hA
   conv=>whnf
   refine acall.pure _ (hA) rfl rfl fun _ => ?_
   conv=>whnf
   exact ⟨(),[1],[],Sub.mk' rfl aut aut rfl rfl,trivial⟩
  | some L =>
   have hA:=hA.1
   conv=>whnf
   refine acall.new [] [] _ _ _ _ (hA) rfl rfl rfl rfl aut aut rfl rfl ?_
   conv=>whnf
   intro _
   conv=>whnf
   exact ⟨(),[1,_],[],Sub.aw,trivial⟩
 rintro - - -
 conv=>whnf
 refine CutL.by (fun _:Unit=>⟨match (generalizing:=false) AA,HH with
  | none,none=>[(3,.ptr 0 0),(13,.tr (ilistsT [])),(14,.tr (ilistsT []))]
  | none,some H=>[(3,.ptr 0 0),(13,.tr (ilistsT [])),(14,.sl 1 H.length)]
  | some L,none=>[(3,.ptr 0 0),(13,.sl 1 L.length),(14,.tr (ilistsT []))]
  | some L,some H=>[(3,.ptr 0 0),(13,.sl 1 L.length),(14,.sl 2 H.length)],match (generalizing:=false) AA,HH with
  | none,none=>[(0,grBl g)]
  | none,some H=>[(0,grBl g),(1,oB H [])]
  | some L,none=>[(0,grBl g),(1,oB L [])]
  | some L,some H=>[(0,grBl g),(1,oB L []),(2,oB H [])],30⟩) (fun _=>True) ?_ ?_
 ·cases HH with
  | none =>
   have hH:K 31 [g.av] [] (.ret (.tup [.tr (ilistsT []),.tr (tb b)])) []:=hH
   cases AA with
   | none =>
    conv=>whnf
    refine acall.pure _ (hH) rfl rfl fun _ => ?_
    conv=>whnf
    exact ⟨(),[0],[],Sub.mk' rfl aut aut rfl rfl,trivial⟩
   | some L =>
    conv=>whnf
    refine acall.pure _ (hH) rfl rfl fun _ => ?_
    conv=>whnf
    exact ⟨(),[0,1],[],Sub.mk' rfl aut aut rfl rfl,trivial⟩
  | some H =>
   have hH:=hH.1
   cases AA with
   | none =>
    conv=>whnf
    refine acall.new [] [] _ _ _ _ (hH) rfl rfl rfl rfl aut aut rfl rfl ?_
    conv=>whnf
    intro _
    conv=>whnf
    exact ⟨(),[0,_],[],Sub.aw,trivial⟩
   | some L =>
    conv=>whnf
    refine acall.new [] [] _ _ _ _ (hH) rfl rfl rfl rfl aut aut rfl rfl ?_
    conv=>whnf
    intro _
    conv=>whnf
    exact ⟨(),[0,1,_],[],Sub.aw,trivial⟩
 rintro - - -
 conv=>whnf
 refine CutL.by (fun _:Unit=>⟨match (generalizing:=false) HH with
  | none=>[(3,.ptr 0 0),(14,.tr (ilistsT []))]
  | some H=>[(3,.ptr 0 0),(14,.sl 1 H.length)],match (generalizing:=false) HH with
  | none=>[(0,grBl g)]
  | some H=>[(0,grBl g),(1,oB H [])],30⟩) (fun _=>True) ?_ ?_
 ·cases HH with
  | none =>
   clear hH
   cases AA with
   | none =>
    conv=>whnf
    refine LoopL.by (fun _:Unit=>⟨[(3,.ptr 0 0),(13,.tr (ilistsT [])),(14,.tr (ilistsT [])),(16,.tr (ti (0:Nat)))],[(0,grBl g)],30⟩) (fun _=>True) (fun _=>0) () [0] [] (Sub.mk' rfl aut aut rfl rfl) trivial ?_
    rintro - - -
    conv=>whnf
    refine ⟨fun _ => ?_,fun h=>absurd rfl h⟩
    conv=>whnf
    exact ⟨(),[0],[],Sub.mk' rfl aut aut rfl rfl,trivial⟩
   | some L =>
    obtain ⟨_,hL5,hLb⟩:=hA
    conv=>whnf
    refine LoopL.by (fun x:List (Option (List Int)) × Nat=>⟨[(3,.ptr 0 0),(13,.sl 1 L.length),(14,.tr (ilistsT [])),(16,.tr (ti (x.2:Nat)))],[(0,grBl g),(1,oB x.1 [])],30⟩) (fun x=>x.1.length=L.length∧x.2≤L.length ∧ ∀ (j:Nat) l,x.2≤j→x.1[j]? = some (some l)→l.length≤5000) (fun x=>L.length - x.2) (L,0) [0,1] [] (Sub.mk' rfl aut aut rfl rfl) ⟨rfl,Nat.zero_le _,fun j l _ e=>hLb j l e⟩ ?_
    clear hLb
    rintro ⟨M,i⟩ ⟨hl,hi,hb⟩ -
    simp only at hl hi hb
    conv=>whnf
    refine csplit (fun hit => ?_) (fun hit => ?_)
    ·replace hit:i<L.length:=by have:decide ((i:Int)<(L.length:Int))=true:=hit; have:=of_decide_eq_true this; omega
     obtain ⟨o,ho⟩ : ∃ o,M[i]? = some o:=⟨_,List.getElem?_eq_getElem (by omega)⟩
     obtain ⟨m,hm,hm5⟩ : ∃ m,(o.getD []).length=m∧m≤5000:=by
      refine ⟨_,rfl,?_⟩
      cases o with
      | none=>exact Nat.zero_le _
      | some l=>exact hb i l (Nat.le_refl _) ho
     conv=>whnf
     refine LoopL.by (fun x:List (Option (List Int)) × Nat=>⟨[(3,.ptr 0 0),(13,.sl 1 L.length),(14,.tr (ilistsT [])),(16,.tr (ti (i:Nat))),(17,.tr (ti (x.2:Nat)))],[(0,grBl g),(1,oB x.1 [])],30⟩) (fun x=>x.1.length=L.length∧x.2≤m∧(∃ o,x.1[i]? = some o∧(o.getD []).length=m) ∧ ∀ (j:Nat) l,i+1≤j→x.1[j]? = some (some l)→l.length≤5000) (fun x=>m - x.2) (M,0) [0,1] [] (Sub.mk' rfl aut aut rfl rfl) ⟨hl,Nat.zero_le _,⟨o,ho,hm⟩,fun j l hj=>hb j l (by omega)⟩ ?_
     clear hb hl ho hm
     rintro ⟨M,k⟩ ⟨hl,hk,⟨o,ho,hm⟩,hb⟩ -
     simp only at hl hk ho hb
     have hml:(M.map hrow).length=L.length:=by rw [List.length_map,hl]
     conv=>whnf
     refine ⟨rfl,(show (0:Int)≤i by omega),(show (i:Int)<(L.length:Int) by omega),?_⟩
     conv=>whnf
     refine ⟨rfl,(by show i<(M.map hrow).length; omega),fun row hrw => ?_⟩
     obtain ⟨d,hd,rfl⟩:=hrow_get hrw
     obtain rfl:=Option.some.inj (ho.symm.trans hd)
     clear hrw hd
     cases o with
     | none =>
      have hm:0=m:=hm
      subst hm
      refine ⟨(show 0<1 by decide),fun t ht => ?_⟩
      cases ht
      conv=>whnf
      ·refine ⟨fun _ => ?_,fun h=>absurd rfl h⟩
       conv=>whnf
       refine ⟨rfl,(show (0:Int)≤i by omega),(show (i:Int)<(L.length:Int) by omega),?_⟩
       conv=>whnf
       refine ⟨rfl,(by show i<(M.map hrow).length; omega),fun row hrw => ?_⟩
       obtain ⟨d,hd,rfl⟩:=hrow_get hrw
       obtain rfl:=Option.some.inj (ho.symm.trans hd)
       clear hrw hd
       refine ⟨(show 0<1 by decide),fun t ht => ?_⟩
       cases ht
       conv=>whnf
       refine ⟨(show 2*8≤150000000000000 by omega),?_⟩
       conv=>whnf
       refine ⟨rfl,(show (0:Int)≤i by omega),(show (i:Int)<(L.length:Int) by omega),?_⟩
       conv=>whnf
       refine ⟨rfl,rfl,rfl,(by show i<(M.map hrow).length; omega),trivial,fun row hrw => ?_⟩
       obtain ⟨d,hd,rfl⟩:=hrow_get hrw
       obtain rfl:=Option.some.inj (ho.symm.trans hd)
       clear hrw hd
       refine ⟨(show 0+1≤1 by decide),?_⟩
       conv=>whnf
       refine ⟨(M.set i (some [1,2]),i+1),[0,1],[],Sub.pk [1] ?_,⟨by show (M.set i _).length=_; rw [List.length_set]; exact hl,hit,fun j l hj e=>hb j l hj (by rwa [List.getElem?_set_ne (by omega)] at e)⟩,by show L.length - (i+1)<L.length - i; omega⟩
       conv=>whnf
       refine ⟨rfl,rfl,Nat.le_refl 2,leafIr [1,2],?_⟩
       exact Sub0.mk' rfl ⟨⟨rfl,rfl⟩,⟨rfl,rfl⟩,.inl rfl,.inl (ti_succ hit (by omega)),trivial⟩ ⟨aut,⟨rfl,rfl,rfl,rfl,.inl (setC_hS ho [1,2])⟩,trivial⟩ rfl rfl
     | some l =>
      have hm:l.length=m:=hm
      have hll:(l.map irow).length=l.length:=List.length_map ..
      refine ⟨(show 0<1 by decide),fun t ht => ?_⟩
      cases ht
      conv=>whnf
      refine ⟨(show 0<1 by decide),?_⟩
      conv=>whnf
      refine csplit (fun hkt => ?_) (fun hkt => ?_)
      ·replace hkt:k<l.length:=by have:decide ((k:Int)<((l.map irow).length:Int))=true:=hkt; have:=of_decide_eq_true this; omega
       conv=>whnf
       refine ⟨rfl,(show (0:Int)≤i by omega),(show (i:Int)<(L.length:Int) by omega),?_⟩
       conv=>whnf
       refine ⟨rfl,(by show i<(M.map hrow).length; omega),fun row hrw => ?_⟩
       obtain ⟨d,hd,rfl⟩:=hrow_get hrw
       obtain rfl:=Option.some.inj (ho.symm.trans hd)
       clear hrw hd
       refine ⟨(show 0<1 by decide),fun t ht => ?_⟩
       cases ht
       rw [lnkh3]
       conv=>whnf
       refine ⟨rfl,(show (0:Int)≤k by omega),(show (k:Int)<((l.map irow).length:Int) by omega),?_⟩
       conv=>whnf
       refine ⟨rfl,rfl,rfl,(by show k<(l.map irow).length; omega),trivial,fun row hrow => ?_⟩
       obtain ⟨d,hd,rfl⟩:=int_get hrow
       clear hrow hd
       refine ⟨(show 0+1≤1 by decide),?_⟩
       conv=>whnf
       refine ⟨(M.set i (some (l.set k (-7))),k+1),[0,1],[],Sub.pk [1] ?_,⟨by show (M.set i _).length=_; rw [List.length_set]; exact hl,by omega,⟨_,List.getElem?_set_self (by omega),by show (l.set k (-7)).length=_; rw [List.length_set]; exact hm⟩,fun j l hj e=>hb j l hj (by rwa [List.getElem?_set_ne (by omega)] at e)⟩,by show m - (k+1)<m - k; omega⟩
       conv=>whnf
       refine ⟨rfl,rfl,(by show _≤((l.map irow).set k _).length; rw [List.length_set]; exact Nat.le_refl _),?_⟩
       refine Sub0.mk' rfl ⟨⟨rfl,rfl⟩,⟨rfl,rfl⟩,.inl rfl,.inl rfl,.inl (ti_succ hkt (by omega)),trivial⟩ ⟨aut,⟨rfl,rfl,rfl,rfl,.inl ?_⟩,trivial⟩ rfl rfl
       have hr:((l.map irow).set k ((irow d).take 0++[ti (-7)]++(irow d).drop (0+1))).take (l.map irow).length=(l.set k (-7)).map irow:=by
        rw [List.take_of_length_le (by rw [List.length_set]; exact Nat.le_refl _),List.map_set]; rfl
       refine Eq.trans ?_ (setC_h ho (l.set k (-7)))
       show setC (M.map hrow) i 0 (.lst 1 8 _)=setC (M.map hrow) i 0 (.lst 1 8 _)
       rw [← hr]; rfl
      ·replace hkt:l.length≤k:=by have:decide ((k:Int)<((l.map irow).length:Int))=false:=hkt; have:=of_decide_eq_false this; omega
       conv=>whnf
       refine ⟨fun _ => ?_,fun h=>absurd rfl h⟩
       conv=>whnf
       refine ⟨rfl,(show (0:Int)≤i by omega),(show (i:Int)<(L.length:Int) by omega),?_⟩
       conv=>whnf
       refine ⟨rfl,(by show i<(M.map hrow).length; omega),fun row hrw => ?_⟩
       obtain ⟨d,hd,rfl⟩:=hrow_get hrw
       obtain rfl:=Option.some.inj (ho.symm.trans hd)
       clear hrw hd
       refine ⟨(show 0<1 by decide),fun t ht => ?_⟩
       cases ht
       rw [lnkh3]
       conv=>whnf
       refine ⟨rfl,rfl,(show 1≤2 by decide),(by show ((l.map irow).length+2)*8≤150000000000000; omega),trivial,leafIr [1,2],trivial,?_⟩
       conv=>whnf
       refine ⟨rfl,(show (0:Int)≤i by omega),(show (i:Int)<(L.length:Int) by omega),?_⟩
       conv=>whnf
       refine .inl ⟨rfl,rfl,rfl,(by show i<(M.map hrow).length; omega),⟨fun _=>rfl,trivial⟩,fun row hrw => ?_⟩
       obtain ⟨d,hd,rfl⟩:=hrow_get hrw
       obtain rfl:=Option.some.inj (ho.symm.trans hd)
       clear hrw hd
       refine ⟨(show 0+1≤1 by decide),?_⟩
       conv=>whnf
       refine ⟨(M.set i (some (l++[1,2])),i+1),[0,1],[],Sub.pk [1] ?_,⟨by show (M.set i _).length=_; rw [List.length_set]; exact hl,hit,fun j l hj e=>hb j l hj (by rwa [List.getElem?_set_ne (by omega)] at e)⟩,by show L.length - (i+1)<L.length - i; omega⟩
       conv=>whnf
       refine ⟨rfl,rfl,(by show (l.map irow).length+2≤(l.map irow++[1,2].map irow).length; rw [List.length_append]; exact Nat.le_refl _),?_⟩
       refine Sub0.mk' rfl ⟨⟨rfl,rfl⟩,⟨rfl,rfl⟩,.inl rfl,.inl (ti_succ hit (by omega)),trivial⟩ ⟨aut,⟨rfl,rfl,rfl,rfl,.inl ?_⟩,trivial⟩ rfl rfl
       have hr:((l.map irow)++[1,2].map irow).take ((l.map irow).length+2)=(l++[1,2]).map irow:=by
        rw [List.take_of_length_le (by rw [List.length_append]; exact Nat.le_refl _),List.map_append]
       refine Eq.trans ?_ (setC_hS ho (l++[1,2]))
       show setC _ i 0 (.lst 1 8 _)=setC _ i 0 (.lst 1 8 _)
       rw [← hr]; rfl
    ·conv=>whnf
     refine ⟨fun _ => ?_,fun h=>absurd rfl h⟩
     conv=>whnf
     exact ⟨(),[0],[],Sub.mk' rfl aut aut rfl rfl,trivial⟩
  | some H =>
   clear hH
   cases AA with
   | none =>
    conv=>whnf
    refine LoopL.by (fun _:Unit=>⟨[(3,.ptr 0 0),(13,.tr (ilistsT [])),(14,.sl 1 H.length),(16,.tr (ti (0:Nat)))],[(0,grBl g),(1,oB H [])],30⟩) (fun _=>True) (fun _=>0) () [0,1] [] (Sub.mk' rfl aut aut rfl rfl) trivial ?_
    rintro - - -
    conv=>whnf
    refine ⟨fun _ => ?_,fun h=>absurd rfl h⟩
    conv=>whnf
    exact ⟨(),[0,1],[],Sub.mk' rfl aut aut rfl rfl,trivial⟩
   | some L =>
    obtain ⟨_,hL5,hLb⟩:=hA
    conv=>whnf
    refine LoopL.by (fun x:List (Option (List Int)) × Nat=>⟨[(3,.ptr 0 0),(13,.sl 1 L.length),(14,.sl 2 H.length),(16,.tr (ti (x.2:Nat)))],[(0,grBl g),(1,oB x.1 []),(2,oB H [])],30⟩) (fun x=>x.1.length=L.length∧x.2≤L.length ∧ ∀ (j:Nat) l,x.2≤j→x.1[j]? = some (some l)→l.length≤5000) (fun x=>L.length - x.2) (L,0) [0,1,2] [] (Sub.mk' rfl aut aut rfl rfl) ⟨rfl,Nat.zero_le _,fun j l _ e=>hLb j l e⟩ ?_
    clear hLb
    rintro ⟨M,i⟩ ⟨hl,hi,hb⟩ -
    simp only at hl hi hb
    conv=>whnf
    refine csplit (fun hit => ?_) (fun hit => ?_)
    ·replace hit:i<L.length:=by have:decide ((i:Int)<(L.length:Int))=true:=hit; have:=of_decide_eq_true this; omega
     obtain ⟨o,ho⟩ : ∃ o,M[i]? = some o:=⟨_,List.getElem?_eq_getElem (by omega)⟩
     obtain ⟨m,hm,hm5⟩ : ∃ m,(o.getD []).length=m∧m≤5000:=by
      refine ⟨_,rfl,?_⟩
      cases o with
      | none=>exact Nat.zero_le _
      | some l=>exact hb i l (Nat.le_refl _) ho
     conv=>whnf
     refine LoopL.by (fun x:List (Option (List Int)) × Nat=>⟨[(3,.ptr 0 0),(13,.sl 1 L.length),(14,.sl 2 H.length),(16,.tr (ti (i:Nat))),(17,.tr (ti (x.2:Nat)))],[(0,grBl g),(1,oB x.1 []),(2,oB H [])],30⟩) (fun x=>x.1.length=L.length∧x.2≤m∧(∃ o,x.1[i]? = some o∧(o.getD []).length=m) ∧ ∀ (j:Nat) l,i+1≤j→x.1[j]? = some (some l)→l.length≤5000) (fun x=>m - x.2) (M,0) [0,1,2] [] (Sub.mk' rfl aut aut rfl rfl) ⟨hl,Nat.zero_le _,⟨o,ho,hm⟩,fun j l hj=>hb j l (by omega)⟩ ?_
     clear hb hl ho hm
     rintro ⟨M,k⟩ ⟨hl,hk,⟨o,ho,hm⟩,hb⟩ -
     simp only at hl hk ho hb
     have hml:(M.map hrow).length=L.length:=by rw [List.length_map,hl]
     conv=>whnf
     refine ⟨rfl,(show (0:Int)≤i by omega),(show (i:Int)<(L.length:Int) by omega),?_⟩
     conv=>whnf
     refine ⟨rfl,(by show i<(M.map hrow).length; omega),fun row hrw => ?_⟩
     obtain ⟨d,hd,rfl⟩:=hrow_get hrw
     obtain rfl:=Option.some.inj (ho.symm.trans hd)
     clear hrw hd
     cases o with
     | none =>
      have hm:0=m:=hm
      subst hm
      refine ⟨(show 0<1 by decide),fun t ht => ?_⟩
      cases ht
      conv=>whnf
      ·refine ⟨fun _ => ?_,fun h=>absurd rfl h⟩
       conv=>whnf
       refine ⟨rfl,(show (0:Int)≤i by omega),(show (i:Int)<(L.length:Int) by omega),?_⟩
       conv=>whnf
       refine ⟨rfl,(by show i<(M.map hrow).length; omega),fun row hrw => ?_⟩
       obtain ⟨d,hd,rfl⟩:=hrow_get hrw
       obtain rfl:=Option.some.inj (ho.symm.trans hd)
       clear hrw hd
       refine ⟨(show 0<1 by decide),fun t ht => ?_⟩
       cases ht
       conv=>whnf
       refine ⟨(show 2*8≤150000000000000 by omega),?_⟩
       conv=>whnf
       refine ⟨rfl,(show (0:Int)≤i by omega),(show (i:Int)<(L.length:Int) by omega),?_⟩
       conv=>whnf
       refine ⟨rfl,rfl,rfl,(by show i<(M.map hrow).length; omega),trivial,fun row hrw => ?_⟩
       obtain ⟨d,hd,rfl⟩:=hrow_get hrw
       obtain rfl:=Option.some.inj (ho.symm.trans hd)
       clear hrw hd
       refine ⟨(show 0+1≤1 by decide),?_⟩
       conv=>whnf
       refine ⟨(M.set i (some [1,2]),i+1),[0,1,2],[],Sub.pk [1] ?_,⟨by show (M.set i _).length=_; rw [List.length_set]; exact hl,hit,fun j l hj e=>hb j l hj (by rwa [List.getElem?_set_ne (by omega)] at e)⟩,by show L.length - (i+1)<L.length - i; omega⟩
       conv=>whnf
       refine ⟨rfl,rfl,Nat.le_refl 2,leafIr [1,2],?_⟩
       exact Sub0.mk' rfl ⟨⟨rfl,rfl⟩,⟨rfl,rfl⟩,⟨rfl,rfl⟩,.inl (ti_succ hit (by omega)),trivial⟩ ⟨aut,⟨rfl,rfl,rfl,rfl,.inl (setC_hS ho [1,2])⟩,aut,trivial⟩ rfl rfl
     | some l =>
      have hm:l.length=m:=hm
      have hll:(l.map irow).length=l.length:=List.length_map ..
      refine ⟨(show 0<1 by decide),fun t ht => ?_⟩
      cases ht
      conv=>whnf
      refine ⟨(show 0<1 by decide),?_⟩
      conv=>whnf
      refine csplit (fun hkt => ?_) (fun hkt => ?_)
      ·replace hkt:k<l.length:=by have:decide ((k:Int)<((l.map irow).length:Int))=true:=hkt; have:=of_decide_eq_true this; omega
       conv=>whnf
       refine ⟨rfl,(show (0:Int)≤i by omega),(show (i:Int)<(L.length:Int) by omega),?_⟩
       conv=>whnf
       refine ⟨rfl,(by show i<(M.map hrow).length; omega),fun row hrw => ?_⟩
       obtain ⟨d,hd,rfl⟩:=hrow_get hrw
       obtain rfl:=Option.some.inj (ho.symm.trans hd)
       clear hrw hd
       refine ⟨(show 0<1 by decide),fun t ht => ?_⟩
       cases ht
       rw [lnkh3]
       conv=>whnf
       refine ⟨rfl,(show (0:Int)≤k by omega),(show (k:Int)<((l.map irow).length:Int) by omega),?_⟩
       conv=>whnf
       refine ⟨rfl,rfl,rfl,(by show k<(l.map irow).length; omega),trivial,fun row hrow => ?_⟩
       obtain ⟨d,hd,rfl⟩:=int_get hrow
       clear hrow hd
       refine ⟨(show 0+1≤1 by decide),?_⟩
       conv=>whnf
       refine ⟨(M.set i (some (l.set k (-7))),k+1),[0,1,2],[],Sub.pk [1] ?_,⟨by show (M.set i _).length=_; rw [List.length_set]; exact hl,by omega,⟨_,List.getElem?_set_self (by omega),by show (l.set k (-7)).length=_; rw [List.length_set]; exact hm⟩,fun j l hj e=>hb j l hj (by rwa [List.getElem?_set_ne (by omega)] at e)⟩,by show m - (k+1)<m - k; omega⟩
       conv=>whnf
       refine ⟨rfl,rfl,(by show _≤((l.map irow).set k _).length; rw [List.length_set]; exact Nat.le_refl _),?_⟩
       refine Sub0.mk' rfl ⟨⟨rfl,rfl⟩,⟨rfl,rfl⟩,⟨rfl,rfl⟩,.inl rfl,.inl (ti_succ hkt (by omega)),trivial⟩ ⟨aut,⟨rfl,rfl,rfl,rfl,.inl ?_⟩,aut,trivial⟩ rfl rfl
       have hr:((l.map irow).set k ((irow d).take 0++[ti (-7)]++(irow d).drop (0+1))).take (l.map irow).length=(l.set k (-7)).map irow:=by
        rw [List.take_of_length_le (by rw [List.length_set]; exact Nat.le_refl _),List.map_set]; rfl
       refine Eq.trans ?_ (setC_h ho (l.set k (-7)))
       show setC (M.map hrow) i 0 (.lst 1 8 _)=setC (M.map hrow) i 0 (.lst 1 8 _)
       rw [← hr]; rfl
      ·replace hkt:l.length≤k:=by have:decide ((k:Int)<((l.map irow).length:Int))=false:=hkt; have:=of_decide_eq_false this; omega
       conv=>whnf
       refine ⟨fun _ => ?_,fun h=>absurd rfl h⟩
       conv=>whnf
       refine ⟨rfl,(show (0:Int)≤i by omega),(show (i:Int)<(L.length:Int) by omega),?_⟩
       conv=>whnf
       refine ⟨rfl,(by show i<(M.map hrow).length; omega),fun row hrw => ?_⟩
       obtain ⟨d,hd,rfl⟩:=hrow_get hrw
       obtain rfl:=Option.some.inj (ho.symm.trans hd)
       clear hrw hd
       refine ⟨(show 0<1 by decide),fun t ht => ?_⟩
       cases ht
       rw [lnkh3]
       conv=>whnf
       refine ⟨rfl,rfl,(show 1≤2 by decide),(by show ((l.map irow).length+2)*8≤150000000000000; omega),trivial,leafIr [1,2],trivial,?_⟩
       conv=>whnf
       refine ⟨rfl,(show (0:Int)≤i by omega),(show (i:Int)<(L.length:Int) by omega),?_⟩
       conv=>whnf
       refine .inl ⟨rfl,rfl,rfl,(by show i<(M.map hrow).length; omega),⟨fun _=>rfl,trivial⟩,fun row hrw => ?_⟩
       obtain ⟨d,hd,rfl⟩:=hrow_get hrw
       obtain rfl:=Option.some.inj (ho.symm.trans hd)
       clear hrw hd
       refine ⟨(show 0+1≤1 by decide),?_⟩
       conv=>whnf
       refine ⟨(M.set i (some (l++[1,2])),i+1),[0,1,2],[],Sub.pk [1] ?_,⟨by show (M.set i _).length=_; rw [List.length_set]; exact hl,hit,fun j l hj e=>hb j l hj (by rwa [List.getElem?_set_ne (by omega)] at e)⟩,by show L.length - (i+1)<L.length - i; omega⟩
       conv=>whnf
       refine ⟨rfl,rfl,(by show (l.map irow).length+2≤(l.map irow++[1,2].map irow).length; rw [List.length_append]; exact Nat.le_refl _),?_⟩
       refine Sub0.mk' rfl ⟨⟨rfl,rfl⟩,⟨rfl,rfl⟩,⟨rfl,rfl⟩,.inl (ti_succ hit (by omega)),trivial⟩ ⟨aut,⟨rfl,rfl,rfl,rfl,.inl ?_⟩,aut,trivial⟩ rfl rfl
       have hr:((l.map irow)++[1,2].map irow).take ((l.map irow).length+2)=(l++[1,2]).map irow:=by
        rw [List.take_of_length_le (by rw [List.length_append]; exact Nat.le_refl _),List.map_append]
       refine Eq.trans ?_ (setC_hS ho (l++[1,2]))
       show setC _ i 0 (.lst 1 8 _)=setC _ i 0 (.lst 1 8 _)
       rw [← hr]; rfl
    ·conv=>whnf
     refine ⟨fun _ => ?_,fun h=>absurd rfl h⟩
     conv=>whnf
     exact ⟨(),[0,2],[],Sub.mk' rfl aut aut rfl rfl,trivial⟩
 rintro - - -
 clear hA
 conv=>whnf
 refine CutL.by (fun _:Unit=>⟨[(3,.ptr 0 0)],[(0,grBl g)],30⟩) (fun _=>True) ?_ ?_
 ·cases HH with
  | none =>
   clear hH
   conv=>whnf
   refine LoopL.by (fun _:Unit=>⟨[(3,.ptr 0 0),(14,.tr (ilistsT [])),(18,.tr (ti (0:Nat)))],[(0,grBl g)],30⟩) (fun _=>True) (fun _=>0) () [0] [] (Sub.mk' rfl aut aut rfl rfl) trivial ?_
   rintro - - -
   conv=>whnf
   refine ⟨fun _ => ?_,fun h=>absurd rfl h⟩
   conv=>whnf
   exact ⟨(),[0],[],Sub.mk' rfl aut aut rfl rfl,trivial⟩
  | some L =>
   obtain ⟨_,hL5,hLb⟩:=hH
   conv=>whnf
   refine LoopL.by (fun x:List (Option (List Int)) × Nat=>⟨[(3,.ptr 0 0),(14,.sl 1 L.length),(18,.tr (ti (x.2:Nat)))],[(0,grBl g),(1,oB x.1 [])],30⟩) (fun x=>x.1.length=L.length∧x.2≤L.length ∧ ∀ (j:Nat) l,x.2≤j→x.1[j]? = some (some l)→l.length≤5000) (fun x=>L.length - x.2) (L,0) [0,1] [] (Sub.mk' rfl aut aut rfl rfl) ⟨rfl,Nat.zero_le _,fun j l _ e=>hLb j l e⟩ ?_
   clear hLb
   rintro ⟨M,i⟩ ⟨hl,hi,hb⟩ -
   simp only at hl hi hb
   conv=>whnf
   refine csplit (fun hit => ?_) (fun hit => ?_)
   ·replace hit:i<L.length:=by have:decide ((i:Int)<(L.length:Int))=true:=hit; have:=of_decide_eq_true this; omega
    obtain ⟨o,ho⟩ : ∃ o,M[i]? = some o:=⟨_,List.getElem?_eq_getElem (by omega)⟩
    obtain ⟨m,hm,hm5⟩ : ∃ m,(o.getD []).length=m∧m≤5000:=by
     refine ⟨_,rfl,?_⟩
     cases o with
     | none=>exact Nat.zero_le _
     | some l=>exact hb i l (Nat.le_refl _) ho
    conv=>whnf
    refine LoopL.by (fun x:List (Option (List Int)) × Nat=>⟨[(3,.ptr 0 0),(14,.sl 1 L.length),(18,.tr (ti (i:Nat))),(19,.tr (ti (x.2:Nat)))],[(0,grBl g),(1,oB x.1 [])],30⟩) (fun x=>x.1.length=L.length∧x.2≤m∧(∃ o,x.1[i]? = some o∧(o.getD []).length=m) ∧ ∀ (j:Nat) l,i+1≤j→x.1[j]? = some (some l)→l.length≤5000) (fun x=>m - x.2) (M,0) [0,1] [] (Sub.mk' rfl aut aut rfl rfl) ⟨hl,Nat.zero_le _,⟨o,ho,hm⟩,fun j l hj=>hb j l (by omega)⟩ ?_
    clear hb hl ho hm
    rintro ⟨M,k⟩ ⟨hl,hk,⟨o,ho,hm⟩,hb⟩ -
    simp only at hl hk ho hb
    have hml:(M.map hrow).length=L.length:=by rw [List.length_map,hl]
    conv=>whnf
    refine ⟨rfl,(show (0:Int)≤i by omega),(show (i:Int)<(L.length:Int) by omega),?_⟩
    conv=>whnf
    refine ⟨rfl,(by show i<(M.map hrow).length; omega),fun row hrw => ?_⟩
    obtain ⟨d,hd,rfl⟩:=hrow_get hrw
    obtain rfl:=Option.some.inj (ho.symm.trans hd)
    clear hrw hd
    cases o with
    | none =>
     have hm:0=m:=hm
     subst hm
     refine ⟨(show 0<1 by decide),fun t ht => ?_⟩
     cases ht
     conv=>whnf
     ·refine ⟨fun _ => ?_,fun h=>absurd rfl h⟩
      conv=>whnf
      refine ⟨rfl,(show (0:Int)≤i by omega),(show (i:Int)<(L.length:Int) by omega),?_⟩
      conv=>whnf
      refine ⟨rfl,(by show i<(M.map hrow).length; omega),fun row hrw => ?_⟩
      obtain ⟨d,hd,rfl⟩:=hrow_get hrw
      obtain rfl:=Option.some.inj (ho.symm.trans hd)
      clear hrw hd
      refine ⟨(show 0<1 by decide),fun t ht => ?_⟩
      cases ht
      conv=>whnf
      refine ⟨(show 2*8≤150000000000000 by omega),?_⟩
      conv=>whnf
      refine ⟨rfl,(show (0:Int)≤i by omega),(show (i:Int)<(L.length:Int) by omega),?_⟩
      conv=>whnf
      refine ⟨rfl,rfl,rfl,(by show i<(M.map hrow).length; omega),trivial,fun row hrw => ?_⟩
      obtain ⟨d,hd,rfl⟩:=hrow_get hrw
      obtain rfl:=Option.some.inj (ho.symm.trans hd)
      clear hrw hd
      refine ⟨(show 0+1≤1 by decide),?_⟩
      conv=>whnf
      refine ⟨(M.set i (some [1,2]),i+1),[0,1],[],Sub.pk [1] ?_,⟨by show (M.set i _).length=_; rw [List.length_set]; exact hl,hit,fun j l hj e=>hb j l hj (by rwa [List.getElem?_set_ne (by omega)] at e)⟩,by show L.length - (i+1)<L.length - i; omega⟩
      conv=>whnf
      refine ⟨rfl,rfl,Nat.le_refl 2,leafIr [1,2],?_⟩
      exact Sub0.mk' rfl ⟨⟨rfl,rfl⟩,⟨rfl,rfl⟩,.inl (ti_succ hit (by omega)),trivial⟩ ⟨aut,⟨rfl,rfl,rfl,rfl,.inl (setC_hS ho [1,2])⟩,trivial⟩ rfl rfl
    | some l =>
     have hm:l.length=m:=hm
     have hll:(l.map irow).length=l.length:=List.length_map ..
     refine ⟨(show 0<1 by decide),fun t ht => ?_⟩
     cases ht
     conv=>whnf
     refine ⟨(show 0<1 by decide),?_⟩
     conv=>whnf
     refine csplit (fun hkt => ?_) (fun hkt => ?_)
     ·replace hkt:k<l.length:=by have:decide ((k:Int)<((l.map irow).length:Int))=true:=hkt; have:=of_decide_eq_true this; omega
      conv=>whnf
      refine ⟨rfl,(show (0:Int)≤i by omega),(show (i:Int)<(L.length:Int) by omega),?_⟩
      conv=>whnf
      refine ⟨rfl,(by show i<(M.map hrow).length; omega),fun row hrw => ?_⟩
      obtain ⟨d,hd,rfl⟩:=hrow_get hrw
      obtain rfl:=Option.some.inj (ho.symm.trans hd)
      clear hrw hd
      refine ⟨(show 0<1 by decide),fun t ht => ?_⟩
      cases ht
      rw [lnkh3]
      conv=>whnf
      refine ⟨rfl,(show (0:Int)≤k by omega),(show (k:Int)<((l.map irow).length:Int) by omega),?_⟩
      conv=>whnf
      refine ⟨rfl,rfl,rfl,(by show k<(l.map irow).length; omega),trivial,fun row hrow => ?_⟩
      obtain ⟨d,hd,rfl⟩:=int_get hrow
      clear hrow hd
      refine ⟨(show 0+1≤1 by decide),?_⟩
      conv=>whnf
      refine ⟨(M.set i (some (l.set k (-7))),k+1),[0,1],[],Sub.pk [1] ?_,⟨by show (M.set i _).length=_; rw [List.length_set]; exact hl,by omega,⟨_,List.getElem?_set_self (by omega),by show (l.set k (-7)).length=_; rw [List.length_set]; exact hm⟩,fun j l hj e=>hb j l hj (by rwa [List.getElem?_set_ne (by omega)] at e)⟩,by show m - (k+1)<m - k; omega⟩
      conv=>whnf
      refine ⟨rfl,rfl,(by show _≤((l.map irow).set k _).length; rw [List.length_set]; exact Nat.le_refl _),?_⟩
      refine Sub0.mk' rfl ⟨⟨rfl,rfl⟩,⟨rfl,rfl⟩,.inl rfl,.inl (ti_succ hkt (by omega)),trivial⟩ ⟨aut,⟨rfl,rfl,rfl,rfl,.inl ?_⟩,trivial⟩ rfl rfl
      have hr:((l.map irow).set k ((irow d).take 0++[ti (-7)]++(irow d).drop (0+1))).take (l.map irow).length=(l.set k (-7)).map irow:=by
       rw [List.take_of_length_le (by rw [List.length_set]; exact Nat.le_refl _),List.map_set]; rfl
      refine Eq.trans ?_ (setC_h ho (l.set k (-7)))
      show setC (M.map hrow) i 0 (.lst 1 8 _)=setC (M.map hrow) i 0 (.lst 1 8 _)
      rw [← hr]; rfl
     ·replace hkt:l.length≤k:=by have:decide ((k:Int)<((l.map irow).length:Int))=false:=hkt; have:=of_decide_eq_false this; omega
      conv=>whnf
      refine ⟨fun _ => ?_,fun h=>absurd rfl h⟩
      conv=>whnf
      refine ⟨rfl,(show (0:Int)≤i by omega),(show (i:Int)<(L.length:Int) by omega),?_⟩
      conv=>whnf
      refine ⟨rfl,(by show i<(M.map hrow).length; omega),fun row hrw => ?_⟩
      obtain ⟨d,hd,rfl⟩:=hrow_get hrw
      obtain rfl:=Option.some.inj (ho.symm.trans hd)
      clear hrw hd
      refine ⟨(show 0<1 by decide),fun t ht => ?_⟩
      cases ht
      rw [lnkh3]
      conv=>whnf
      refine ⟨rfl,rfl,(show 1≤2 by decide),(by show ((l.map irow).length+2)*8≤150000000000000; omega),trivial,leafIr [1,2],trivial,?_⟩
      conv=>whnf
      refine ⟨rfl,(show (0:Int)≤i by omega),(show (i:Int)<(L.length:Int) by omega),?_⟩
      conv=>whnf
      refine .inl ⟨rfl,rfl,rfl,(by show i<(M.map hrow).length; omega),⟨fun _=>rfl,trivial⟩,fun row hrw => ?_⟩
      obtain ⟨d,hd,rfl⟩:=hrow_get hrw
      obtain rfl:=Option.some.inj (ho.symm.trans hd)
      clear hrw hd
      refine ⟨(show 0+1≤1 by decide),?_⟩
      conv=>whnf
      refine ⟨(M.set i (some (l++[1,2])),i+1),[0,1],[],Sub.pk [1] ?_,⟨by show (M.set i _).length=_; rw [List.length_set]; exact hl,hit,fun j l hj e=>hb j l hj (by rwa [List.getElem?_set_ne (by omega)] at e)⟩,by show L.length - (i+1)<L.length - i; omega⟩
      conv=>whnf
      refine ⟨rfl,rfl,(by show (l.map irow).length+2≤(l.map irow++[1,2].map irow).length; rw [List.length_append]; exact Nat.le_refl _),?_⟩
      refine Sub0.mk' rfl ⟨⟨rfl,rfl⟩,⟨rfl,rfl⟩,.inl (ti_succ hit (by omega)),trivial⟩ ⟨aut,⟨rfl,rfl,rfl,rfl,.inl ?_⟩,trivial⟩ rfl rfl
      have hr:((l.map irow)++[1,2].map irow).take ((l.map irow).length+2)=(l++[1,2]).map irow:=by
       rw [List.take_of_length_le (by rw [List.length_append]; exact Nat.le_refl _),List.map_append]
      refine Eq.trans ?_ (setC_hS ho (l++[1,2]))
      show setC _ i 0 (.lst 1 8 _)=setC _ i 0 (.lst 1 8 _)
      rw [← hr]; rfl
   ·conv=>whnf
    refine ⟨fun _ => ?_,fun h=>absurd rfl h⟩
    conv=>whnf
    exact ⟨(),[0],[],Sub.mk' rfl aut aut rfl rfl,trivial⟩
 rintro - - -
 obtain ⟨A,hA1,hA2⟩:=aheadC g
 obtain ⟨H,B,hH1,hH2⟩:=heldC g
 have hL1:=k_lists A
 have hL2:=k_lists H
 conv=>whnf
 refine acall.pure _ (hH2) rfl rfl fun _ => ?_
 conv=>whnf
 refine acall.pure _ (hH1) rfl rfl fun _ => ?_
 conv=>whnf
 refine acall.pure _ (hA1) rfl rfl ?_
 conv=>whnf
 refine acall.pure _ (hA2) rfl rfl ?_
 conv=>whnf
 refine acall.pure _ (hL1) rfl rfl ?_
 conv=>whnf
 refine acall.pure _ (hL2) rfl rfl ?_
 conv=>whnf
 refine ⟨by kernel_rfl,fun _ => ?_⟩
 conv=>whnf
 exact aut
end Go.Proofs.YthboippafkcoiaaGreatDoor.am
