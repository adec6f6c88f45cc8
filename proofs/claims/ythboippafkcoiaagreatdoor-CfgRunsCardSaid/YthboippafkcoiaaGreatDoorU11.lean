/- Contract of cfg's Lower. Plain: what lowering makes, told by places: the nodes of an expression and of a statement at a place, with the place to -/
import Derived.Test.YthboippafkcoiaaGreatDoorU10
import Derived.Test.YthboippafkcoiaaGreatDoorU5
import Derived.Test.YthboippafkcoiaaGreatDoorU8
set_option linter.all false
namespace Go.Proofs.YthboippafkcoiaaGreatDoor.am
open Go Go.Proofs
set_option linter.all false
def thrC (p:Prg) (t:Nat) (th:Thread):LowC:=⟨p,t,th.name,((th.locals.map Decl.cells).length:Nat)⟩
def low0 (th:Thread):LowS:=⟨((th.locals.map Decl.cells).length:Nat),[],[],false⟩
def endS (s:LowS):LowS:=bif s.over then s else putS { nd00 with kind:=9 } s
def zeroLast (l:List Nd):List Nd:=match l[l.length - 1]? with
 | some n=>l.set (l.length - 1) { n with next:=0 }
 | none=>l
def grS (c:LowC) (s:LowS):Gr:=⟨c.name,c.loc,s.slots,zeroLast s.nodes⟩
def lowTs (p:Prg):Nat→List Thread→Option (List Gr)
 | _,[]=>some []
 | i,th::r=>bif (endS (blockS (thrC p i th) th.body (low0 th))).over then none else match lowTs p (i+1) r with
  | some l=>some (grS (thrC p i th) (endS (blockS (thrC p i th) th.body (low0 th)))::l)
  | none=>none
def outU (p:Prg):Option (List Gr)→Un × Int
 | none=>(⟨[],[],[]⟩,3)
 | some l=>(⟨p.shared,p.locks,l⟩,0)
def lowerU (p:Prg):Un × Int:=bif (checkW p).1 != 0 then (⟨[],[],[]⟩,(checkW p).1) else outU p (lowTs p 0 p.threads)
def contG (gs:List Gr):Option (List Gr)→Option (List Gr)
 | none=>none
 | some l=>some (gs++l)
theorem low0_ok (th:Thread):OkA (low0 th):=⟨fun o h=>(by cases h),Nat.zero_le _,Nat.zero_le _⟩
theorem endS_rel (s:LowS):RelE s (endS s):=by
 unfold endS
 cases s.over with
 | true=>exact .refl s
 | false=>exact putS_rel _ _
theorem endS_pos {s:LowS} (h:(endS s).over=false):1≤(endS s).nodes.length:=by
 unfold endS at h ⊢
 cases ho:s.over with
 | true=>rw [ho,cond_true,ho] at h; cases h
 | false =>
  rw [ho,cond_false] at h
  rw [cond_false]
  cases hb:decide ((s.nodes.length:Int) ≥ 4096) with
  | true=>rw [putS_big _ hb] at h; cases h
  | false=>rw [putS_len _ hb]; omega
theorem thr_get {l:List Thread} {i:Nat} {row:List Tr} (h:(l.map Thread.cells)[i]? = some row) : ∃ d,l[i]? = some d∧row=d.cells:=by
 rw [List.getElem?_map,Option.map_eq_some_iff] at h
 obtain ⟨d,h1,rfl⟩:=h
 exact ⟨d,h1,rfl⟩
abbrev opsH (h:Nat) (l:List (Bool × Nat)):Blk := .fns 137 8 h (l.map cloD)
abbrev lwT (c:LowC) (s:LowS) (l:List Nd) (ho:Nat):Blk := .cells 92 [.tr (declsT c.p.shared),.tr (declsT c.p.locks),.tr (threadsT c.p.threads),.tr (ti (c.t:Nat)),.tr (ts c.name),.tr (ti c.loc),.tr (ti s.slots),.tr (nodesT l),.sl ho s.opens.length,.tr (tb s.over)]
set_option maxRecDepth 100000 in
set_option maxHeartbeats 4000000 in
theorem k_lowerG (p:Prg) (hw:(checkW p).1=0 → ∀ th ∈ p.threads,wfSs th.body=true):K 10 [p.av] [] (.ret (.tup [(lowerU p).1.av,.tr (ti (lowerU p).2)])) []:=by
 have hch:=k10 p
 have hU:lowerU p=bif (checkW p).1 != 0 then (⟨[],[],[]⟩,(checkW p).1) else outU p (lowTs p 0 p.threads):=rfl
 generalize lowerU p=R at hU ⊢
 generalize checkW p=C0 at hch hU hw
 obtain ⟨why,fa,fr⟩:=C0
 simp only at hU hw
 refine Ctr.cut [4,5,9,10,12,14,15] hT hmix Tryz.func10 rfl (fun _ _=>by kernel_rfl) rfl fun hok => ?_
 obtain ⟨hb1,_,_⟩:=((hok.slot 0 rfl).agg _ (.head _)).tr.lst
 obtain ⟨hb2,_,_⟩:=((hok.slot 0 rfl).agg _ (.tail _ (.head _))).tr.lst
 obtain ⟨hb3,hl3,hrw⟩:=((hok.slot 0 rfl).agg _ (.tail _ (.tail _ (.head _)))).tr.lst
 rw [List.length_map] at hl3
 have hlt:(p.threads.map Thread.cells).length=p.threads.length:=List.length_map ..
 clear hok hrw
 conv=>whnf
 refine CutL.by (fun _:Unit=>⟨[(1,.ptr 0 0),(2,.ptr 1 0)],[(0,.cells 25 [.tr (declsT p.shared),.tr (declsT p.locks),.tr (threadsT p.threads)]),(1,.cells 29 [nilA,nilA,nilA])],20⟩) (fun _=>(why != 0)=false) ?_ ?_
 ·conv=>whnf
  refine acall.pure _ (hch) rfl rfl fun _ => ?_
  conv=>whnf
  cases h1:(why != 0) with
  | true =>
   rw [h1,cond_true] at hU
   subst hU
   conv=>whnf
   exact ⟨⟨⟨.inr ⟨rfl,_,_,rfl⟩,.inr ⟨rfl,_,_,rfl⟩,.inr ⟨rfl,_,_,rfl⟩,trivial⟩,.inl rfl,trivial⟩,trivial⟩
  | false =>
   conv=>whnf
   exact ⟨(),[_,_],[],Sub.aw,rfl⟩
 rintro - h1 -
 rw [h1,cond_false] at hU
 replace hw:=hw (by rw [bne_eq_false_iff_eq] at h1; exact h1)
 clear hch
 obtain ⟨Q,hQ⟩ : ∃ Q,Q=lowTs p 0 p.threads:=⟨_,rfl⟩
 rw [← hQ] at hU
 conv=>whnf
 refine CutL.by (fun _:Unit=>⟨[(1,.ptr 0 0),(2,.ptr 1 0),(6,.ptr 2 0)],[(0,.cells 25 [.tr (declsT p.shared),.tr (declsT p.locks),.tr (threadsT p.threads)]),(1,.cells 29 [nilA,nilA,nilA]),(2,.cells 29 [.tr (declsT p.shared),.tr (declsT p.locks),.sl 3 (([]:List Gr)).length]),(3,.vec 50 4 56 ((([]:List Gr)).map Gr.cells))],20⟩) (fun _=>True) ?_ ?_
 ·conv=>whnf
  refine ⟨hb1,?_⟩
  conv=>whnf
  refine ⟨hb2,?_⟩
  conv=>whnf
  refine ⟨by kernel_rfl,fun _ => ?_⟩
  conv=>whnf
  exact ⟨(),[_,_,_],[3],Sub.mk' rfl ⟨⟨rfl,rfl⟩,⟨rfl,rfl⟩,⟨rfl,rfl⟩,trivial⟩ ⟨⟨rfl,.inl rfl,.inl rfl,.inl rfl,trivial⟩,⟨rfl,.inl rfl,.inl rfl,.inl rfl,trivial⟩,⟨rfl,⟨rfl,Nat.le_refl _,(by show Tr.lst 3 32 _=Tr.lst 3 32 (List.take _ _); rw [List.take_length])⟩,⟨rfl,Nat.le_refl _,(by show Tr.lst 3 32 _=Tr.lst 3 32 (List.take _ _); rw [List.take_length])⟩,⟨rfl,rfl,rfl,rfl⟩,trivial⟩,⟨rfl,_,_,_,rfl,by decide⟩,trivial⟩ rfl rfl,trivial⟩
 rintro - - -
 conv=>whnf
 refine LoopL.by (fun x:Nat × List Gr=>⟨[(1,.ptr 0 0),(2,.ptr 1 0),(6,.ptr 2 0),(27,.tr (threadsT p.threads)),(28,.tr (ti ((p.threads.map Thread.cells).length:Nat))),(29,.tr (ti (x.1:Nat)))],[(0,.cells 25 [.tr (declsT p.shared),.tr (declsT p.locks),.tr (threadsT p.threads)]),(1,.cells 29 [nilA,nilA,nilA]),(2,.cells 29 [.tr (declsT p.shared),.tr (declsT p.locks),.sl 3 (x.2).length]),(3,.vec 50 4 56 ((x.2).map Gr.cells))],20⟩)
  (fun x=>x.1≤p.threads.length∧Q=contG x.2 (lowTs p x.1 (p.threads.drop x.1))∧x.2.length=x.1) (fun x=>p.threads.length - x.1) (0,[]) [0,1,2,3] []
  (Sub.mk' rfl aut aut rfl rfl) ⟨Nat.zero_le _,by rw [hQ]; show lowTs p 0 p.threads=contG [] (lowTs p 0 p.threads); cases lowTs p 0 p.threads <;> rfl,rfl⟩ ?_
 clear hQ
 rintro ⟨i,gs⟩ ⟨hi,hQ,hgs⟩ -
 simp only at hi hQ hgs
 conv=>whnf
 refine csplit (fun hit => ?_) (fun hit => ?_)
 ·replace hit:i<p.threads.length:=by have:decide ((i:Int)<((p.threads.map Thread.cells).length:Int))=true:=hit; have:=of_decide_eq_true this; omega
  obtain ⟨th,hth⟩ : ∃ th,p.threads[i]? = some th:=⟨_,List.getElem?_eq_getElem hit⟩
  have hwt:=hw th (List.mem_of_getElem? hth)
  rw [drop_cons hth] at hQ
  obtain ⟨C,hC⟩ : ∃ C,C=thrC p i th:=⟨_,rfl⟩
  have hQ2:Q=contG gs (bif (endS (blockS C th.body (low0 th))).over then none else match lowTs p (i+1) (p.threads.drop (i+1)) with
   | some l=>some (grS C (endS (blockS C th.body (low0 th)))::l)
   | none=>none):=by rw [hQ,hC]; rfl
  clear hQ
  have hblk:=k_blkG C th.body hwt (low0 th) (low0_ok th)
  have h1:=(low0_ok th).rel (blockS_rel C th.body (low0 th))
  have hCp:C.p=p:=by rw [hC]; rfl
  have hCt:C.t=i:=by rw [hC]; rfl
  have hCn:C.name=th.name:=by rw [hC]; rfl
  have hCl:C.loc=((th.locals.map Decl.cells).length:Nat):=by rw [hC]; rfl
  conv=>whnf
  refine ⟨rfl,(show (0:Int)≤i by omega),(show (i:Int)<((p.threads.map Thread.cells).length:Int) by omega),fun row hrow => ?_⟩
  obtain ⟨d,hd,rfl⟩:=thr_get hrow
  obtain rfl:=Option.some.inj (hth.symm.trans hd)
  clear hrow hd
  conv=>whnf
  refine CutL.by (fun _:Unit=>⟨[(1,.ptr 0 0),(2,.ptr 1 0),(6,.ptr 2 0),(27,.tr (threadsT p.threads)),(28,.tr (ti ((p.threads.map Thread.cells).length:Nat))),(29,.tr (ti (i:Nat))),(8,.ptr 4 0),(9,.ptr 5 0)],[(0,.cells 25 [.tr (declsT p.shared),.tr (declsT p.locks),.tr (threadsT p.threads)]),(1,.cells 29 [nilA,nilA,nilA]),(2,.cells 29 [.tr (declsT p.shared),.tr (declsT p.locks),.sl 3 (gs).length]),(3,.vec 50 4 56 ((gs).map Gr.cells)),(4,.cells 41 (th.cells.map .tr)),(5,stB C (low0 th) 6 7),(6,ndsB (low0 th).nodes),(7,opsH 5 (low0 th).opens)],20⟩) (fun _=>True) ?_ ?_
  ·conv=>whnf
   subst hC
   exact ⟨(),[0,1,2,3,_,_],[6,7],Sub.mk' rfl ⟨⟨rfl,rfl⟩,⟨rfl,rfl⟩,⟨rfl,rfl⟩,.inl rfl,.inl rfl,.inl rfl,⟨rfl,rfl⟩,⟨rfl,rfl⟩,trivial⟩ ⟨⟨rfl,.inl rfl,.inl rfl,.inl rfl,trivial⟩,⟨rfl,.inl rfl,.inl rfl,.inl rfl,trivial⟩,⟨rfl,.inl rfl,.inl rfl,⟨rfl,rfl⟩,trivial⟩,⟨rfl,rfl,rfl,rfl⟩,⟨rfl,.inl rfl,.inl rfl,.inl rfl,.inl rfl,trivial⟩,⟨rfl,.inl rfl,.inl rfl,.inl rfl,.inl rfl,.inl rfl,.inl rfl,.inl rfl,⟨rfl,rfl,rfl,rfl⟩,⟨rfl,rfl,rfl,rfl⟩,.inl rfl,trivial⟩,⟨rfl,_,_,_,rfl,by decide⟩,⟨rfl,rfl⟩,trivial⟩ rfl rfl,trivial⟩
  rintro - - -
  generalize blockS C th.body (low0 th)=S1 at hblk h1 hQ2
  conv=>whnf
  refine CutL.by (fun _:Unit=>⟨[(1,.ptr 0 0),(2,.ptr 1 0),(6,.ptr 2 0),(27,.tr (threadsT p.threads)),(28,.tr (ti ((p.threads.map Thread.cells).length:Nat))),(29,.tr (ti (i:Nat))),(9,.ptr 5 0)],[(0,.cells 25 [.tr (declsT p.shared),.tr (declsT p.locks),.tr (threadsT p.threads)]),(1,.cells 29 [nilA,nilA,nilA]),(2,.cells 29 [.tr (declsT p.shared),.tr (declsT p.locks),.sl 3 (gs).length]),(3,.vec 50 4 56 ((gs).map Gr.cells)),(5,stB C (S1) 6 7),(6,ndsB (S1).nodes),(7,opsH 5 (S1).opens)],20⟩) (fun _=>True) ?_ ?_
  ·conv=>whnf
   refine acall.new [5,6,7] [] _ _ _ _ (hblk) rfl rfl rfl rfl aut aut rfl rfl ?_
   conv=>whnf
   intro _
   conv=>whnf
   exact ⟨(),[0,1,2,3,4,5,_,_],[],Sub.aw,trivial⟩
  rintro - - -
  have hp2:=k_putG C { nd00 with kind:=9 } S1 h1.ok
  have h2:=h1.relE (endS_rel S1)
  have hpos:=endS_pos (s:=S1)
  have hE:endS S1=bif S1.over then S1 else putS { nd00 with kind:=9 } S1:=rfl
  generalize putS { nd00 with kind:=9 } S1=S2a at hp2 hE
  generalize endS S1=S2 at h2 hpos hE hQ2
  conv=>whnf
  refine CutL.by (fun _:Unit=>⟨[(1,.ptr 0 0),(2,.ptr 1 0),(6,.ptr 2 0),(27,.tr (threadsT p.threads)),(28,.tr (ti ((p.threads.map Thread.cells).length:Nat))),(29,.tr (ti (i:Nat))),(9,.ptr 5 0)],[(0,.cells 25 [.tr (declsT p.shared),.tr (declsT p.locks),.tr (threadsT p.threads)]),(1,.cells 29 [nilA,nilA,nilA]),(2,.cells 29 [.tr (declsT p.shared),.tr (declsT p.locks),.sl 3 (gs).length]),(3,.vec 50 4 56 ((gs).map Gr.cells)),(5,stB C (S2) 6 7),(6,ndsB (S2).nodes),(7,opsH 5 (S2).opens)],20⟩) (fun _=>True) ?_ ?_
  ·conv=>whnf
   obtain ⟨sl1,n1,o1,v1⟩:=S1
   cases v1 with
   | true =>
    replace hE:S2=⟨sl1,n1,o1,true⟩:=hE
    subst hE
    conv=>whnf
    exact ⟨(),[0,1,2,3,4,5,6,7],[],Sub.mk' rfl aut aut rfl rfl,trivial⟩
   | false =>
    replace hE:S2=S2a:=hE
    subst hE
    conv=>whnf
    refine acall.new [5,6,7] [] _ _ _ _ (hp2) rfl rfl rfl rfl aut aut rfl rfl ?_
    conv=>whnf
    intro _
    conv=>whnf
    exact ⟨(),[0,1,2,3,4,5,_,_],[],Sub.aw,trivial⟩
  rintro - - -
  clear hE hp2 h1 hblk
  obtain ⟨sl2,n2,o2,v2⟩:=S2
  simp only at hpos hQ2
  cases v2 with
  | true =>
   replace hQ2:Q=none:=hQ2
   replace hU:R=(⟨[],[],[]⟩,3):=by rw [hU,hQ2]; rfl
   subst hU
   conv=>whnf
   refine CutL.by (fun _:Unit=>⟨[(1,.ptr 0 0)],[(0,.cells 25 [.tr (declsT p.shared),.tr (declsT p.locks),.tr (threadsT p.threads)])],20⟩) (fun _=>False) ?_ ?_
   ·conv=>whnf
    exact ⟨⟨⟨.inr ⟨rfl,_,_,rfl⟩,.inr ⟨rfl,_,_,rfl⟩,.inr ⟨rfl,_,_,rfl⟩,trivial⟩,.inl rfl,trivial⟩,trivial⟩
   rintro - hF
   exact hF.elim
  | false =>
  have hpos:=hpos rfl
  have hcap:=h2.cap
  simp only at hcap
  conv=>whnf
  refine CutL.by (fun _:Unit=>⟨[(1,.ptr 0 0),(2,.ptr 1 0),(6,.ptr 2 0),(27,.tr (threadsT p.threads)),(28,.tr (ti ((p.threads.map Thread.cells).length:Nat))),(29,.tr (ti (i:Nat))),(9,.ptr 5 0)],[(0,.cells 25 [.tr (declsT p.shared),.tr (declsT p.locks),.tr (threadsT p.threads)]),(1,.cells 29 [nilA,nilA,nilA]),(2,.cells 29 [.tr (declsT p.shared),.tr (declsT p.locks),.sl 3 (gs).length]),(3,.vec 50 4 56 ((gs).map Gr.cells)),(5,stB C ((⟨sl2,n2,o2,false⟩:LowS)) 6 7),(6,ndsB ((⟨sl2,n2,o2,false⟩:LowS)).nodes),(7,opsH 5 ((⟨sl2,n2,o2,false⟩:LowS)).opens)],20⟩) (fun _=>True) ?_ ?_
  ·conv=>whnf
   exact ⟨(),[0,1,2,3,4,5,6,7],[],Sub.mk' rfl aut aut rfl rfl,trivial⟩
  rintro - - -
  have hz:IntKind.i64.wrap ((n2.length:Int) - 1)=((n2.length - 1:Nat):Int):=by
   rw [w64 (by omega) (by omega)]; omega
  obtain ⟨nl,hnl⟩ : ∃ nl,n2[n2.length - 1]? = some nl:=⟨_,List.getElem?_eq_getElem (by omega)⟩
  have hzl:zeroLast n2=n2.set (n2.length - 1) { nl with next:=0 }:=by unfold zeroLast; rw [hnl]
  conv=>whnf
  refine CutL.by (fun _:Unit=>⟨[(1,.ptr 0 0),(2,.ptr 1 0),(6,.ptr 2 0),(27,.tr (threadsT p.threads)),(28,.tr (ti ((p.threads.map Thread.cells).length:Nat))),(29,.tr (ti (i:Nat))),(9,.ptr 5 0)],[(0,.cells 25 [.tr (declsT p.shared),.tr (declsT p.locks),.tr (threadsT p.threads)]),(1,.cells 29 [nilA,nilA,nilA]),(2,.cells 29 [.tr (declsT p.shared),.tr (declsT p.locks),.sl 3 (gs).length]),(3,.vec 50 4 56 ((gs).map Gr.cells)),(5,lwT C ⟨sl2,n2,o2,false⟩ (zeroLast n2) 7),(7,opsH 5 o2)],20⟩) (fun _=>True) ?_ ?_
  ·conv=>whnf
   rw [hz]
   refine ⟨rfl,(show (0:Int)≤((n2.length - 1:Nat):Int) by omega),(show ((n2.length - 1:Nat):Int)<(n2.length:Int) by omega),?_⟩
   conv=>whnf
   refine ⟨rfl,rfl,(by show n2.length - 1<(n2.map Nd.cells).length; rw [List.length_map]; omega),fun row hrow => ?_⟩
   obtain ⟨d,hd,rfl⟩:=nd_get hrow
   have hdn:nl=d:=Option.some.inj (hnl.symm.trans hd)
   subst hdn
   clear hrow hd
   refine ⟨(show 10+1≤13 by decide),?_⟩
   conv=>whnf
   refine ⟨by kernel_rfl,fun _ => ?_⟩
   conv=>whnf
   exact ⟨(),[0,1,2,3,4,5,1000000,7],[],Sub.mk' rfl aut ⟨aut,aut,aut,aut,⟨rfl,.inl rfl,.inl rfl,.inl rfl,.inl rfl,.inl rfl,.inl rfl,.inl rfl,⟨rfl,(by show n2.length≤((n2.map Nd.cells).set _ _).length; rw [List.length_set,List.length_map]; exact Nat.le_refl _),(by rw [hzl]; show Tr.lst 13 96 _=Tr.lst 13 96 (List.take _ ((n2.map Nd.cells).set _ _)); rw [List.take_of_length_le (by rw [List.length_set,List.length_map]; exact Nat.le_refl _),List.map_set]; rfl)⟩,⟨rfl,rfl⟩,.inl rfl,trivial⟩,aut,trivial⟩ rfl rfl,trivial⟩
  rintro - - -
  obtain ⟨G,hG⟩ : ∃ G,G=grS C ⟨sl2,n2,o2,false⟩:=⟨_,rfl⟩
  have hGc:G.cells=[ts C.name,ti C.loc,ti sl2,nodesT (zeroLast n2)]:=by rw [hG]; rfl
  replace hQ2:Q=contG (gs++[G]) (lowTs p (i+1) (p.threads.drop (i+1))):=by
   rw [hQ2,hG]
   cases lowTs p (i+1) (p.threads.drop (i+1)) with
   | none=>rfl
   | some l=>show some (gs++(grS C _::l))=some ((gs++[grS C _])++l); rw [List.append_assoc]; rfl
  have hda:(gs.map Gr.cells).take gs.length++[[ts C.name,ti C.loc,ti sl2,nodesT (zeroLast n2)]]=(gs++[G]).map Gr.cells:=by
   rw [List.take_of_length_le (by rw [List.length_map]; exact Nat.le_refl _),List.map_append,← hGc]; rfl
  have hglen:gs.length+1=(gs++[G]).length:=by rw [List.length_append]; rfl
  conv=>whnf
  refine ⟨rfl,rfl,rfl,(by rw [List.length_map]; exact Nat.le_refl _),(show (gs.length+1)*56≤150000000000000 by omega),fun q hq => ?_,?_⟩
  ·cases hq with
   | head=>exact Nat.ne_of_beq_eq_false rfl
   | tail _ h =>
    first
    | (cases h; done)
    | (cases h with
     | head=>exact Nat.ne_of_beq_eq_false rfl
     | tail _ h=>cases h)
  conv=>whnf
  refine ⟨by kernel_rfl,fun _ => ?_⟩
  conv=>whnf
  exact ⟨(i+1,gs++[G]),[0,1,2,_],[],Sub.mk' rfl ⟨⟨rfl,rfl⟩,⟨rfl,rfl⟩,⟨rfl,rfl⟩,.inl rfl,.inl rfl,.inl (ti_succ hit hl3),trivial⟩ ⟨⟨rfl,.inl rfl,.inl rfl,.inl rfl,trivial⟩,⟨rfl,.inl rfl,.inl rfl,.inl rfl,trivial⟩,⟨rfl,.inl rfl,.inl rfl,⟨rfl,hglen⟩,trivial⟩,⟨rfl,rfl,rfl,hda⟩,trivial⟩ rfl rfl,⟨hit,hQ2,by show (gs++[G]).length=i+1; omega⟩,by show p.threads.length - (i+1)<p.threads.length - i; omega⟩
 replace hit:i=p.threads.length:=by have:decide ((i:Int)<((p.threads.map Thread.cells).length:Int))=false:=hit; have:=of_decide_eq_false this; omega
 subst hit
 rw [List.drop_length] at hQ
 replace hQ:Q=some gs:=by rw [hQ]; show some (gs++[])=some gs; rw [List.append_nil]
 replace hU:R=(⟨p.shared,p.locks,gs⟩,0):=by rw [hU,hQ]; rfl
 subst hU
 conv=>whnf
 refine ⟨fun _ => ?_,fun h=>absurd rfl h⟩
 conv=>whnf
 exact ⟨⟨⟨.inl rfl,.inl rfl,⟨rfl,(by rw [List.length_map]; exact Nat.le_refl _),(by show Tr.lst 4 56 _=Tr.lst 4 56 (List.take _ _); rw [List.take_of_length_le (by rw [List.length_map]; exact Nat.le_refl _)])⟩,trivial⟩,.inl rfl,trivial⟩,trivial⟩
end Go.Proofs.YthboippafkcoiaaGreatDoor.am
namespace Go.Proofs.YthboippafkcoiaaGreatDoor.am
open Go Go.Proofs
set_option linter.all false
theorem fillN_get (to:Int) (L:List Nd) (o:Bool × Nat) (i:Nat):(fillN to L o)[i]? = (L[i]?).map fun n=>if i=o.2 then (bif o.1 then { n with els:=to } else { n with next:=to }) else n:=by
 unfold fillN
 cases h:L[o.2]? with
 | none =>
  by_cases hi:i=o.2
  ·subst hi; rw [h]; rfl
  ·simp only [hi,if_false]; rw [Option.map_id']
 | some n =>
  have hl:=(List.getElem?_eq_some_iff.1 h).1
  by_cases hi:i=o.2
  ·subst hi
   simp only [if_true]
   rw [List.getElem?_set_self hl,h]
   rfl
  ·simp only [hi,if_false]
   rw [List.getElem?_set_ne (fun q=>hi q.symm),Option.map_id']
theorem fill_same (to:Int) (L:List Nd) (o o':Bool × Nat):fillN to (fillN to L o) o'=fillN to (fillN to L o') o:=by
 refine List.ext_getElem? fun i => ?_
 rw [fillN_get,fillN_get,fillN_get,fillN_get,Option.map_map,Option.map_map]
 congr 1
 funext n
 obtain ⟨b,x⟩:=o
 obtain ⟨b',x'⟩:=o'
 show (if i=x' then _ else _)=(if i=x then _ else _)
 by_cases h1:i=x <;> by_cases h2:i=x' <;> cases b <;> cases b' <;> simp only [h1,h2,if_true,if_false,Function.comp,cond_true,cond_false] <;> split <;> simp_all
theorem fill_other (to to':Int) (L:List Nd) {o o':Bool × Nat} (h:o≠o'):fillN to (fillN to' L o') o=fillN to' (fillN to L o) o':=by
 refine List.ext_getElem? fun i => ?_
 rw [fillN_get,fillN_get,fillN_get,fillN_get,Option.map_map,Option.map_map]
 congr 1
 funext n
 obtain ⟨b,x⟩:=o
 obtain ⟨b',x'⟩:=o'
 by_cases h1:i=x
 ·by_cases h2:i=x'
  ·cases b <;> cases b' <;> simp_all [Function.comp]
  ·simp [Function.comp,h1,h2]
   split <;> simp_all
 ·by_cases h2:i=x'
  ·simp [Function.comp,h1,h2]
   split <;> simp_all
  ·simp [Function.comp,h1,h2]
theorem lead_fill_same (to:Int) (o:Bool × Nat) : ∀ (os:List (Bool × Nat)) (L:List Nd),leadN to os (fillN to L o)=fillN to (leadN to os L) o
 | [],L=>rfl
 | q::r,L=>by
  show leadN to r (fillN to (fillN to L o) q)=fillN to (leadN to r (fillN to L q)) o
  rw [fill_same,lead_fill_same to o r]
theorem lead_same (to:Int) : ∀ (os os':List (Bool × Nat)) (L:List Nd),leadN to os (leadN to os' L)=leadN to os' (leadN to os L)
 | os,[],L=>rfl
 | os,q::r,L=>by
  show leadN to os (leadN to r (fillN to L q))=leadN to r (fillN to (leadN to os L) q)
  rw [lead_same to os r,lead_fill_same]
theorem lead_app (to:Int) (os os':List (Bool × Nat)) (L:List Nd):leadN to (os++os') L=leadN to os' (leadN to os L):=by unfold leadN; rw [List.foldl_append]
theorem lead_fill (to to':Int) {o:Bool × Nat} : ∀ (os:List (Bool × Nat)) (L:List Nd),o ∉ os→leadN to os (fillN to' L o)=fillN to' (leadN to os L) o
 | [],L,_=>rfl
 | q::r,L,h=>by
  show leadN to r (fillN to (fillN to' L o) q)=fillN to' (leadN to r (fillN to L q)) o
  rw [fill_other to to' L (fun e=>h (by rw [e]; exact .head _)),lead_fill to to' r _ (fun e=>h (.tail _ e))]
theorem fill_in (to:Int) {L:List Nd} (M:List Nd) {o:Bool × Nat} (h:o.2<L.length):fillN to (L++M) o=fillN to L o++M:=by
 unfold fillN
 rw [List.getElem?_append_left h]
 have e:=List.getElem?_eq_getElem h
 rw [e]
 show (L++M).set _ _=L.set _ _++M
 rw [List.set_append_left _ _ h]
theorem lead_in (to:Int) (M:List Nd) : ∀ (os:List (Bool × Nat)) {L:List Nd},(∀ o ∈ os,o.2<L.length)→leadN to os (L++M)=leadN to os L++M
 | [],L,_=>rfl
 | q::r,L,h=>by
  show leadN to r (fillN to (L++M) q)=leadN to r (fillN to L q)++M
  rw [fill_in to M (h q (.head _)),lead_in to M r (fun o ho=>by rw [fillN_len]; exact h o (.tail _ ho))]
theorem fill_next (to:Int) {A:List Nd} (n:Nd) (B:List Nd) {k:Nat} (h:k=A.length):fillN to (A++n::B) (false,k)=A ++ { n with next:=to }::B:=by
 subst h
 unfold fillN
 have e:(A++n::B)[A.length]? = some n:=by rw [List.getElem?_append_right (Nat.le_refl _),Nat.sub_self]; rfl
 show (match (A++n::B)[A.length]? with | some n=>_ | none=>_)=_
 rw [e]
 show (A++n::B).set A.length { n with next:=to }=_
 rw [List.set_append_right _ _ (Nat.le_refl _),Nat.sub_self]; rfl
theorem fill_els (to:Int) {A:List Nd} (n:Nd) (B:List Nd) {k:Nat} (h:k=A.length):fillN to (A++n::B) (true,k)=A ++ { n with els:=to }::B:=by
 subst h
 unfold fillN
 have e:(A++n::B)[A.length]? = some n:=by rw [List.getElem?_append_right (Nat.le_refl _),Nat.sub_self]; rfl
 show (match (A++n::B)[A.length]? with | some n=>_ | none=>_)=_
 rw [e]
 show (A++n::B).set A.length { n with els:=to }=_
 rw [List.set_append_right _ _ (Nat.le_refl _),Nat.sub_self]; rfl
mutual
def szE (c:LowC):Expr→Nat
 | .mk kind op _ name kids _=>bif kind == 1 then 0 else bif kind == 2 then (bif decide (localI c.p c.t name ≥ 0) then 0 else 1) else bif two op then sz0 c kids+(sz1 c kids+1) else sz0 c kids+1
def sz0 (c:LowC):List Expr→Nat
 | []=>0
 | e::_=>szE c e
def sz1 (c:LowC):List Expr→Nat
 | []=>0
 | _::r=>sz0 c r
end
mutual
def szS (c:LowC):Stmt→Nat
 | .mk kind name _ e body els _=>bif kind == 1 then sz0 c e+1
  else bif kind == 2 then sz0 c e+(bif decide (localI c.p c.t name ≥ 0) then 1 else 2)
  else bif kind == 3 then sz0 c e+(1+(szB c body+szB c els))
  else bif kind == 4 then sz0 c e+(1+szB c body)
  else bif kind == 5 then 1+(szB c body+1)
  else bif kind == 6 then sz0 c e+1 else 0
def szB (c:LowC):List Stmt→Nat
 | []=>0
 | x::r=>szS c x+szB c r
end
mutual
def slS (c:LowC):Stmt→Nat
 | .mk kind name _ e body els _=>bif kind == 1 then sz0 c e
  else bif kind == 2 then sz0 c e+(bif decide (localI c.p c.t name ≥ 0) then 0 else 1)
  else bif kind == 3 then sz0 c e+(slB c body+slB c els)
  else bif kind == 4 then sz0 c e+slB c body
  else bif kind == 5 then slB c body
  else bif kind == 6 then sz0 c e else 0
def slB (c:LowC):List Stmt→Nat
 | []=>0
 | x::r=>slS c x+slB c r
end
def exprV (c:LowC):Expr→Nat→Val
 | .mk kind op word name kids _,m=>bif kind == 1 then ⟨false,0,word⟩ else bif kind == 2 then (bif decide (localI c.p c.t name ≥ 0) then inV (localI c.p c.t name) else inV (m:Nat)) else bif two op then inV ((m+(sz0 c kids+sz1 c kids):Nat):Int) else inV ((m+sz0 c kids:Nat):Int)
theorem exprV_mk (c:LowC) (kind op word:Int) (name:ByteArray) (kids:List Expr) (at_:Int) (m:Nat):exprV c (.mk kind op word name kids at_) m=bif kind == 1 then ⟨false,0,word⟩ else bif kind == 2 then (bif decide (localI c.p c.t name ≥ 0) then inV (localI c.p c.t name) else inV (m:Nat)) else bif two op then inV ((m+(sz0 c kids+sz1 c kids):Nat):Int) else inV ((m+sz0 c kids:Nat):Int):=rfl
def kid0V (c:LowC):List Expr→Nat→Val
 | [],_=>v00
 | e::_,m=>exprV c e m
def kid1V (c:LowC):List Expr→Nat→Val
 | [],_=>v00
 | _::r,m=>kid0V c r m
mutual
def exprD (c:LowC):Expr→Nat→Nat→Nat→List Nd
 | .mk kind op _ name kids _,at_,m,to =>
  bif kind == 1 then []
  else bif kind == 2 then (bif decide (localI c.p c.t name ≥ 0) then [] else [{ nd00 with kind:=2,thing:=findI c.p.shared name 0,slot:=(m:Nat),next:=(to:Nat),origin:=(at_:Nat) }])
  else bif two op then kid0D c kids at_ m (at_+sz0 c kids)++(kid1D c kids (at_+sz0 c kids) (m+sz0 c kids) (at_+(sz0 c kids+sz1 c kids))++[{ nd00 with kind:=1,op:=op,a:=kid0V c kids m,b:=kid1V c kids (m+sz0 c kids),slot:=((m+(sz0 c kids+sz1 c kids):Nat):Int),next:=(to:Nat),origin:=((at_+(sz0 c kids+sz1 c kids):Nat):Int) }])
  else kid0D c kids at_ m (at_+sz0 c kids)++[{ nd00 with kind:=1,op:=op,a:=kid0V c kids m,slot:=((m+sz0 c kids:Nat):Int),next:=(to:Nat),origin:=((at_+sz0 c kids:Nat):Int) }]
def kid0D (c:LowC):List Expr→Nat→Nat→Nat→List Nd
 | [],_,_,_=>[]
 | e::_,at_,m,to=>exprD c e at_ m to
def kid1D (c:LowC):List Expr→Nat→Nat→Nat→List Nd
 | [],_,_,_=>[]
 | _::r,at_,m,to=>kid0D c r at_ m to
end
def giveN (c:LowC) (name:ByteArray) (v:Val) (at_ to:Nat):Nd:=bif decide (localI c.p c.t name ≥ 0) then { nd00 with kind:=1,slot:=localI c.p c.t name,a:=v,next:=(to:Nat),origin:=(at_:Nat) } else { nd00 with kind:=3,thing:=findI c.p.shared name 0,a:=v,next:=(to:Nat),origin:=(at_:Nat) }
def swapD (c:LowC) (name other:ByteArray) (v:Val) (at_ m to:Nat):List Nd:=bif decide (localI c.p c.t name ≥ 0) then [{ nd00 with kind:=4,a:=v,thing:=findI c.p.shared other 0,slot:=localI c.p c.t name,next:=(to:Nat),origin:=(at_:Nat) }]
 else [{ nd00 with kind:=4,a:=v,thing:=findI c.p.shared other 0,slot:=(m:Nat),next:=((at_+1:Nat):Int),origin:=(at_:Nat) },{ nd00 with kind:=3,thing:=findI c.p.shared name 0,a:=inV (m:Nat),next:=(to:Nat),origin:=((at_+1:Nat):Int) }]
def goOn (k here to:Nat):Nat:=bif k == 0 then to else here
mutual
def stmtD (c:LowC):Stmt→Nat→Nat→Nat→List Nd
 | .mk kind name other e body els _,at_,m,to =>
  bif kind == 1 then kid0D c e at_ m (at_+sz0 c e)++[giveN c name (kid0V c e m) (at_+sz0 c e) to]
  else bif kind == 2 then kid0D c e at_ m (at_+sz0 c e)++swapD c name other (kid0V c e m) (at_+sz0 c e) (m+sz0 c e) to
  else bif kind == 3 then kid0D c e at_ m (at_+sz0 c e)++({ nd00 with kind:=8,a:=kid0V c e m,next:=(goOn (szB c body) (at_+sz0 c e+1) to:Nat),els:=(goOn (szB c els) (at_+sz0 c e+1+szB c body) to:Nat),origin:=((at_+sz0 c e:Nat):Int) } ::
   (blockD c body (at_+sz0 c e+1) (m+sz0 c e) to++blockD c els (at_+sz0 c e+1+szB c body) (m+sz0 c e+slB c body) to))
  else bif kind == 4 then kid0D c e at_ m (at_+sz0 c e)++({ nd00 with kind:=8,a:=kid0V c e m,next:=(goOn (szB c body) (at_+sz0 c e+1) at_:Nat),els:=(to:Nat),origin:=((at_+sz0 c e:Nat):Int) }::blockD c body (at_+sz0 c e+1) (m+sz0 c e) at_)
  else bif kind == 5 then { nd00 with kind:=5,thing:=findI c.p.locks name 0,next:=((at_+1:Nat):Int),origin:=(at_:Nat) }::(blockD c body (at_+1) m (at_+1+szB c body)++[{ nd00 with kind:=6,thing:=findI c.p.locks name 0,next:=(to:Nat),origin:=((at_+1+szB c body:Nat):Int) }])
  else bif kind == 6 then kid0D c e at_ m (at_+sz0 c e)++[{ nd00 with kind:=7,a:=kid0V c e m,next:=(to:Nat),origin:=((at_+sz0 c e:Nat):Int) }]
  else []
def blockD (c:LowC):List Stmt→Nat→Nat→Nat→List Nd
 | [],_,_,_=>[]
 | x::r,at_,m,to=>stmtD c x at_ m (goOn (szB c r) (at_+szS c x) to)++blockD c r (at_+szS c x) (m+slS c x) to
end
structure Lw (s s':LowS) (k j:Nat) (D:Nat→List Nd):Prop where
 len:s'.nodes.length=s.nodes.length+k
 slots:s'.slots=s.slots+(j:Nat)
 over:s'.over=false
 lead : ∀ to:Nat,leadN (to:Nat) s'.opens s'.nodes=leadN (goOn k s.nodes.length to:Nat) s.opens s.nodes++D to
 opens : ∀ o ∈ s'.opens,(k=0∧o ∈ s.opens)∨s.nodes.length≤o.2
structure LSt (s:LowS) (m:Nat):Prop where
 slots:s.slots=(m:Nat)
 few:m≤1000+s.nodes.length
 inn:innS s
 cap:s.nodes.length≤4096
 over:s.over=false
theorem Lw.refl {s:LowS} (h:s.over=false):Lw s s 0 0 fun _=>[]:=⟨rfl,by simp,h,fun to=>by rw [List.append_nil]; rfl,fun o ho => .inl ⟨rfl,ho⟩⟩
theorem Lw.cast {s s':LowS} {k j k' j':Nat} {D D':Nat→List Nd} (h:Lw s s' k j D) (hk:k=k') (hj:j=j') (hD : ∀ to,D to=D' to):Lw s s' k' j' D':=by
 subst hk; subst hj
 exact ⟨h.len,h.slots,h.over,fun to=>by rw [← hD]; exact h.lead to,h.opens⟩
theorem goOn_add {k k' at_ to:Nat}:goOn k at_ (goOn k' (at_+k) to)=goOn (k+k') at_ to:=by
 unfold goOn
 cases k with
 | zero =>
  cases k' with
  | zero=>rfl
  | succ n=>show at_+0=(bif 0+(n+1) == 0 then to else at_); rw [show (0+(n+1) == 0)=false by rw [Nat.zero_add]; rfl]; rfl
 | succ n =>
  show at_=(bif n+1+k' == 0 then to else at_)
  rw [show (n+1+k' == 0)=false by rw [Nat.add_right_comm]; rfl]; rfl
theorem Lw.trans {s s1 s2:LowS} {k j k' j':Nat} {D D':Nat→List Nd} (h:Lw s s1 k j D) (h':Lw s1 s2 k' j' D'):Lw s s2 (k+k') (j+j') fun to=>D (goOn k' (s.nodes.length+k) to)++D' to:=by
 refine ⟨by rw [h'.len,h.len]; omega,by rw [h'.slots,h.slots]; omega,h'.over,fun to => ?_,fun o ho => ?_⟩
 ·rw [h'.lead,h.lead,h.len,goOn_add,List.append_assoc]
 ·rcases h'.opens o ho with ⟨e,ho⟩ | ho
  ·rcases h.opens o ho with ⟨e',ho⟩ | ho
   ·exact .inl ⟨by omega,ho⟩
   ·exact .inr ho
  ·rw [h.len] at ho
   exact .inr (by omega)
theorem LSt.step {s s':LowS} {m k j:Nat} {D:Nat→List Nd} (h:LSt s m) (hr:RelS s s') (hl:Lw s s' k j D) (hjk:j≤k):LSt s' (m+j) :=
 ⟨by rw [hl.slots,h.slots]; omega,by rw [hl.len]; have:=h.few; omega,hr.inn h.inn,hr.cap h.cap,hl.over⟩
theorem ov_back {a b:Bool} (h:ov a≤ov b) (hb:b=false):a=false:=by subst hb; cases a; rfl; exact absurd h (by decide)
theorem put_fit {n:Nd} {s:LowS} (h:(putS n s).over=false):decide ((s.nodes.length:Int) ≥ 4096)=false:=by
 cases hb:decide ((s.nodes.length:Int) ≥ 4096) with
 | false=>rfl
 | true=>rw [putS_big n hb] at h; cases h
theorem Lw.put {n:Nd} {s:LowS} (hs:s.over=false) (h:(putS n s).over=false):Lw s (putS n s) 1 0 fun to=>[{ n with origin:=(s.nodes.length:Nat),next:=(to:Nat) }]:=by
 have hb:=put_fit h
 refine ⟨putS_len n hb,?_,h,fun to => ?_,fun o ho => ?_⟩
 ·rw [putS_small n hb]; simp
 ·rw [putS_small n hb]
  show fillN (to:Nat) (leadN s.nodes.length s.opens s.nodes++[{ n with origin:=(s.nodes.length:Nat) }]) (false,s.nodes.length)=_
  rw [fill_next _ _ _ (leadN_len _ _ _).symm]
  rfl
 ·rw [putS_small n hb] at ho
  have ho:o ∈ [(false,s.nodes.length)]:=ho
  rw [List.mem_singleton] at ho
  subst ho
  exact .inr (Nat.le_refl _)
theorem put_int {n:Nd} {s:LowS} (h:(putS n s).over=false):putI s=(s.nodes.length:Nat):=by unfold putI; rw [put_fit h]; rfl
theorem LSt.slot {s:LowS} {m:Nat} (h:LSt s m):slotI s=(m:Nat)∧Lw s (slotS s) 0 1 fun _=>[]:=by
 have h1:=h.few; have h2:=h.cap; have h3:=h.slots
 have e:wI (s.slots+1)=s.slots+1:=w64 (by omega) (by omega)
 refine ⟨?_,rfl,by show wI (s.slots+1)=_; rw [e]; rfl,h.over,fun to=>by rw [List.append_nil]; rfl,fun o ho => .inl ⟨rfl,ho⟩⟩
 unfold slotI
 rw [e,show s.slots+1 - 1=s.slots by omega]
 exact (w64 (n:=s.slots) (by omega) (by omega)).trans h3
theorem goOn_pos (k a to:Nat):goOn (k+1) a to=a:=rfl
mutual
theorem exprS_lw (c:LowC) : ∀ (e:Expr) (s:LowS) (m:Nat),LSt s m→(exprS c e s).1.over=false→Lw s (exprS c e s).1 (szE c e) (szE c e) (exprD c e s.nodes.length m)∧(exprS c e s).2=exprV c e m
 | .mk kind op word name kids _,s,m,h,ho=>by
  have h0:=kid0S_lw c kids s m h
  have h1:=fun s m=>kid1S_lw c kids s m
  have hn0:=fun s=>kid0S_rel c kids s
  have hn1:=fun s=>kid1S_rel c kids s
  unfold exprS at ho ⊢
  unfold szE
  rw [exprV_mk]
  show Lw _ _ _ _ (fun to=>exprD c _ s.nodes.length m to)∧_
  unfold exprD
  cases k1:kind == 1 with
  | true=>exact ⟨.refl h.over,rfl⟩
  | false =>
  rw [k1] at ho
  cases k2:kind == 2 with
  | true =>
   rw [k2] at ho
   cases hl:decide (localI c.p c.t name ≥ 0) with
   | true=>exact ⟨.refl h.over,rfl⟩
   | false =>
    rw [hl] at ho
    obtain ⟨q1,q2⟩:=h.slot
    simp only [cond_true,cond_false] at ho ⊢
    rw [q1] at ho ⊢
    exact ⟨(q2.trans (Lw.put (s:=slotS s) q2.over ho)).cast rfl rfl (fun to=>rfl),rfl⟩
  | false =>
  rw [k2] at ho
  cases ht:two op with
  | true =>
   rw [ht] at ho
   simp only [cond_true,cond_false] at ho ⊢
   have o3:(slotS (kid1S c kids (kid0S c kids s).1).1).over=false:=ov_back (putS_rel _ _).over ho
   have o2:(kid1S c kids (kid0S c kids s).1).1.over=false:=o3
   have o1:(kid0S c kids s).1.over=false:=ov_back (hn1 _).over o2
   obtain ⟨p0,v0⟩:=h0 o1
   have s1:=h.step (hn0 _).toS p0 (Nat.le_refl _)
   obtain ⟨p1,v1⟩:=h1 _ _ s1 o2
   have s2:=s1.step (hn1 _).toS p1 (Nat.le_refl _)
   obtain ⟨q1,q2⟩:=s2.slot
   rw [q1] at ho ⊢
   refine ⟨(p0.trans (p1.trans (q2.trans (Lw.put q2.over ho)))).cast (by omega) (by omega) (fun to => ?_),by rw [Nat.add_assoc]⟩
   have e0:(kid0S c kids s).1.nodes.length=s.nodes.length+sz0 c kids:=p0.len
   have e1:(slotS (kid1S c kids (kid0S c kids s).1).1).nodes.length=s.nodes.length+(sz0 c kids+sz1 c kids):=by show (kid1S c kids (kid0S c kids s).1).1.nodes.length=_; rw [p1.len,e0]; omega
   rw [v0,v1,e0,e1,show sz1 c kids+(0+1)=sz1 c kids+1 by omega,goOn_pos,goOn_pos,Nat.add_assoc m,Nat.add_assoc s.nodes.length]
   rfl
  | false =>
   rw [ht] at ho
   simp only [cond_true,cond_false] at ho ⊢
   have o1':(slotS (kid0S c kids s).1).over=false:=ov_back (putS_rel _ _).over ho
   have o1:(kid0S c kids s).1.over=false:=o1'
   obtain ⟨p0,v0⟩:=h0 o1
   have s1:=h.step (hn0 _).toS p0 (Nat.le_refl _)
   obtain ⟨q1,q2⟩:=s1.slot
   rw [q1] at ho ⊢
   refine ⟨(p0.trans (q2.trans (Lw.put q2.over ho))).cast (by omega) (by omega) (fun to => ?_),rfl⟩
   have e0:(slotS (kid0S c kids s).1).nodes.length=s.nodes.length+sz0 c kids:=p0.len
   rw [v0,e0]
   rfl
theorem kid0S_lw (c:LowC) : ∀ (l:List Expr) (s:LowS) (m:Nat),LSt s m→(kid0S c l s).1.over=false→Lw s (kid0S c l s).1 (sz0 c l) (sz0 c l) (kid0D c l s.nodes.length m)∧(kid0S c l s).2=kid0V c l m
 | [],s,m,h,ho=>by
  unfold kid0S sz0 kid0V
  refine ⟨(Lw.refl h.over).cast rfl rfl (fun to => ?_),rfl⟩
  unfold kid0D; rfl
 | e::r,s,m,h,ho=>by
  have:=exprS_lw c e s m h (by unfold kid0S at ho; exact ho)
  unfold kid0S sz0 kid0V
  refine ⟨this.1.cast rfl rfl (fun to => ?_),this.2⟩
  rw [kid0D]
theorem kid1S_lw (c:LowC) : ∀ (l:List Expr) (s:LowS) (m:Nat),LSt s m→(kid1S c l s).1.over=false→Lw s (kid1S c l s).1 (sz1 c l) (sz1 c l) (kid1D c l s.nodes.length m)∧(kid1S c l s).2=kid1V c l m
 | [],s,m,h,ho=>by
  unfold kid1S sz1 kid1V
  refine ⟨(Lw.refl h.over).cast rfl rfl (fun to => ?_),rfl⟩
  unfold kid1D; rfl
 | e::r,s,m,h,ho=>by
  have:=kid0S_lw c r s m h (by unfold kid1S at ho; exact ho)
  unfold kid1S sz1 kid1V
  refine ⟨this.1.cast rfl rfl (fun to => ?_),this.2⟩
  rw [kid1D]
end
end Go.Proofs.YthboippafkcoiaaGreatDoor.am
namespace Go.Proofs.YthboippafkcoiaaGreatDoor.am
open Go Go.Proofs
set_option linter.all false
theorem giveS_lw (c:LowC) (name:ByteArray) (v:Val) {s:LowS} {m:Nat} (h:LSt s m) (ho:(giveS c name v s).over=false):Lw s (giveS c name v s) 1 0 fun to=>[giveN c name v s.nodes.length to]:=by
 unfold giveS at ho ⊢
 unfold giveN
 cases hl:decide (localI c.p c.t name ≥ 0) with
 | true =>
  rw [hl] at ho
  exact (Lw.put h.over ho).cast rfl rfl fun to=>rfl
 | false =>
  rw [hl] at ho
  exact (Lw.put h.over ho).cast rfl rfl fun to=>rfl
theorem swapS_lw (c:LowC) (name other:ByteArray) (v:Val) {s:LowS} {m:Nat} (h:LSt s m) (ho:(swapS c name other v s).over=false):Lw s (swapS c name other v s) (bif decide (localI c.p c.t name ≥ 0) then 1 else 2) (bif decide (localI c.p c.t name ≥ 0) then 0 else 1) fun to=>swapD c name other v s.nodes.length m to:=by
 unfold swapS at ho ⊢
 unfold swapD
 cases hl:decide (localI c.p c.t name ≥ 0) with
 | true =>
  rw [hl] at ho
  exact (Lw.put h.over ho).cast rfl rfl fun to=>rfl
 | false =>
  rw [hl] at ho
  simp only [cond_false] at ho ⊢
  obtain ⟨q1,q2⟩:=h.slot
  rw [q1] at ho ⊢
  have o1:(putS { nd00 with kind:=4,a:=v,thing:=findI c.p.shared other 0,slot:=(m:Nat) } (slotS s)).over=false:=ov_back (giveS_rel c _ _ _).over ho
  have p1:=q2.trans (Lw.put q2.over o1)
  have s1:=h.step ((slotS_rel s).trans (putS_rel _ _)).toS p1 (by omega)
  refine (p1.trans (giveS_lw c name _ s1 ho)).cast (by omega) (by omega) fun to => ?_
  rw [p1.len]
  unfold giveN
  rw [hl]
  rfl
theorem cond_lw {s s1 s2 s3 s5:LowS} {n:Nd} {k j kb jb ke je:Nat} {DX DB DE:Nat→List Nd} (h1:Lw s s1 k j DX) (hi1:innS s1) (h2:s2=putS n s1) (h2o:s2.over=false) (h3:Lw s2 s3 kb jb DB) (hi3:innS s3)
  (h5:Lw (openS [(true,s1.nodes.length)] s3) s5 ke je DE) (h5o:s5.over=false) :
  Lw s (openS (s3.opens++s5.opens) s5) (k+(1+(kb+ke))) (j+(jb+je)) fun to=>DX s1.nodes.length++({ n with origin:=(s1.nodes.length:Nat),next:=(goOn kb (s1.nodes.length+1) to:Nat),els:=(goOn ke (s1.nodes.length+1+kb) to:Nat) }::(DB to++DE to)):=by
 subst h2
 have hb:=put_fit h2o
 have p2:=putS_len n hb
 have l3:=h3.len
 have l5:=h5.len
 have l3':(openS [(true,s1.nodes.length)] s3).nodes.length=s3.nodes.length:=rfl
 have sl2:(putS n s1).slots=s1.slots:=by rw [putS_small n hb]
 have hop2:(putS n s1).opens=[(false,s1.nodes.length)]:=by rw [putS_small n hb]
 have hnot:(true,s1.nodes.length) ∉ s3.opens:=fun q=>by
  rcases h3.opens _ q with ⟨_,q⟩ | q
  ·rw [hop2] at q
   rw [List.mem_singleton] at q
   cases q
  ·rw [p2] at q
   exact absurd q (by show ¬ (s1.nodes.length+1≤s1.nodes.length); omega)
 refine ⟨?_,?_,h5o,fun to => ?_,fun o hm => ?_⟩
 ·show s5.nodes.length=_
  rw [l5,l3',l3,p2,h1.len]; omega
 ·show s5.slots=_
  have:(openS [(true,s1.nodes.length)] s3).slots=s3.slots:=rfl
  rw [h5.slots,this,h3.slots,sl2,h1.slots]; omega
 ·show leadN (to:Nat) (s3.opens++s5.opens) s5.nodes=_
  rw [lead_app,lead_same,h5.lead]
  show leadN (to:Nat) s3.opens (fillN (goOn ke s3.nodes.length to:Nat) s3.nodes (true,s1.nodes.length)++DE to)=_
  rw [lead_in _ _ _ (fun o ho=>by rw [fillN_len]; exact hi3 o ho),lead_fill _ _ _ _ hnot,h3.lead,hop2,p2,l3,p2]
  show fillN _ (fillN _ (putS n s1).nodes (false,s1.nodes.length)++DB to) (true,s1.nodes.length)++DE to=_
  rw [putS_small n hb]
  show fillN _ (fillN _ (leadN s1.nodes.length s1.opens s1.nodes++[{ n with origin:=(s1.nodes.length:Nat) }]) (false,s1.nodes.length)++DB to) (true,s1.nodes.length)++DE to=_
  rw [fill_next _ _ _ (leadN_len _ _ _).symm,List.append_assoc,List.cons_append,List.nil_append,fill_els _ _ _ (leadN_len _ _ _).symm,h1.lead]
  have e:goOn k s.nodes.length s1.nodes.length=goOn (k+(1+(kb+ke))) s.nodes.length to:=by
   rw [← goOn_add,show 1+(kb+ke)=kb+ke+1 by omega,goOn_pos,h1.len]
  rw [e]
  simp only [List.append_assoc,List.cons_append]
 ·have hm:o ∈ s3.opens++s5.opens:=hm
  have n1:=h1.len
  rcases List.mem_append.1 hm with hm | hm
  ·rcases h3.opens o hm with ⟨_,hm⟩ | hm
   ·rw [hop2,List.mem_singleton] at hm
    subst hm
    exact .inr (show s.nodes.length≤s1.nodes.length by omega)
   ·exact .inr (by omega)
  ·rcases h5.opens o hm with ⟨_,hm⟩ | hm
   ·have hm:o ∈ [(true,s1.nodes.length)]:=hm
    rw [List.mem_singleton] at hm
    subst hm
    exact .inr (show s.nodes.length≤s1.nodes.length by omega)
   ·exact .inr (by omega)
theorem loop_lw {s s1 s2 s3:LowS} {n:Nd} {k j kb jb:Nat} {DX DB:Nat→List Nd} (h1:Lw s s1 k j DX) (h2:s2=putS n s1) (h2o:s2.over=false) (h3:Lw s2 s3 kb jb DB) :
  Lw s { s3 with nodes:=leadN s.nodes.length s3.opens s3.nodes,opens:=[(true,s1.nodes.length)],over:=false } (k+(1+kb)) (j+jb) fun to=>DX s1.nodes.length++({ n with origin:=(s1.nodes.length:Nat),next:=(goOn kb (s1.nodes.length+1) s.nodes.length:Nat),els:=(to:Nat) }::DB s.nodes.length):=by
 subst h2
 have hb:=put_fit h2o
 have p2:=putS_len n hb
 have l3:=h3.len
 have sl2:(putS n s1).slots=s1.slots:=by rw [putS_small n hb]
 have hop2:(putS n s1).opens=[(false,s1.nodes.length)]:=by rw [putS_small n hb]
 refine ⟨?_,?_,rfl,fun to => ?_,fun o hm => ?_⟩
 ·show (leadN _ _ _).length=_
  rw [leadN_len,l3,p2,h1.len]; omega
 ·show s3.slots=_
  rw [h3.slots,sl2,h1.slots]; omega
 ·show fillN (to:Nat) (leadN s.nodes.length s3.opens s3.nodes) (true,s1.nodes.length)=_
  rw [h3.lead,hop2,p2]
  show fillN _ (fillN _ (putS n s1).nodes (false,s1.nodes.length)++DB s.nodes.length) (true,s1.nodes.length)=_
  rw [putS_small n hb]
  show fillN _ (fillN _ (leadN s1.nodes.length s1.opens s1.nodes++[{ n with origin:=(s1.nodes.length:Nat) }]) (false,s1.nodes.length)++DB s.nodes.length) (true,s1.nodes.length)=_
  rw [fill_next _ _ _ (leadN_len _ _ _).symm,List.append_assoc,List.cons_append,List.nil_append,fill_els _ _ _ (leadN_len _ _ _).symm,h1.lead]
  have e:goOn k s.nodes.length s1.nodes.length=goOn (k+(1+kb)) s.nodes.length to:=by
   rw [← goOn_add,show 1+kb=kb+1 by omega,goOn_pos,h1.len]
  rw [e,List.append_assoc]
 ·have hm:o ∈ [(true,s1.nodes.length)]:=hm
  have n1:=h1.len
  rw [List.mem_singleton] at hm
  subst hm
  exact .inr (show s.nodes.length≤s1.nodes.length by omega)
theorem lt_of_len {a b k:Nat} (h:b=a+1+k):a<b:=by omega
mutual
theorem slS_le (c:LowC) : ∀ x:Stmt,slS c x≤szS c x
 | .mk kind name _ e body els _=>by
  have h1:=slB_le c body
  have h2:=slB_le c els
  unfold slS szS
  cases kind == 1 <;> cases kind == 2 <;> cases kind == 3 <;> cases kind == 4 <;> cases kind == 5 <;> cases kind == 6 <;> cases decide (localI c.p c.t name ≥ 0) <;> simp only [cond_true,cond_false] <;> omega
theorem slB_le (c:LowC) : ∀ l:List Stmt,slB c l≤szB c l
 | []=>by unfold slB szB; exact Nat.le_refl _
 | x::r=>by
  have h1:=slS_le c x
  have h2:=slB_le c r
  unfold slB szB
  omega
end
mutual
theorem stmtS_lw (c:LowC) : ∀ (x:Stmt) (s:LowS) (m:Nat),LSt s m→(stmtS c x s).over=false→Lw s (stmtS c x s) (szS c x) (slS c x) (stmtD c x s.nodes.length m)
 | .mk kind name other e body els _,s,m,h,ho=>by
  have h0:=kid0S_lw c e s m h
  have hn0:=kid0S_rel c e s
  have hb:=fun s m=>blockS_lw c body s m
  have hl:=fun s m=>blockS_lw c els s m
  have rb:=fun s=>blockS_rel c body s
  have rl:=fun s=>blockS_rel c els s
  have lb:=slB_le c body
  unfold stmtS at ho ⊢
  unfold szS slS
  show Lw _ _ _ _ (fun to=>stmtD c _ s.nodes.length m to)
  unfold stmtD
  cases k1:kind == 1 with
  | true =>
   rw [k1] at ho
   simp only [cond_true,cond_false] at ho ⊢
   obtain ⟨p0,v0⟩:=h0 (ov_back (giveS_rel c _ _ _).over ho)
   have s1:=h.step hn0.toS p0 (Nat.le_refl _)
   refine (p0.trans (giveS_lw c name _ s1 ho)).cast rfl rfl fun to => ?_
   rw [v0,p0.len]; rfl
  | false =>
  rw [k1] at ho
  cases k2:kind == 2 with
  | true =>
   rw [k2] at ho
   simp only [cond_true,cond_false] at ho ⊢
   obtain ⟨p0,v0⟩:=h0 (ov_back (swapS_rel c _ _ _ _).over ho)
   have s1:=h.step hn0.toS p0 (Nat.le_refl _)
   refine (p0.trans (swapS_lw c name other _ s1 ho)).cast rfl rfl fun to => ?_
   rw [v0,p0.len]
   cases decide (localI c.p c.t name ≥ 0) <;> rfl
  | false =>
  rw [k2] at ho
  cases k3:kind == 3 with
  | true =>
   rw [k3] at ho
   simp only [cond_true,cond_false] at ho ⊢
   have o5:=ho
   have o3:=ov_back (rl _).over ho
   have o2:=ov_back (rb _).over o3
   have o1:=ov_back (putS_rel _ _).over o2
   obtain ⟨p0,v0⟩:=h0 o1
   have s1:=h.step hn0.toS p0 (Nat.le_refl _)
   have p1:=Lw.put s1.over o2
   have s2:=s1.step (putS_rel _ _).toS p1 (by omega)
   have p2:=hb _ _ s2 o3
   have s3:=s2.step (rb _) p2 lb
   have e1:(putI (kid0S c e s).1).toNat=(kid0S c e s).1.nodes.length:=by rw [put_int o2,Int.toNat_natCast]
   have hin:innS (openS [(true,(putI (kid0S c e s).1).toNat)] (blockS c body (putS { nd00 with kind:=8,a:=(kid0S c e s).2 } (kid0S c e s).1))):=fun o hm=>by
    have hm:o ∈ [(true,(putI (kid0S c e s).1).toNat)]:=hm
    rw [List.mem_singleton] at hm
    subst hm
    show (putI (kid0S c e s).1).toNat<(blockS c body (putS { nd00 with kind:=8,a:=(kid0S c e s).2 } (kid0S c e s).1)).nodes.length
    rw [e1]
    exact lt_of_len (p2.len.trans (congrArg (· + szB c body) p1.len))
   have s3':LSt (openS [(true,(putI (kid0S c e s).1).toNat)] (blockS c body (putS { nd00 with kind:=8,a:=(kid0S c e s).2 } (kid0S c e s).1))) (m+sz0 c e+0+slB c body):=⟨s3.slots,s3.few,hin,s3.cap,s3.over⟩
   have p3:=hl _ _ s3' o5
   rw [e1] at p3 ⊢
   refine (cond_lw p0 s1.inn rfl o2 p2 s3.inn p3 ?_).cast rfl rfl fun to => ?_
   ·have:=o5; rw [e1] at this; exact this
   ·have n3:(openS [(true,(kid0S c e s).1.nodes.length)] (blockS c body (putS { nd00 with kind:=8,a:=(kid0S c e s).2 } (kid0S c e s).1))).nodes.length=s.nodes.length+sz0 c e+1+szB c body:=p2.len.trans (by rw [p1.len,p0.len])
    rw [n3,p1.len,p0.len,v0]; rfl
  | false =>
  rw [k3] at ho
  cases k4:kind == 4 with
  | true =>
   rw [k4] at ho
   simp only [cond_true,cond_false] at ho ⊢
   have o3:(blockS c body (putS { nd00 with kind:=8,a:=(kid0S c e s).2 } (kid0S c e s).1)).over=false:=by
    cases hv:(blockS c body (putS { nd00 with kind:=8,a:=(kid0S c e s).2 } (kid0S c e s).1)).over with
    | false=>rfl
    | true=>rw [hv,cond_true,hv] at ho; cases ho
   have o2:=ov_back (rb _).over o3
   have o1:=ov_back (putS_rel _ _).over o2
   obtain ⟨p0,v0⟩:=h0 o1
   have s1:=h.step hn0.toS p0 (Nat.le_refl _)
   have p1:=Lw.put s1.over o2
   have s2:=s1.step (putS_rel _ _).toS p1 (by omega)
   have p2:=hb _ _ s2 o3
   have e1:(putI (kid0S c e s).1).toNat=(kid0S c e s).1.nodes.length:=by rw [put_int o2,Int.toNat_natCast]
   rw [o3,cond_false,e1]
   refine (loop_lw p0 rfl o2 p2).cast rfl rfl fun to => ?_
   rw [p1.len,p0.len,v0]; rfl
  | false =>
  rw [k4] at ho
  cases k5:kind == 5 with
  | true =>
   rw [k5] at ho
   simp only [cond_true,cond_false] at ho ⊢
   have o2:=ov_back (putS_rel _ _).over ho
   have o1:=ov_back (rb _).over o2
   have p0:=Lw.put h.over o1
   have s1:=h.step (putS_rel _ _).toS p0 (by omega)
   have p1:=hb _ _ s1 o2
   have s2:=s1.step (rb _) p1 lb
   have p2:=Lw.put s2.over ho
   refine (p0.trans (p1.trans p2)).cast rfl (by omega) fun to => ?_
   rw [p1.len,p0.len,goOn_pos,goOn_pos]
   rfl
  | false =>
  rw [k5] at ho
  cases k6:kind == 6 with
  | true =>
   rw [k6] at ho
   simp only [cond_true,cond_false] at ho ⊢
   obtain ⟨p0,v0⟩:=h0 (ov_back (putS_rel _ _).over ho)
   have s1:=h.step hn0.toS p0 (Nat.le_refl _)
   refine (p0.trans (Lw.put s1.over ho)).cast rfl rfl fun to => ?_
   rw [v0,p0.len]; rfl
  | false=>exact .refl h.over
theorem blockS_lw (c:LowC) : ∀ (l:List Stmt) (s:LowS) (m:Nat),LSt s m→(blockS c l s).over=false→Lw s (blockS c l s) (szB c l) (slB c l) (blockD c l s.nodes.length m)
 | [],s,m,h,ho=>by
  unfold blockS szB slB
  refine (Lw.refl h.over).cast rfl rfl fun to => ?_
  unfold blockD; rfl
 | x::r,s,m,h,ho=>by
  have hx:=stmtS_lw c x s m h
  have hr:=fun s m=>blockS_lw c r s m
  unfold blockS at ho ⊢
  rw [h.over,cond_false] at ho ⊢
  have o1:=ov_back (blockS_rel c r _).over ho
  have p1:=hx o1
  have s1:=h.step (stmtS_rel c x s h.over) p1 (slS_le c x)
  unfold szB slB
  refine (p1.trans (hr _ _ s1 ho)).cast rfl rfl fun to => ?_
  rw [p1.len]
  show _=blockD c (x::r) _ _ _
  rw [blockD]
end
def locN (th:Thread):Nat:=(th.locals.map Decl.cells).length
def thrD (p:Prg) (t:Nat) (th:Thread):List Nd:=blockD (thrC p t th) th.body 0 (locN th) (szB (thrC p t th) th.body)++[{ nd00 with kind:=9,origin:=(szB (thrC p t th) th.body:Nat) }]
def thrG (p:Prg) (t:Nat) (th:Thread):Gr:=⟨th.name,(locN th:Nat),(locN th+slB (thrC p t th) th.body:Nat),thrD p t th⟩
theorem low0_st (th:Thread) (hl:th.locals.length≤64):LSt (low0 th) (locN th):=⟨rfl,by unfold locN; rw [List.length_map]; omega,fun o h=>(by cases h),Nat.zero_le _,rfl⟩
theorem thr_lw (p:Prg) (t:Nat) (th:Thread) (hl:th.locals.length≤64) (ho:(endS (blockS (thrC p t th) th.body (low0 th))).over=false):grS (thrC p t th) (endS (blockS (thrC p t th) th.body (low0 th)))=thrG p t th∧szB (thrC p t th) th.body<4096:=by
 have o1:(blockS (thrC p t th) th.body (low0 th)).over=false:=ov_back (endS_rel _).over ho
 have p1:=blockS_lw (thrC p t th) th.body (low0 th) (locN th) (low0_st th hl) o1
 have l0:(low0 th).nodes.length=0:=rfl
 have l1:(blockS (thrC p t th) th.body (low0 th)).nodes.length=szB (thrC p t th) th.body:=by rw [p1.len,l0,Nat.zero_add]
 have sl:(blockS (thrC p t th) th.body (low0 th)).slots=((locN th+slB (thrC p t th) th.body:Nat):Int):=by rw [p1.slots]; show ((locN th:Nat):Int)+_=_; omega
 have ld:=p1.lead (szB (thrC p t th) th.body)
 rw [show leadN (goOn (szB (thrC p t th) th.body) (low0 th).nodes.length (szB (thrC p t th) th.body):Nat) (low0 th).opens (low0 th).nodes=[] from rfl,List.nil_append,l0] at ld
 generalize blockS (thrC p t th) th.body (low0 th)=S at ho o1 l1 sl ld
 unfold endS at ho ⊢
 rw [o1,cond_false] at ho ⊢
 have hb:=put_fit ho
 have hlt:=of_decide_eq_false hb
 refine ⟨?_,by omega⟩
 rw [putS_small _ hb]
 unfold grS thrG thrD
 show (⟨_,_,S.slots,zeroLast (leadN S.nodes.length S.opens S.nodes++[_])⟩:Gr)=_
 rw [sl,l1,ld]
 have hz : ∀ (A:List Nd) (n:Nd),n.next=0→zeroLast (A++[n])=A++[n]:=fun A n hn=>by
  have e:(A++[n]).length - 1=A.length:=by rw [List.length_append]; rfl
  unfold zeroLast
  rw [e,show (A++[n])[A.length]? = some n by rw [List.getElem?_append_right (Nat.le_refl _),Nat.sub_self]; rfl]
  show (A++[n]).set A.length { n with next:=0 }=_
  rw [List.set_append_right _ _ (Nat.le_refl _),Nat.sub_self]
  obtain ⟨_,_,_,_,_,_,nx,_,_⟩:=n
  simp only at hn
  subst hn
  rfl
 rw [hz _ _ rfl]
 rfl
end Go.Proofs.YthboippafkcoiaaGreatDoor.am
namespace Go.Proofs.YthboippafkcoiaaGreatDoor.am
open Go Go.Proofs
set_option linter.all false
inductive Sk where
 | line (k:Nat)
 | seq (s t:Sk)
 | cond (s t:Sk)
 | loop (k:Nat) (t:Sk)
def Sk.size:Sk→Nat
 | .line k=>k
 | .seq s t=>s.size+t.size
 | .cond s t=>1+(s.size+t.size)
 | .loop k t=>k+(1+t.size)
theorem goOn_of_pos {k a to:Nat} (h:0<k):goOn k a to=a:=by
 cases k with
 | zero=>omega
 | succ n=>rfl
theorem goOn_cases (k a to:Nat):(k=0∧goOn k a to=to)∨(0<k∧goOn k a to=a):=by
 cases k with
 | zero=>exact .inl ⟨rfl,rfl⟩
 | succ n=>exact .inr ⟨Nat.succ_pos _,rfl⟩
end Go.Proofs.YthboippafkcoiaaGreatDoor.am
namespace Go.Proofs.YthboippafkcoiaaGreatDoor.am
open Go Go.Proofs
set_option linter.all false
def At (L:List Nd) (a:Nat) (D:List Nd):Prop := ∀ i n,D[i]? = some n→L[a+i]? = some n
theorem At.app {L X Y:List Nd} {a k:Nat} (h:At L a (X++Y)) (hk:X.length=k):At L a X∧At L (a+k) Y:=by
 subst hk
 refine ⟨fun i n e=>h i n ?_,fun i n e => ?_⟩
 ·rw [List.getElem?_append_left (List.getElem?_eq_some_iff.1 e).1]; exact e
 ·have:=h (X.length+i) n (by rw [List.getElem?_append_right (by omega),Nat.add_sub_cancel_left]; exact e)
  rwa [← Nat.add_assoc] at this
theorem At.cons {L Y:List Nd} {n:Nd} {a:Nat} (h:At L a (n::Y)):L[a]? = some n∧At L (a+1) Y:=by
 refine ⟨h 0 n rfl,fun i n' e => ?_⟩
 have:=h (i+1) n' e
 rwa [show a+(i+1)=a+1+i by omega] at this
mutual
theorem exprD_len (c:LowC) : ∀ (e:Expr) (a m to:Nat),(exprD c e a m to).length=szE c e
 | .mk kind op _ name kids _,a,m,to=>by
  have h0:=fun a m to=>kid0D_len c kids a m to
  have h1:=fun a m to=>kid1D_len c kids a m to
  unfold exprD szE
  cases kind == 1 <;> cases kind == 2 <;> cases decide (localI c.p c.t name ≥ 0) <;> cases two op <;> simp only [cond_true,cond_false,List.length_append,h0,h1,List.length_cons,List.length_nil]
theorem kid0D_len (c:LowC) : ∀ (l:List Expr) (a m to:Nat),(kid0D c l a m to).length=sz0 c l
 | [],a,m,to=>by unfold kid0D sz0; rfl
 | e::_,a,m,to=>by unfold kid0D sz0; exact exprD_len c e a m to
theorem kid1D_len (c:LowC) : ∀ (l:List Expr) (a m to:Nat),(kid1D c l a m to).length=sz1 c l
 | [],a,m,to=>by unfold kid1D sz1; rfl
 | _::r,a,m,to=>by unfold kid1D sz1; exact kid0D_len c r a m to
end
theorem swapD_len (c:LowC) (name other:ByteArray) (v:Val) (a m to:Nat):(swapD c name other v a m to).length=bif decide (localI c.p c.t name ≥ 0) then 1 else 2:=by
 unfold swapD
 cases decide (localI c.p c.t name ≥ 0) <;> rfl
mutual
theorem stmtD_len (c:LowC) : ∀ (x:Stmt) (a m to:Nat),(stmtD c x a m to).length=szS c x
 | .mk kind name other e body els _,a,m,to=>by
  have h0:=fun a m to=>kid0D_len c e a m to
  have h1:=fun a m to=>blockD_len c body a m to
  have h2:=fun a m to=>blockD_len c els a m to
  unfold stmtD szS
  cases kind == 1 <;> cases kind == 2 <;> cases kind == 3 <;> cases kind == 4 <;> cases kind == 5 <;> cases kind == 6 <;> simp only [cond_true,cond_false,List.length_append,h0,h1,h2,List.length_cons,List.length_nil,swapD_len] <;> omega
theorem blockD_len (c:LowC) : ∀ (l:List Stmt) (a m to:Nat),(blockD c l a m to).length=szB c l
 | [],a,m,to=>by unfold blockD szB; rfl
 | x::r,a,m,to=>by unfold blockD szB; rw [List.length_append,stmtD_len c x,blockD_len c r]
end
theorem thr_len (p:Prg) (t:Nat) (th:Thread):(thrD p t th).length=szB (thrC p t th) th.body+1:=by unfold thrD; rw [List.length_append,blockD_len]; rfl
end Go.Proofs.YthboippafkcoiaaGreatDoor.am
namespace Go.Proofs.YthboippafkcoiaaGreatDoor.am
open Go
def hasD (l:List Decl) (n:ByteArray):Bool:=l.any fun d=>seq d.name n
def hasT (l:List Thread) (n:ByteArray):Bool:=l.any fun d=>seq d.name n
theorem seq_comm (a b:ByteArray):seq a b=seq b a:=by
 unfold seq
 rw [Bool.eq_iff_iff]
 simp only [beq_iff_eq]
 exact ⟨Eq.symm,Eq.symm⟩
theorem findI_has : ∀ (l:List Decl) (n:ByteArray) (k:Nat),decide (findI l n k ≥ 0)=hasD l n
 | [],n,k=>rfl
 | d::l,n,k=>by
  unfold findI hasD
  rw [List.any_cons]
  by_cases h:seq d.name n=true
  ·rw [if_pos h,h,Bool.true_or]
   exact decide_eq_true (Int.natCast_nonneg k)
  ·rw [if_neg h]
   have:=findI_has l n (k+1)
   rw [this]
   have h:seq d.name n=false:=by simpa using h
   rw [h,Bool.false_or]
   rfl
theorem threadI_has : ∀ (l:List Thread) (n:ByteArray) (k:Nat),decide (threadI l n k ≥ 0)=hasT l n
 | [],n,k=>rfl
 | d::l,n,k=>by
  unfold threadI hasT
  rw [List.any_cons]
  by_cases h:seq d.name n=true
  ·rw [if_pos h,h,Bool.true_or]
   exact decide_eq_true (Int.natCast_nonneg k)
  ·rw [if_neg h]
   have:=threadI_has l n (k+1)
   rw [this]
   have h:seq d.name n=false:=by simpa using h
   rw [h,Bool.false_or]
   rfl
theorem threadI_lt : ∀ (l:List Thread) (n:ByteArray) (k i:Nat) (t:Thread),l[i]? = some t→seq t.name n=true→decide (threadI l n k<(k+i:Nat))=hasT (l.take i) n
 | [],n,k,i,t,h,_=>by simp at h
 | d::l,n,k,0,t,h,hn=>by
  simp at h; subst h
  unfold threadI
  rw [if_pos hn]
  simp [hasT]
 | d::l,n,k,i+1,t,h,hn=>by
  unfold threadI
  rw [List.take_succ_cons]
  unfold hasT
  rw [List.any_cons]
  by_cases hd:seq d.name n=true
  ·rw [if_pos hd,hd,Bool.true_or]
   exact decide_eq_true (by omega)
  ·rw [if_neg hd]
   have hd:seq d.name n=false:=by simpa using hd
   rw [hd,Bool.false_or]
   have:=threadI_lt l n (k+1) i t (by simpa using h) hn
   rw [show k+1+i=k+(i+1) by omega] at this
   exact this
theorem same_ks (a b:ByteArray):MK.same (.ks a) (.ks b)=seq a b:=rfl
def txt (M:MI):Prop := ∀ p ∈ M,∃ a,p.1 = .ks a
theorem same_comm (k q:MK):MK.same k q=MK.same q k:=by
 cases k <;> cases q <;> first | rfl | exact seq_comm _ _ | (show (_ == _)=(_ == _); rw [Bool.eq_iff_iff,beq_iff_eq,beq_iff_eq]; exact ⟨Eq.symm,Eq.symm⟩)
theorem get_cons (k:MK) (v:Int) (r:MI) (q:MK):mgetI ((k,v)::r) q=bif MK.same k q then v else mgetI r q:=by rw [same_comm]; rfl
theorem put_cons (k:MK) (v:Int) (r:MI) (q:MK) (x:Int):mputI ((k,v)::r) q x=bif MK.same k q then (q,x)::r else (k,v)::mputI r q x:=by rw [same_comm]; rfl
theorem put_nil (q:MK) (x:Int):mputI [] q x=[(q,x)]:=by rw [mputI]
theorem get_put : ∀ (M:MI) (a b:ByteArray) (x:Int),txt M→mgetI (mputI M (.ks a) x) (.ks b)=bif seq a b then x else mgetI M (.ks b)
 | [],a,b,x,_=>by
  rw [put_nil,get_cons,same_ks]
 | (k,v)::M,a,b,x,h=>by
  obtain ⟨c,hc⟩:=h (k,v) (by simp)
  simp only at hc
  subst hc
  have ih:=get_put M a b x (fun p hp=>h p (by simp [hp]))
  rw [put_cons,get_cons,same_ks,same_ks]
  cases hca:seq c a with
  | true =>
   rw [cond_true,get_cons,same_ks]
   cases hab:seq a b with
   | true=>rfl
   | false =>
    have hcb:seq c b=false:=by
     unfold seq at *
     have:c.toList=a.toList:=by simpa using hca
     rw [this]; exact hab
    rw [hcb]; rfl
  | false =>
   rw [cond_false,get_cons,same_ks,ih]
   cases hab:seq a b with
   | true =>
    have hcb:seq c b=false:=by
     unfold seq at *
     have:a.toList=b.toList:=by simpa using hab
     rw [← this]; exact hca
    rw [hcb]; rfl
   | false=>rfl
theorem txt_put : ∀ (M:MI) (a:ByteArray) (x:Int),txt M→txt (mputI M (.ks a) x)
 | [],a,x,_=>fun p hp=>by
  have:p=(.ks a,x):=by simpa [mputI] using hp
  exact ⟨a,by rw [this]⟩
 | (k,v)::M,a,x,h=>by
  intro p hp
  rw [put_cons] at hp
  cases hs:MK.same k (.ks a) with
  | true =>
   rw [hs] at hp
   rcases List.mem_cons.1 hp with rfl | hp
   ·exact ⟨a,rfl⟩
   ·exact h p (by simp [hp])
  | false =>
   rw [hs] at hp
   rcases List.mem_cons.1 hp with rfl | hp
   ·exact h _ (by simp)
   ·exact txt_put M a x (fun p hp=>h p (by simp [hp])) p hp
structure Is1 (M:MI) (f:ByteArray→Bool):Prop where
 txt:txt M
 get : ∀ n,mgetI M (.ks n)=bif f n then 1 else 0
theorem Is1.nil:Is1 [] fun _=>false:=⟨fun p hp=>by simp at hp,fun n=>rfl⟩
theorem Is1.put {M:MI} {f:ByteArray→Bool} (h:Is1 M f) (a:ByteArray):Is1 (mputI M (.ks a) 1) fun n=>f n || seq a n:=by
 refine ⟨txt_put M a 1 h.txt,fun n => ?_⟩
 rw [get_put M a n 1 h.txt,h.get]
 cases seq a n <;> cases f n <;> rfl
theorem Is1.ones {M:MI} {f:ByteArray→Bool} (h:Is1 M f) : ∀ (l:List Decl),Is1 (ones M l) fun n=>f n || hasD l n
 | []=>⟨h.txt,fun n=>by rw [show (am.ones M [])=M from rfl,h.get]; simp [hasD]⟩
 | d::l=>by
  have:=(h.put d.name).ones l
  refine ⟨this.txt,fun n => ?_⟩
  rw [show am.ones M (d::l)=am.ones (mputI M (.ks d.name) 1) l from rfl,this.get]
  simp only [hasD,List.any_cons,Bool.or_assoc]
theorem Is1.pos {M:MI} {f:ByteArray→Bool} (h:Is1 M f) (n:ByteArray):decide (mgetI M (.ks n) > 0)=f n:=by
 rw [h.get]; cases f n <;> rfl
theorem least4 (a b c d:Bool):leastW [whenI 1 a,whenI 2 b,whenI 3 c,whenI 4 d] 0=bif a then 1 else bif b then 2 else bif c then 3 else bif d then 4 else 0:=by
 cases a <;> cases b <;> cases c <;> cases d <;> rfl
theorem least3 (a b c:Bool):leastW [whenI 1 a,whenI 2 b,whenI 3 c] 0=bif a then 1 else bif b then 2 else bif c then 3 else 0:=by
 cases a <;> cases b <;> cases c <;> rfl
def Ag (o:Option Flt) (f:Flt):Prop:=match o with
 | some g=>f=g∧g.rule≠0
 | none=>f=⟨0,0⟩
theorem Ag.rule {o:Option Flt} {f:Flt} (h:Ag o f):(f.rule != 0)=o.isSome:=by
 cases o with
 | none=>have h:f=⟨0,0⟩:=h; rw [h]; rfl
 | some g=>obtain ⟨rfl,h⟩:=h; simpa using h
theorem pos_ne (a b c d:Bool):decide ((bif a then (1:Int) else bif b then 2 else bif c then 3 else bif d then 4 else 0) > 0)=((bif a then (1:Int) else bif b then 2 else bif c then 3 else bif d then 4 else 0) != 0):=by
 cases a <;> cases b <;> cases c <;> cases d <;> rfl
theorem tops_ag (p:Prg) (kind:Int) (most:Nat) (bad:Int→Bool) (hbad : ∀ w,bad w=wordI kind w) (rest:ByteArray→Bool) (hrest : ∀ pre name,twiceB p kind pre name=(rest name || hasD pre name)) :
  ∀ (l:List Decl) (i:Nat) (M:MI) (pre:List Decl),pre.length=i→i≤most→Is1 M (fun n=>rest n || hasD pre n)→Ag (topsW most bad l i M) (declsF p kind most pre l)
 | [],i,M,pre,_,_,_=>by unfold topsW declsF; rfl
 | d::l,i,M,pre,hp,hi,hM=>by
  have hlen:((pre.length:Int):Int)=i:=by rw [hp]
  have h3:((i:Int) == (most:Int))=decide ((i:Int) ≥ most):=by
   rw [Bool.eq_iff_iff]; simp only [beq_iff_eq,decide_eq_true_eq]; omega
  have hL:leastW (topRules M most bad i d) 0=declI p kind pre d pre.length most:=by
   unfold topRules
   rw [least4,hM.pos,h3,hbad]
   unfold declI
   rw [hrest,hlen]
  unfold topsW declsF
  rw [hL]
  have hpn:decide (declI p kind pre d pre.length most > 0)=(declI p kind pre d pre.length most != 0):=pos_ne ..
  rw [hpn]
  cases hc:declI p kind pre d pre.length most != 0 with
  | true=>exact ⟨rfl,by simpa using hc⟩
  | false =>
   show Ag (topsW most bad l (i+1) (mputI M (.ks d.name) 1)) (declsF p kind most (pre++[d]) l)
   have hlt : ¬ (i:Int) ≥ most:=by
    intro h
    have hh:decide ((i:Int) ≥ most)=true:=decide_eq_true h
    unfold declI at hc
    rw [hlen,hh] at hc
    revert hc
    cases nameB d.name <;> cases twiceB p kind pre d.name <;> intro hc <;> simp at hc
   refine tops_ag p kind most bad hbad rest hrest l (i+1) _ (pre++[d]) (by simp [hp]) (by omega) ?_
   have:=hM.put d.name
   refine ⟨this.txt,fun n => ?_⟩
   rw [this.get]
   simp [hasD,Bool.or_assoc]
theorem locs_ag (p:Prg) (above:MI) (hA:Is1 above fun n=>hasD p.shared n || hasD p.locks n) :
  ∀ (l:List Decl) (i:Nat) (M:MI) (pre:List Decl),pre.length=i→i≤64→Is1 M (hasD pre)→Ag (localsW above l i M) (declsF p 2 64 pre l)
 | [],i,M,pre,_,_,_=>by unfold localsW declsF; rfl
 | d::l,i,M,pre,hp,hi,hM=>by
  have hlen:((pre.length:Int):Int)=i:=by rw [hp]
  have h3:((i:Int) == 64)=decide ((i:Int) ≥ 64):=by
   rw [Bool.eq_iff_iff]; simp only [beq_iff_eq,decide_eq_true_eq]; omega
  have h2:decide (IntKind.i64.wrap (mgetI M (.ks d.name)+mgetI above (.ks d.name)) > 0)=twiceB p 2 pre d.name:=by
   unfold twiceB
   rw [findI_has,findI_has,findI_has,hM.get,hA.get]
   cases hasD pre d.name <;> cases hasD p.shared d.name <;> cases hasD p.locks d.name <;> rfl
  have h4:(d.word != 0)=wordI 2 d.word:=rfl
  have hL:leastW (localRules above M i d) 0=declI p 2 pre d pre.length 64:=by
   unfold localRules
   rw [least4,h2,h3,h4]
   unfold declI
   rw [hlen]
  unfold localsW declsF
  rw [hL]
  have hpn:decide (declI p 2 pre d pre.length 64 > 0)=(declI p 2 pre d pre.length 64 != 0):=pos_ne ..
  rw [hpn]
  cases hc:declI p 2 pre d pre.length 64 != 0 with
  | true=>exact ⟨rfl,by simpa using hc⟩
  | false =>
   show Ag (localsW above l (i+1) (mputI M (.ks d.name) 1)) (declsF p 2 64 (pre++[d]) l)
   have hlt : ¬ (i:Int) ≥ 64:=by
    intro h
    have hh:decide ((i:Int) ≥ 64)=true:=decide_eq_true h
    unfold declI at hc
    rw [hlen,hh] at hc
    revert hc
    cases nameB d.name <;> cases twiceB p 2 pre d.name <;> intro hc <;> simp at hc
   refine locs_ag p above hA l (i+1) _ (pre++[d]) (by simp [hp]) (by omega) ?_
   have:=hM.put d.name
   refine ⟨this.txt,fun n => ?_⟩
   rw [this.get]
   simp [hasD]
structure IsTop (M:MI) (f:ByteArray→Int):Prop where
 txt:txt M
 get : ∀ n,mgetI M (.ks n)=f n
theorem IsTop.put {M:MI} {f:ByteArray→Int} (h:IsTop M f) (a:ByteArray) (s:Int):IsTop (putTop M a s) fun n=>bif seq a n && f n == 0 then s else f n:=by
 unfold putTop
 cases hc:mgetI M (.ks a) == 0 with
 | true =>
  refine ⟨txt_put M a s h.txt,fun n => ?_⟩
  show mgetI (mputI M (.ks a) s) (.ks n)=_
  rw [get_put M a n s h.txt,h.get]
  cases hs:seq a n with
  | false=>rfl
  | true =>
   have:f n=f a:=by
    rw [← h.get n,← h.get a]
    have key : ∀ M:MI,mgetI M (.ks n)=mgetI M (.ks a):=by
     intro M
     induction M with
     | nil=>rfl
     | cons p M ih =>
      obtain ⟨k,v⟩:=p
      rw [get_cons,get_cons,ih]
      have:MK.same k (.ks n)=MK.same k (.ks a):=by
       cases k with
       | ks c=>show seq c n=seq c a; unfold seq at *; rw [show a.toList=n.toList by simpa using hs]
       | _=>rfl
      rw [this]
    exact key M
   rw [← h.get a,] at this
   rw [this,hc]; rfl
 | false =>
  refine ⟨h.txt,fun n => ?_⟩
  show mgetI M (.ks n)=_
  rw [h.get]
  cases hs:seq a n with
  | false=>rfl
  | true =>
   have:f n=f a:=by
    rw [← h.get n,← h.get a]
    have key : ∀ M:MI,mgetI M (.ks n)=mgetI M (.ks a):=by
     intro M
     induction M with
     | nil=>rfl
     | cons p M ih =>
      obtain ⟨k,v⟩:=p
      rw [get_cons,get_cons,ih]
      have:MK.same k (.ks n)=MK.same k (.ks a):=by
       cases k with
       | ks c=>show seq c n=seq c a; unfold seq at *; rw [show a.toList=n.toList by simpa using hs]
       | _=>rfl
      rw [this]
    exact key M
   rw [h.get a,← this] at hc
   rw [hc]; rfl
theorem IsTop.putAll {s:Int} (hs:s≠0) : ∀ (l:List Decl) {M:MI} {f:ByteArray→Int},IsTop M f→IsTop (putAll M l s) fun n=>bif hasD l n && f n == 0 then s else f n
 | [],M,f,h=>⟨h.txt,fun n=>h.get n⟩
 | d::l,M,f,h=>by
  have:=IsTop.putAll hs l (h.put d.name s)
  refine ⟨this.txt,fun n => ?_⟩
  rw [show am.putAll M (d::l) s=am.putAll (putTop M d.name s) l s from rfl,this.get]
  show (bif hasD l n && (bif seq d.name n && f n == 0 then s else f n) == 0 then s else (bif seq d.name n && f n == 0 then s else f n))=bif (seq d.name n || hasD l n) && f n == 0 then s else f n
  have hs':(s == 0)=false:=by simpa using hs
  cases seq d.name n <;> cases hasD l n <;> cases hf:f n == 0 <;> simp [hf,hs']
theorem IsTop.putThs : ∀ (l:List Thread) {M:MI} {f:ByteArray→Int},IsTop M f→IsTop (putThs M l) fun n=>bif hasT l n && f n == 0 then 3 else f n
 | [],M,f,h=>⟨h.txt,fun n=>h.get n⟩
 | d::l,M,f,h=>by
  have:=IsTop.putThs l (h.put d.name 3)
  refine ⟨this.txt,fun n => ?_⟩
  rw [show am.putThs M (d::l)=am.putThs (putTop M d.name 3) l from rfl,this.get]
  show (bif hasT l n && (bif seq d.name n && f n == 0 then 3 else f n) == 0 then 3 else (bif seq d.name n && f n == 0 then 3 else f n))=bif (seq d.name n || hasT l n) && f n == 0 then 3 else f n
  cases seq d.name n <;> cases hasT l n <;> cases hf:f n == 0 <;> simp [hf]
def sortI (p:Prg) (n:ByteArray):Int:=bif hasD p.shared n then 1 else bif hasD p.locks n then 2 else bif hasT p.threads n then 3 else 0
theorem top_is (p:Prg):IsTop (topOf p) (sortI p):=by
 have h0:IsTop [] fun _=>0:=⟨fun p hp=>by simp at hp,fun n=>rfl⟩
 have:=IsTop.putThs p.threads (IsTop.putAll (s:=2) (by decide) p.locks (IsTop.putAll (s:=1) (by decide) p.shared h0))
 refine ⟨this.txt,fun n=>(this.get n).trans ?_⟩
 unfold sortI
 cases hasD p.shared n <;> cases hasD p.locks n <;> cases hasT p.threads n <;> rfl
end Go.Proofs.YthboippafkcoiaaGreatDoor.am
namespace Go.Proofs.YthboippafkcoiaaGreatDoor.am
open Go
def R056 (v:Int):Prop:=v=0∨v=5∨v=6
theorem least_e (a d:Bool) {v:Int} (hv:R056 v):leastW [whenI 4 a,v,whenI 7 d] 0=bif a then 4 else (bif (v == 0) && d then 7 else v):=by
 rcases hv with rfl | rfl | rfl <;> cases a <;> cases d <;> rfl
theorem least_s0 (a d:Bool):leastW [whenI 4 a,whenI 7 d] 0=bif a then 4 else (bif ((0:Int) == 0) && d then 7 else 0):=by
 cases a <;> cases d <;> rfl
theorem least_s1 (a d:Bool) {v:Int} (hv:R056 v):leastW [whenI 4 a,whenI 7 d,v] 0=bif a then 4 else (bif (v == 0) && d then 7 else v):=by
 rcases hv with rfl | rfl | rfl <;> cases a <;> cases d <;> rfl
theorem least_s2 (a d:Bool) {v u:Int} (hv:R056 v) (hu:R056 u):leastW [whenI 4 a,whenI 7 d,v,u] 0=bif a then 4 else (bif (leastI v u == 0) && d then 7 else leastI v u):=by
 rcases hv with rfl | rfl | rfl <;> rcases hu with rfl | rfl | rfl <;> cases a <;> cases d <;> rfl
theorem leastI_056 {v u:Int} (hv:R056 v) (hu:R056 u):R056 (leastI v u):=by
 rcases hv with rfl | rfl | rfl <;> rcases hu with rfl | rfl | rfl <;> simp [R056,leastI]
theorem pos_dp (a d:Bool) {v:Int} (hv:R056 v):decide ((bif a then (4:Int) else (bif (v == 0) && d then 7 else v)) > 0)=((bif a then (4:Int) else (bif (v == 0) && d then 7 else v)) != 0):=by
 rcases hv with rfl | rfl | rfl <;> cases a <;> cases d <;> rfl
section
variable {p:Prg} {i:Nat} {th:Thread} {M:MI}
theorem local_has (hi:p.threads[i]? = some th) (n:ByteArray):decide (localI p i n ≥ 0)=hasD th.locals n:=by
 unfold localI
 rw [if_neg (by omega),show (i:Int).toNat=i by omega,hi]
 exact findI_has ..
theorem var056 (p:Prg) (i:Int) (n:ByteArray) (b:Bool):R056 (variableI p i n b):=by
 unfold variableI
 cases decide (localI p i n ≥ 0) <;> cases decide (findI p.shared n 0 ≥ 0) <;> cases (decide (findI p.locks n 0 ≥ 0) || decide (threadI p.threads n 0 ≥ 0)) <;> cases b <;> simp [R056]
theorem lock056 (p:Prg) (i:Int) (n:ByteArray):R056 (lockI p i n):=by
 unfold lockI
 cases decide (localI p i n ≥ 0) <;> cases decide (findI p.locks n 0 ≥ 0) <;> cases (decide (findI p.shared n 0 ≥ 0) || decide (threadI p.threads n 0 ≥ 0)) <;> simp [R056]
theorem var_eq (hi:p.threads[i]? = some th) (hM:Is1 M (hasD th.locals)) (n:ByteArray) (b:Bool):variableW (topOf p) M n b=variableI p i n b:=by
 unfold variableW variableI
 rw [hM.pos,local_has hi,findI_has,findI_has,threadI_has,(top_is p).get]
 unfold sortI
 cases hasD th.locals n <;> cases hasD p.shared n <;> cases hasD p.locks n <;> cases hasT p.threads n <;> cases b <;> rfl
theorem lock_eq (hi:p.threads[i]? = some th) (hM:Is1 M (hasD th.locals)) (hLS : ∀ n,hasD p.locks n=true→hasD p.shared n=false) (n:ByteArray):guardW (topOf p) M n=lockI p i n:=by
 unfold guardW lockI
 rw [hM.pos,local_has hi,findI_has,findI_has,threadI_has,(top_is p).get,hM.get]
 unfold sortI
 have:=hLS n
 revert this
 cases hasD th.locals n <;> cases hasD p.shared n <;> cases hasD p.locks n <;> cases hasT p.threads n <;> intro this <;> first | rfl | (exact absurd (this rfl) (by decide))
mutual
theorem expr_ag (hi:p.threads[i]? = some th) (hM:Is1 M (hasD th.locals)) : ∀ (e:Expr) (deep:Int),Ag (exprW (topOf p) M e deep) (exprF p i e deep)
 | .mk kind op word name kids at_,deep=>by
  have ih:=exprs_ag hi hM kids (deep+1)
  have hv:R056 (bif kind == 2 then variableI p i name false else 0):=by
   cases kind == 2
   ·exact .inl rfl
   ·exact var056 ..
  have hL:leastW (exprRules (topOf p) M kind op word name kids at_ deep) 0=bif !partsB (.mk kind op word name kids at_) then 4 else deepI (bif kind == 2 then variableI p i name false else 0) deep:=by
   unfold exprRules
   rw [var_eq hi hM]
   exact least_e _ _ hv
  unfold exprW exprF
  rw [hL]
  have hp:decide ((bif !partsB (.mk kind op word name kids at_) then 4 else deepI (bif kind == 2 then variableI p i name false else 0) deep) > 0)=((bif !partsB (.mk kind op word name kids at_) then 4 else deepI (bif kind == 2 then variableI p i name false else 0) deep) != 0):=pos_dp _ _ hv
  rw [hp]
  cases !partsB (.mk kind op word name kids at_) with
  | true=>exact ⟨rfl,show (4:Int)≠0 by decide⟩
  | false =>
   simp only [cond_false]
   cases hd:deepI (bif kind == 2 then variableI p i name false else 0) deep != 0 with
   | true=>exact ⟨rfl,by simpa using hd⟩
   | false=>exact ih
theorem exprs_ag (hi:p.threads[i]? = some th) (hM:Is1 M (hasD th.locals)) : ∀ (l:List Expr) (deep:Int),Ag (exprsW (topOf p) M l deep) (exprsF p i l deep)
 | [],deep=>by unfold exprsW exprsF; rfl
 | e::l,deep=>by
  have h1:=expr_ag hi hM e deep
  have h2:=exprs_ag hi hM l deep
  unfold exprsW exprsF
  rw [h1.rule]
  cases he:exprW (topOf p) M e deep with
  | some f=>rw [he] at h1; exact h1
  | none=>exact h2
end
mutual
theorem stmt_ag (hi:p.threads[i]? = some th) (hM:Is1 M (hasD th.locals)) (hLS : ∀ n,hasD p.locks n=true→hasD p.shared n=false) : ∀ (s:Stmt) (deep:Int),Ag (stmtW (topOf p) M s deep) (stmtF p i s deep)
 | .mk kind name other e body els at_,deep=>by
  have h1:=exprs_ag hi hM e 1
  have h2:=block_ag hi hM hLS body (deep+1)
  have h3:=block_ag hi hM hLS els (deep+1)
  have hv:R056 (namesI p i kind name other):=by
   unfold namesI
   cases kind == 1 with
   | true=>exact var056 ..
   | false =>
    simp only [cond_false]
    cases kind == 2 with
    | true=>exact leastI_056 (var056 ..) (var056 ..)
    | false =>
     simp only [cond_false]
     cases kind == 5 with
     | true=>exact lock056 ..
     | false=>exact .inl rfl
  have hL:leastW (stmtRules (topOf p) M kind name other e body els at_ deep) 0=bif !fieldsB (.mk kind name other e body els at_) then 4 else deepI (namesI p i kind name other) deep:=by
   unfold stmtRules namesI
   rw [var_eq hi hM,var_eq hi hM,lock_eq hi hM hLS]
   cases kind == 1 with
   | true=>exact least_s1 _ _ (var056 ..)
   | false =>
    simp only [cond_false]
    cases kind == 2 with
    | true=>exact least_s2 _ _ (var056 ..) (var056 ..)
    | false =>
     simp only [cond_false]
     cases kind == 5 with
     | true=>exact least_s1 _ _ (lock056 ..)
     | false=>exact least_s0 _ _
  unfold stmtW stmtF
  rw [hL]
  have hp:decide ((bif !fieldsB (.mk kind name other e body els at_) then 4 else deepI (namesI p i kind name other) deep) > 0)=((bif !fieldsB (.mk kind name other e body els at_) then 4 else deepI (namesI p i kind name other) deep) != 0):=pos_dp _ _ hv
  rw [hp]
  cases !fieldsB (.mk kind name other e body els at_) with
  | true=>exact ⟨rfl,show (4:Int)≠0 by decide⟩
  | false =>
   simp only [cond_false]
   cases hd:deepI (namesI p i kind name other) deep != 0 with
   | true=>exact ⟨rfl,by simpa using hd⟩
   | false =>
    simp only [cond_false]
    rw [h1.rule,h2.rule]
    cases he:exprsW (topOf p) M e 1 with
    | some f=>rw [he] at h1; exact h1
    | none =>
     cases hb:blockW (topOf p) M body (deep+1) with
     | some f=>rw [hb] at h2; exact h2
     | none=>exact h3
theorem block_ag (hi:p.threads[i]? = some th) (hM:Is1 M (hasD th.locals)) (hLS : ∀ n,hasD p.locks n=true→hasD p.shared n=false) : ∀ (l:List Stmt) (deep:Int),Ag (blockW (topOf p) M l deep) (stmtsF p i l deep)
 | [],deep=>by unfold blockW stmtsF; rfl
 | s::l,deep=>by
  have h1:=stmt_ag hi hM hLS s deep
  have h2:=block_ag hi hM hLS l deep
  unfold blockW stmtsF
  rw [h1.rule]
  cases he:stmtW (topOf p) M s deep with
  | some f=>rw [he] at h1; exact h1
  | none=>exact h2
end
end
theorem one_nil:Is1 [] (hasD []):=⟨fun p hp=>by simp at hp,fun n=>rfl⟩
theorem above_is (p:Prg):Is1 (aboveM p) fun n=>hasD p.shared n || hasD p.locks n:=by
 have:=(one_nil.ones p.shared).ones p.locks
 refine ⟨this.txt,fun n => ?_⟩
 rw [show aboveM p=ones (ones [] p.shared) p.locks from rfl,this.get]
 simp [hasD]
theorem ths_ag (p:Prg) (hLS : ∀ n,hasD p.locks n=true→hasD p.shared n=false) : ∀ (l:List Thread) (i:Nat) (M:MI),l=p.threads.drop i→i≤8→Is1 M (fun n=>hasD p.shared n || hasD p.locks n || hasT (p.threads.take i) n)→Ag (thsW p (topOf p) l i M) (threadsF p i l ⟨0,0⟩)
 | [],i,M,_,_,_=>by unfold thsW threadsF; rfl
 | t::l,i,M,hl,hi8,hM=>by
  have hlt:i<p.threads.length:=by
   rcases Nat.lt_or_ge i p.threads.length with h | h
   ·exact h
   ·rw [List.drop_of_length_le h] at hl; cases hl
  have hi:p.threads[i]? = some t:=by
   have:=congrArg List.head? hl
   rw [List.head?_cons,List.head?_drop] at this
   exact this.symm
  have hl':l=p.threads.drop (i+1):=by
   have:=congrArg List.tail hl
   rw [List.tail_cons,List.tail_drop] at this
   exact this
  have h3:((i:Int) == 8)=decide ((i:Int) ≥ 8):=by
   rw [Bool.eq_iff_iff]; simp only [beq_iff_eq,decide_eq_true_eq]; omega
  have hd:decide (threadI p.threads t.name 0<i)=hasT (p.threads.take i) t.name:=by
   have:=threadI_lt p.threads t.name 0 i t hi (by unfold seq; simp)
   rw [Nat.zero_add] at this; exact this
  have h2:(decide (findI p.shared t.name 0 ≥ 0) || decide (findI p.locks t.name 0 ≥ 0) || decide (threadI p.threads t.name 0<i))=decide (mgetI M (.ks t.name) > 0):=by
   rw [hM.pos,findI_has,findI_has,hd]
  have hlo:=locs_ag p (aboveM p) (above_is p) t.locals 0 [] [] rfl (by omega) one_nil
  have hM1:Is1 (ones [] t.locals) (hasD t.locals):=by
   have:=one_nil.ones t.locals
   refine ⟨this.txt,fun n => ?_⟩
   rw [this.get]; simp [hasD]
  have hbl:=block_ag hi hM1 hLS t.body 1
  unfold thsW threadsF thRules
  rw [least3,h2,h3]
  cases hn : !nameB t.name with
  | true=>exact ⟨rfl,show (1:Int)≠0 by decide⟩
  | false =>
  cases hs:decide (mgetI M (.ks t.name) > 0) with
  | true=>exact ⟨rfl,show (2:Int)≠0 by decide⟩
  | false =>
  cases h8:decide ((i:Int) ≥ 8) with
  | true=>exact ⟨rfl,show (3:Int)≠0 by decide⟩
  | false =>
  have h8:=of_decide_eq_false h8
  show Ag (match threadW p (topOf p) t with | some f=>some f | none=>thsW p (topOf p) l (i+1) (mputI M (.ks t.name) 1)) (threadsF p (i+1) l (bif (declsF p 2 64 [] t.locals).rule == 0 then stmtsF p i t.body 1 else declsF p 2 64 [] t.locals))
  have hth:Ag (threadW p (topOf p) t) (bif (declsF p 2 64 [] t.locals).rule == 0 then stmtsF p i t.body 1 else declsF p 2 64 [] t.locals):=by
   unfold threadW
   have hr:=hlo.rule
   cases ho:localsW (aboveM p) t.locals 0 [] with
   | some f =>
    rw [ho] at hlo hr
    have:((declsF p 2 64 [] t.locals).rule == 0)=false:=by simpa using hr
    rw [this]; exact hlo
   | none =>
    rw [ho] at hr
    have:((declsF p 2 64 [] t.locals).rule == 0)=true:=by simpa using hr
    rw [this]; exact hbl
  have ih:=ths_ag p hLS l (i+1) (mputI M (.ks t.name) 1) hl' (by omega) (by
   have:=hM.put t.name
   refine ⟨this.txt,fun n => ?_⟩
   rw [this.get,take_snoc hi]
   simp [hasT,Bool.or_assoc])
  generalize (bif (declsF p 2 64 [] t.locals).rule == 0 then stmtsF p i t.body 1 else declsF p 2 64 [] t.locals)=f at *
  cases ho:threadW p (topOf p) t with
  | some g =>
   rw [ho] at hth
   obtain ⟨rfl,hg⟩:=hth
   have key : ∀ (l:List Thread) (i:Nat),threadsF p i l f=f:=by
    intro l
    cases l with
    | nil=>intro i; unfold threadsF; rfl
    | cons t l=>intro i; unfold threadsF; rw [show (f.rule != 0)=true by simpa using hg]; rfl
   rw [key]
   exact ⟨rfl,hg⟩
  | none =>
   rw [ho] at hth
   have hth:f=⟨0,0⟩:=hth
   rw [hth]
   exact ih
theorem first_ag (p:Prg):Ag (firstW p) (firstF p):=by
 have h1:=tops_ag p 0 64 minW (fun w=>by unfold minW wordI; cases (w == -9223372036854775808) <;> rfl) (fun _=>false) (fun pre name=>by unfold twiceB; rw [findI_has]; simp) p.shared 0 [] [] rfl (by omega) ⟨fun p hp=>by simp at hp,fun n=>rfl⟩
 have h2:=tops_ag p 1 16 anyW (fun w=>by unfold anyW wordI; rfl) (fun n=>hasD p.shared n) (fun pre name=>by unfold twiceB; rw [findI_has,findI_has]; simp [Bool.or_comm]) p.locks 0 (ones [] p.shared) [] rfl (by omega) (by
  have:=one_nil.ones p.shared
  refine ⟨this.txt,fun n => ?_⟩
  rw [this.get]; simp [hasD])
 unfold firstW firstF
 have r1:=h1.rule
 cases ho:topsW 64 minW p.shared 0 [] with
 | some f =>
  rw [show ((64:Nat):Int)=64 from rfl,ho] at h1 r1
  have:((declsF p 0 64 [] p.shared).rule == 0)=false:=by simpa using r1
  rw [this]
  obtain ⟨h1,hf⟩:=h1
  have h1:declsF p 0 64 [] p.shared=f:=h1
  rw [cond_false,h1]
  refine ⟨?_,hf⟩
  cases p.threads with
  | nil=>unfold threadsF; rfl
  | cons t l=>unfold threadsF; rw [show (f.rule != 0)=true by simpa using hf]; rfl
 | none =>
  rw [show ((64:Nat):Int)=64 from rfl,ho] at h1 r1
  have:((declsF p 0 64 [] p.shared).rule == 0)=true:=by simpa using r1
  rw [this,cond_true]
  have r2:=h2.rule
  cases ho2:topsW 16 anyW p.locks 0 (ones [] p.shared) with
  | some f =>
   rw [show ((16:Nat):Int)=16 from rfl,ho2] at h2
   obtain ⟨h2,hf⟩:=h2
   have h2:declsF p 1 16 [] p.locks=f:=h2
   rw [h2]
   refine ⟨?_,hf⟩
   cases p.threads with
   | nil=>unfold threadsF; rfl
   | cons t l=>unfold threadsF; rw [show (f.rule != 0)=true by simpa using hf]; rfl
  | none =>
   rw [show ((16:Nat):Int)=16 from rfl,ho2] at h2
   have h2:declsF p 1 16 [] p.locks=⟨0,0⟩:=h2
   rw [h2]
   refine ths_ag p ?_ p.threads 0 _ (by rw [List.drop_zero]) (by omega) ?_
   ·
    have key : ∀ (l:List Decl) (i:Nat) (M:MI) (pre:List Decl),Is1 M (fun n=>hasD p.shared n || hasD pre n)→topsW 16 anyW l i M=none → ∀ d ∈ l,hasD p.shared d.name=false:=by
     intro l
     induction l with
     | nil=>intro i M pre _ _ d hd; simp at hd
     | cons x l ih =>
      intro i M pre hM h d hd
      have hL:leastW (topRules M 16 anyW i x) 0=bif !nameB x.name then 1 else bif (hasD p.shared x.name || hasD pre x.name) then 2 else bif ((i:Int) == 16) then 3 else bif anyW x.word then 4 else 0:=by
       unfold topRules; rw [least4,hM.pos]
      unfold topsW at h
      cases hb:decide (leastW (topRules M 16 anyW i x) 0 > 0) with
      | true=>rw [hb] at h; cases h
      | false =>
      rw [hb] at h
      have hn:topsW 16 anyW l (i+1) (mputI M (.ks x.name) 1)=none:=h
      have hsx:hasD p.shared x.name=false:=by
       cases hs:hasD p.shared x.name with
       | false=>rfl
       | true =>
        rw [hL,hs,Bool.true_or] at hb
        have hb:=of_decide_eq_false hb
        exfalso
        apply hb
        cases nameB x.name
        ·show (1:Int) > 0; decide
        ·show (2:Int) > 0; decide
      rcases List.mem_cons.1 hd with rfl | hd
      ·exact hsx
      ·exact ih (i+1) _ (pre++[x]) (by
        have:=hM.put x.name
        refine ⟨this.txt,fun n => ?_⟩
        rw [this.get]; simp [hasD,Bool.or_assoc]) hn d hd
    intro n hn
    unfold hasD at hn
    obtain ⟨d,hd,hdn⟩:=List.any_eq_true.1 hn
    have:=key p.locks 0 _ [] (by
     have:=one_nil.ones p.shared
     refine ⟨this.txt,fun n => ?_⟩
     rw [this.get]; simp [hasD]) ho2 d hd
    have e : ∀ x:ByteArray,seq x d.name=seq x n:=fun x=>by
     unfold seq at *
     rw [show d.name.toList=n.toList by simpa using hdn]
    unfold hasD at this ⊢
    simpa [e] using this
   ·have:=(one_nil.ones p.shared).ones p.locks
    refine ⟨this.txt,fun n => ?_⟩
    rw [this.get]; simp [hasD,hasT]
theorem check_eq (p:Prg):checkW p=checkF p:=by
 have h:=first_ag p
 have hr:=h.rule
 unfold checkW checkF
 cases ho:firstW p with
 | some f =>
  rw [ho] at h hr
  rw [hr]
  obtain ⟨rfl,_⟩:=h
  rfl
 | none =>
  rw [ho] at hr
  rw [hr]; rfl
end Go.Proofs.YthboippafkcoiaaGreatDoor.am
namespace Go.Proofs.YthboippafkcoiaaGreatDoor.am
open Go Go.Proofs
set_option linter.all false
def varB (c:LowC) (name:ByteArray):Bool:=decide (localI c.p c.t name ≥ 0) || decide (findI c.p.shared name 0 ≥ 0)
mutual
def okE (c:LowC):Expr→Bool
 | .mk kind op word name kids at_=>partsB (.mk kind op word name kids at_) && (kind != 2 || varB c name) && okEs c kids
def okEs (c:LowC):List Expr→Bool
 | []=>true
 | e::l=>okE c e && okEs c l
end
def nmOkB (c:LowC) (kind:Int) (name other:ByteArray):Bool :=
 bif kind == 1 then varB c name else bif kind == 2 then varB c name && decide (findI c.p.shared other 0 ≥ 0) else bif kind == 5 then decide (findI c.p.locks name 0 ≥ 0) else true
mutual
def okS (c:LowC):Stmt→Bool
 | .mk kind name other e body els at_=>fieldsB (.mk kind name other e body els at_) && nmOkB c kind name other && okEs c e && okSs c body && okSs c els
def okSs (c:LowC):List Stmt→Bool
 | []=>true
 | x::l=>okS c x && okSs c l
end
theorem okEs_get {c:LowC} : ∀ {l:List Expr} {i:Nat} {d:Expr},okEs c l=true→l[i]? = some d→okE c d=true
 | [],i,d,_,e=>by cases e
 | x::l,0,d,h,e=>by cases e; unfold okEs at h; rw [Bool.and_eq_true] at h; exact h.1
 | x::l,i+1,d,h,e=>by unfold okEs at h; rw [Bool.and_eq_true] at h; exact okEs_get h.2 e
theorem okSs_get {c:LowC} : ∀ {l:List Stmt} {i:Nat} {d:Stmt},okSs c l=true→l[i]? = some d→okS c d=true
 | [],i,d,_,e=>by cases e
 | x::l,0,d,h,e=>by cases e; unfold okSs at h; rw [Bool.and_eq_true] at h; exact h.1
 | x::l,i+1,d,h,e=>by unfold okSs at h; rw [Bool.and_eq_true] at h; exact okSs_get h.2 e
theorem not_f {b:Bool} (h:(!b)=false):b=true:=by simpa using h
theorem deep_zero {r deep:Int} (h:deepI r deep=0):r=0:=by
 unfold deepI at h
 cases hb:((r == 0) && decide (deep > 64)) with
 | true=>rw [hb] at h; cases h
 | false=>rw [hb] at h; exact h
theorem var_zero {c:LowC} {name:ByteArray} {b:Bool} (h:variableI c.p c.t name b=0):varB c name=true∧(b=true→decide (findI c.p.shared name 0 ≥ 0)=true):=by
 unfold variableI at h
 unfold varB
 cases h1:decide (localI c.p c.t name ≥ 0) with
 | true =>
  rw [h1] at h
  cases b with
  | true=>cases h
  | false=>exact ⟨rfl,fun q=>by cases q⟩
 | false =>
  rw [h1] at h
  cases h2:decide (findI c.p.shared name 0 ≥ 0) with
  | true=>exact ⟨rfl,fun _=>rfl⟩
  | false =>
   rw [h2] at h
   cases h3:(decide (findI c.p.locks name 0 ≥ 0) || decide (threadI c.p.threads name 0 ≥ 0)) <;> rw [h3] at h <;> cases h
theorem least_zero {a b:Int} (h:leastI a b=0):a=0∧b=0:=by
 unfold leastI at h
 cases h1:(a == 0) with
 | true=>rw [h1,Bool.true_or,cond_true] at h; exact ⟨eq_of_beq h1,h⟩
 | false =>
  have h2:a≠0:=by simpa using h1
  rw [h1,Bool.false_or] at h
  cases h3:(decide (b > 0) && decide (b<a)) with
  | true =>
   rw [h3,cond_true] at h
   simp only [Bool.and_eq_true,decide_eq_true_eq] at h3
   omega
  | false=>rw [h3,cond_false] at h; exact absurd h h2
theorem lock_zero {c:LowC} {name:ByteArray} (h:lockI c.p c.t name=0):decide (findI c.p.locks name 0 ≥ 0)=true:=by
 unfold lockI at h
 cases h1:decide (localI c.p c.t name ≥ 0) with
 | true=>rw [h1] at h; cases h
 | false =>
  rw [h1] at h
  cases h2:decide (findI c.p.locks name 0 ≥ 0) with
  | true=>rfl
  | false =>
   rw [h2] at h
   cases h3:(decide (findI c.p.shared name 0 ≥ 0) || decide (threadI c.p.threads name 0 ≥ 0)) <;> rw [h3] at h <;> cases h
theorem rule_first {a b:Flt} (h:(bif a.rule != 0 then a else b).rule=0):a.rule=0∧b.rule=0:=by
 cases h1:(a.rule != 0) with
 | true =>
  rw [h1,cond_true] at h
  rw [h] at h1; cases h1
 | false =>
  rw [h1,cond_false] at h
  exact ⟨by simpa using h1,h⟩
theorem rule_at {b:Bool} {at_ r:Int} {f:Flt} (hr:r≠0) (h:(bif b then ⟨at_,r⟩ else f).rule=0):b=false∧f.rule=0:=by
 cases b with
 | true=>exact absurd h hr
 | false=>exact ⟨rfl,h⟩
theorem rule_ne {at_ r:Int} {f:Flt} (h:(bif r != 0 then ⟨at_,r⟩ else f).rule=0):r=0∧f.rule=0:=by
 cases h1:(r != 0) with
 | true =>
  rw [h1,cond_true] at h
  have h:r=0:=h
  rw [h] at h1; cases h1
 | false=>rw [h1,cond_false] at h; exact ⟨by simpa using h1,h⟩
mutual
theorem exprF_ok (c:LowC) : ∀ (e:Expr) (deep:Int),(exprF c.p c.t e deep).rule=0→okE c e=true
 | .mk kind op word name kids at_,deep,h=>by
  have hk:=fun d=>exprsF_ok c kids d
  unfold exprF at h
  obtain ⟨h1,h⟩:=rule_at (by decide) h
  obtain ⟨h2,h⟩:=rule_ne h
  have h3:=deep_zero h2
  unfold okE
  rw [hk _ h,not_f h1]
  cases k2:kind == 2 with
  | false =>
             have:(kind != 2)=true:=by unfold bne; rw [k2]; rfl
             rw [this]; rfl
  | true =>
   rw [k2,cond_true] at h3
   rw [(var_zero h3).1,Bool.or_true]; rfl
theorem exprsF_ok (c:LowC) : ∀ (l:List Expr) (deep:Int),(exprsF c.p c.t l deep).rule=0→okEs c l=true
 | [],_,_=>by unfold okEs; rfl
 | e::l,deep,h=>by
  unfold exprsF at h
  obtain ⟨h1,h⟩:=rule_first h
  unfold okEs
  rw [exprF_ok c e deep h1,exprsF_ok c l deep h]; rfl
end
mutual
theorem stmtF_ok (c:LowC) : ∀ (x:Stmt) (deep:Int),(stmtF c.p c.t x deep).rule=0→okS c x=true
 | .mk kind name other e body els at_,deep,h=>by
  have hb:=fun d=>stmtsF_ok c body d
  have hl:=fun d=>stmtsF_ok c els d
  unfold stmtF at h
  obtain ⟨h1,h⟩:=rule_at (by decide) h
  obtain ⟨h2,h⟩:=rule_ne h
  obtain ⟨h3,h⟩:=rule_first h
  obtain ⟨h4,h⟩:=rule_first h
  have h5:=deep_zero h2
  have h6:nmOkB c kind name other=true:=by
   unfold namesI at h5
   unfold nmOkB
   cases k1:kind == 1 with
   | true=>rw [k1] at h5; exact (var_zero h5).1
   | false =>
   rw [k1,cond_false] at h5
   cases k2:kind == 2 with
   | true =>
    rw [k2,cond_true] at h5
    obtain ⟨q1,q2⟩:=least_zero h5
    rw [cond_false,cond_true,(var_zero q1).1,(var_zero q2).2 rfl]; rfl
   | false =>
   rw [k2,cond_false] at h5
   cases k5:kind == 5 with
   | true=>rw [k5] at h5; exact lock_zero h5
   | false=>rfl
  unfold okS
  rw [not_f h1,h6,exprsF_ok c e 1 h3,hb _ h4,hl _ h]; rfl
theorem stmtsF_ok (c:LowC) : ∀ (l:List Stmt) (deep:Int),(stmtsF c.p c.t l deep).rule=0→okSs c l=true
 | [],_,_=>by unfold okSs; rfl
 | x::l,deep,h=>by
  unfold stmtsF at h
  obtain ⟨h1,h⟩:=rule_first h
  unfold okSs
  rw [stmtF_ok c x deep h1,stmtsF_ok c l deep h]; rfl
end
structure ThOk (p:Prg) (i:Nat) (th:Thread):Prop where
 name:nameB th.name=true
 shared:decide (findI p.shared th.name 0 ≥ 0)=false
 locks:decide (findI p.locks th.name 0 ≥ 0)=false
 first:decide (threadI p.threads th.name 0<i)=false
 few:i<8
 locals:(declsF p 2 64 [] th.locals).rule=0
 body:(stmtsF p i th.body 1).rule=0
theorem threadsF_ok (p:Prg) : ∀ (l:List Thread) (i:Nat) (f:Flt),(threadsF p i l f).rule=0→f.rule=0 ∧ ∀ j th,l[j]? = some th→ThOk p (i+j) th
 | [],_,f,h=>⟨h,fun j th e=>by cases e⟩
 | t::l,i,f,h=>by
  unfold threadsF at h
  obtain ⟨h0,h⟩:=rule_first h
  obtain ⟨h1,h⟩:=rule_at (by decide) h
  obtain ⟨h2,h⟩:=rule_at (by decide) h
  obtain ⟨h3,h⟩:=rule_at (by decide) h
  obtain ⟨h4,h⟩:=threadsF_ok p l (i+1) _ h
  simp only [Bool.or_eq_false_iff] at h2
  refine ⟨h0,fun j th e => ?_⟩
  cases j with
  | zero =>
   cases e
   have h5:(declsF p 2 64 [] t.locals).rule=0∧(stmtsF p i t.body 1).rule=0:=by
    cases hd:((declsF p 2 64 [] t.locals).rule == 0) with
    | true=>rw [hd,cond_true] at h4; exact ⟨eq_of_beq hd,h4⟩
    | false=>rw [hd,cond_false] at h4; rw [h4] at hd; cases hd
   exact ⟨not_f h1,h2.1.1,h2.1.2,h2.2,by have:=of_decide_eq_false h3; omega,h5.1,h5.2⟩
  | succ j =>
   have:=h j th e
   rwa [show i+1+j=i+(j+1) by omega] at this
theorem declsF_ok (p:Prg) (kind most:Int) : ∀ (l pre:List Decl),(declsF p kind most pre l).rule=0 → ∀ j d,l[j]? = some d→declI p kind (pre++l.take j) d (pre.length+j:Nat) most=0
 | [],_,_,j,d,e=>by cases e
 | x::l,pre,h,j,d,e=>by
  unfold declsF at h
  obtain ⟨h1,h⟩:=rule_ne h
  cases j with
  | zero=>cases e; rw [List.take_zero,List.append_nil,Nat.add_zero]; exact h1
  | succ j =>
   have:=declsF_ok p kind most l _ h j d e
   rw [List.length_append,List.append_assoc,List.singleton_append] at this
   rwa [show pre.length+[x].length+j=pre.length+(j+1) by simp; omega] at this
structure PrgOk (p:Prg):Prop where
 shared:(declsF p 0 64 [] p.shared).rule=0
 locks:(declsF p 1 16 [] p.locks).rule=0
 threads : ∀ i th,p.threads[i]? = some th→ThOk p i th
theorem check_prg {p:Prg} (h:(checkW p).1=0):PrgOk p:=by
 rw [check_eq] at h
 unfold checkF at h
 have h:(firstF p).rule=0:=by
  cases hb:((firstF p).rule != 0) with
  | true=>rw [hb] at h; exact absurd (show (50:Int)=0 from h) (by decide)
  | false=>simpa using hb
 unfold firstF at h
 obtain ⟨h1,h2⟩:=threadsF_ok p _ _ _ h
 have h3:(declsF p 0 64 [] p.shared).rule=0∧(declsF p 1 16 [] p.locks).rule=0:=by
  cases hd:((declsF p 0 64 [] p.shared).rule == 0) with
  | true=>rw [hd,cond_true] at h1; exact ⟨eq_of_beq hd,h1⟩
  | false=>rw [hd,cond_false] at h1; rw [h1] at hd; cases hd
 exact ⟨h3.1,h3.2,fun i th e=>by have:=h2 i th e; rwa [Nat.zero_add] at this⟩
theorem decl_few {p:Prg} {kind most:Int} {pre l:List Decl} {d:Decl} {i:Int} (h:declI p kind pre d i most=0):nameB d.name=true∧twiceB p kind pre d.name=false∧i<most∧wordI kind d.word=false:=by
 unfold declI at h
 cases h1:(!nameB d.name) with
 | true=>rw [h1] at h; cases h
 | false =>
 cases h2:twiceB p kind pre d.name with
 | true=>rw [h1,h2] at h; cases h
 | false =>
 cases h3:decide (i ≥ most) with
 | true=>rw [h1,h2,h3] at h; cases h
 | false =>
 cases h4:wordI kind d.word with
 | true=>rw [h1,h2,h3,h4] at h; cases h
 | false=>exact ⟨not_f h1,rfl,by have:=of_decide_eq_false h3; omega,rfl⟩
theorem decls_few {p:Prg} {kind:Int} {most:Nat} {l:List Decl} (h:(declsF p kind most [] l).rule=0):l.length≤most:=by
 rcases Nat.eq_zero_or_pos l.length with q | q
 ·omega
 ·obtain ⟨d,hd⟩ : ∃ d,l[l.length - 1]? = some d:=⟨_,List.getElem?_eq_getElem (by omega)⟩
  have:=(decl_few (l:=l) (declsF_ok p kind most l [] h _ d hd)).2.2.1
  rw [List.length_nil] at this
  omega
theorem within_yes {p has k most:Int} (hp:(andP p has == 0)=false) (h1:0≤k) (h2:k<most):withinB p has k most=true:=by
 unfold withinB
 have e:(andP p has != 0)=true:=by unfold bne; rw [hp]; rfl
 rw [hp,e,decide_eq_true (show k ≥ 0 from h1),decide_eq_true h2]; rfl
theorem within_no {p has most:Int} (hp:(andP p has == 0)=true):withinB p has 0 most=true:=by
 unfold withinB
 rw [hp]; rfl
def vOk (S:Int) (v:Val):Bool:=bif v.s then (decide (v.k ≥ 0) && decide (v.k<S) && v.w == 0) else v.k == 0
theorem value_yes {p has S:Int} {v:Val} (hp:(andP p has == 0)=false) (h:vOk S v=true):valueB p has v S=true:=by
 unfold valueB; rw [hp]; exact h
theorem value_no {p has S:Int} (hp:(andP p has == 0)=true):valueB p has v00 S=true:=by
 unfold valueB; rw [hp]; rfl
theorem right_of {u:Un} {g:Gr} {n:Nd} (h0:(n.kind == 0)=false) (h1:decide (n.kind ≥ 10)=false) (h2:0≤n.origin) (h3:n.origin<4096) (h:fieldsR u g n (partsI n.kind n.op)=true):rightB u g n=true:=by
 unfold rightB headR
 rw [h0,h1,decide_eq_false (show ¬ n.origin<0 by omega),decide_eq_false (show ¬ n.origin ≥ 4096 by omega)]
 exact h
theorem fieldsR_of {u:Un} {g:Gr} {n:Nd} {p:Int} (h1:withinB p 1 n.op 19=true) (h2:withinB p 2 n.slot g.slots=true) (h3:withinB p 4 n.thing (thingsI u n)=true) (h4:withinB p 32 n.next g.nodes.length=true) (h5:withinB p 64 n.els g.nodes.length=true) (h6:valueB p 8 n.a g.slots=true) (h7:valueB p 16 n.b g.slots=true):fieldsR u g n p=true:=by
 unfold fieldsR
 rw [h1,h2,h3,h4,h5,h6,h7]; rfl
section
variable {u:Un} {g:Gr} {S N:Nat} (hS:g.slots=(S:Nat)) (hN:g.nodes.length=N)
include hS hN
theorem right_set2 {op:Int} {a b:Val} {m to o:Nat} (ht:two op=true) (ha:vOk S a=true) (hb:vOk S b=true) (hm:m<S) (hto:to<N) (ho:o<4096):rightB u g { nd00 with kind:=1,op:=op,a:=a,b:=b,slot:=(m:Nat),next:=(to:Nat),origin:=(o:Nat) }=true:=by
 refine right_of rfl rfl (by show (0:Int)≤(o:Nat); omega) (by show ((o:Nat):Int)<4096; omega) ?_
 have e:partsI 1 op=59:=by unfold partsI; rw [ht]; rfl
 have h2:=ht
 unfold two at h2
 simp only [Bool.and_eq_true,decide_eq_true_eq] at h2
 show fieldsR u g _ (partsI 1 op)=true
 rw [e]
 exact fieldsR_of (within_yes (k:=op) (by kernel_rfl) (by omega) (by omega)) (within_yes (k:=(m:Nat)) (by kernel_rfl) (by omega) (by omega)) (within_no (by kernel_rfl)) (within_yes (k:=(to:Nat)) (by kernel_rfl) (by omega) (by omega)) (within_no (by kernel_rfl)) (value_yes (by kernel_rfl) (by rw [hS]; exact ha)) (value_yes (by kernel_rfl) (by rw [hS]; exact hb))
theorem right_set1 {op:Int} {a:Val} {k:Int} {to o:Nat} (ht:two op=false) (h0:0≤op) (h1:op<19) (ha:vOk S a=true) (hm0:0≤k) (hm:k<S) (hto:to<N) (ho:o<4096):rightB u g { nd00 with kind:=1,op:=op,a:=a,slot:=k,next:=(to:Nat),origin:=(o:Nat) }=true:=by
 refine right_of rfl rfl (by show (0:Int)≤(o:Nat); omega) (by show ((o:Nat):Int)<4096; omega) ?_
 have e:partsI 1 op=43:=by unfold partsI; rw [ht]; rfl
 show fieldsR u g _ (partsI 1 op)=true
 rw [e]
 exact fieldsR_of (within_yes (k:=op) (by kernel_rfl) (by omega) (by omega)) (within_yes (k:=k) (by kernel_rfl) (by omega) (by omega)) (within_no (by kernel_rfl)) (within_yes (k:=(to:Nat)) (by kernel_rfl) (by omega) (by omega)) (within_no (by kernel_rfl)) (value_yes (by kernel_rfl) (by rw [hS]; exact ha)) (value_no (by kernel_rfl))
theorem right_load {thing:Int} {m to o:Nat} (h0:0≤thing) (h1:thing<u.shared.length) (hm:m<S) (hto:to<N) (ho:o<4096):rightB u g { nd00 with kind:=2,thing:=thing,slot:=(m:Nat),next:=(to:Nat),origin:=(o:Nat) }=true:=by
 refine right_of rfl rfl (by show (0:Int)≤(o:Nat); omega) (by show ((o:Nat):Int)<4096; omega) ?_
 show fieldsR u g _ 38=true
 exact fieldsR_of (within_no (by kernel_rfl)) (within_yes (k:=(m:Nat)) (by kernel_rfl) (by omega) (by omega)) (within_yes (k:=thing) (by kernel_rfl) h0 h1) (within_yes (k:=(to:Nat)) (by kernel_rfl) (by omega) (by omega)) (within_no (by kernel_rfl)) (value_no (by kernel_rfl)) (value_no (by kernel_rfl))
theorem right_store {thing:Int} {a:Val} {to o:Nat} (h0:0≤thing) (h1:thing<u.shared.length) (ha:vOk S a=true) (hto:to<N) (ho:o<4096):rightB u g { nd00 with kind:=3,thing:=thing,a:=a,next:=(to:Nat),origin:=(o:Nat) }=true:=by
 refine right_of rfl rfl (by show (0:Int)≤(o:Nat); omega) (by show ((o:Nat):Int)<4096; omega) ?_
 show fieldsR u g _ 44=true
 exact fieldsR_of (within_no (by kernel_rfl)) (within_no (by kernel_rfl)) (within_yes (k:=thing) (by kernel_rfl) h0 h1) (within_yes (k:=(to:Nat)) (by kernel_rfl) (by omega) (by omega)) (within_no (by kernel_rfl)) (value_yes (by kernel_rfl) (by rw [hS]; exact ha)) (value_no (by kernel_rfl))
theorem right_swap {thing k:Int} {a:Val} {to o:Nat} (h0:0≤thing) (h1:thing<u.shared.length) (ha:vOk S a=true) (hm0:0≤k) (hm:k<S) (hto:to<N) (ho:o<4096):rightB u g { nd00 with kind:=4,thing:=thing,a:=a,slot:=k,next:=(to:Nat),origin:=(o:Nat) }=true:=by
 refine right_of rfl rfl (by show (0:Int)≤(o:Nat); omega) (by show ((o:Nat):Int)<4096; omega) ?_
 show fieldsR u g _ 46=true
 exact fieldsR_of (within_no (by kernel_rfl)) (within_yes (k:=k) (by kernel_rfl) (by omega) (by omega)) (within_yes (k:=thing) (by kernel_rfl) h0 h1) (within_yes (k:=(to:Nat)) (by kernel_rfl) (by omega) (by omega)) (within_no (by kernel_rfl)) (value_yes (by kernel_rfl) (by rw [hS]; exact ha)) (value_no (by kernel_rfl))
theorem right_lock {thing:Int} {to o:Nat} (h0:0≤thing) (h1:thing<u.locks.length) (hto:to<N) (ho:o<4096):rightB u g { nd00 with kind:=5,thing:=thing,next:=(to:Nat),origin:=(o:Nat) }=true:=by
 refine right_of rfl rfl (by show (0:Int)≤(o:Nat); omega) (by show ((o:Nat):Int)<4096; omega) ?_
 show fieldsR u g _ 36=true
 exact fieldsR_of (within_no (by kernel_rfl)) (within_no (by kernel_rfl)) (within_yes (k:=thing) (by kernel_rfl) h0 h1) (within_yes (k:=(to:Nat)) (by kernel_rfl) (by omega) (by omega)) (within_no (by kernel_rfl)) (value_no (by kernel_rfl)) (value_no (by kernel_rfl))
theorem right_unlock {thing:Int} {to o:Nat} (h0:0≤thing) (h1:thing<u.locks.length) (hto:to<N) (ho:o<4096):rightB u g { nd00 with kind:=6,thing:=thing,next:=(to:Nat),origin:=(o:Nat) }=true:=by
 refine right_of rfl rfl (by show (0:Int)≤(o:Nat); omega) (by show ((o:Nat):Int)<4096; omega) ?_
 show fieldsR u g _ 36=true
 exact fieldsR_of (within_no (by kernel_rfl)) (within_no (by kernel_rfl)) (within_yes (k:=thing) (by kernel_rfl) h0 h1) (within_yes (k:=(to:Nat)) (by kernel_rfl) (by omega) (by omega)) (within_no (by kernel_rfl)) (value_no (by kernel_rfl)) (value_no (by kernel_rfl))
theorem right_print {a:Val} {to o:Nat} (ha:vOk S a=true) (hto:to<N) (ho:o<4096):rightB u g { nd00 with kind:=7,a:=a,next:=(to:Nat),origin:=(o:Nat) }=true:=by
 refine right_of rfl rfl (by show (0:Int)≤(o:Nat); omega) (by show ((o:Nat):Int)<4096; omega) ?_
 show fieldsR u g _ 40=true
 exact fieldsR_of (within_no (by kernel_rfl)) (within_no (by kernel_rfl)) (within_no (by kernel_rfl)) (within_yes (k:=(to:Nat)) (by kernel_rfl) (by omega) (by omega)) (within_no (by kernel_rfl)) (value_yes (by kernel_rfl) (by rw [hS]; exact ha)) (value_no (by kernel_rfl))
theorem right_branch {a:Val} {to el o:Nat} (ha:vOk S a=true) (hto:to<N) (hel:el<N) (ho:o<4096):rightB u g { nd00 with kind:=8,a:=a,next:=(to:Nat),els:=(el:Nat),origin:=(o:Nat) }=true:=by
 refine right_of rfl rfl (by show (0:Int)≤(o:Nat); omega) (by show ((o:Nat):Int)<4096; omega) ?_
 show fieldsR u g _ 104=true
 exact fieldsR_of (within_no (by kernel_rfl)) (within_no (by kernel_rfl)) (within_no (by kernel_rfl)) (within_yes (k:=(to:Nat)) (by kernel_rfl) (by omega) (by omega)) (within_yes (k:=(el:Nat)) (by kernel_rfl) (by omega) (by omega)) (value_yes (by kernel_rfl) (by rw [hS]; exact ha)) (value_no (by kernel_rfl))
theorem right_end {o:Nat} (ho:o<4096):rightB u g { nd00 with kind:=9,origin:=(o:Nat) }=true:=by
 refine right_of rfl rfl (by show (0:Int)≤(o:Nat); omega) (by show ((o:Nat):Int)<4096; omega) ?_
 show fieldsR u g _ 0=true
 exact fieldsR_of (within_no (by kernel_rfl)) (within_no (by kernel_rfl)) (within_no (by kernel_rfl)) (within_no (by kernel_rfl)) (within_no (by kernel_rfl)) (value_no (by kernel_rfl)) (value_no (by kernel_rfl))
end
end Go.Proofs.YthboippafkcoiaaGreatDoor.am
namespace Go.Proofs.YthboippafkcoiaaGreatDoor.am
open Go Go.Proofs
set_option linter.all false
def shN (b:Int):Nat:=min (IntKind.u64.wrap ((BitVec.ofInt IntKind.u64.bits (IntKind.u64.wrap b) &&& BitVec.ofInt IntKind.u64.bits 63).toNat:Int)).toNat IntKind.i64.bits
def i64 (z:Int):Int:=IntKind.i64.wrap z
def divW (a b:Int):Int:=bif b == 0 then 0 else bif b == -1 then i64 (0 - a) else i64 (a.tdiv b)
def truW (b:Bool):Int:=bif b then 1 else 0
def opsW:List (Int→Int→Int):=[
 fun a b=>i64 (a+b),fun a b=>i64 (a - b),fun a b=>i64 (a*b),divW,
 fun a b=>bif b == 0 then a else i64 (a - i64 (divW a b*b)),
 fun a b=>i64 ((BitVec.ofInt IntKind.i64.bits a &&& BitVec.ofInt IntKind.i64.bits b).toNat:Int),
 fun a b=>i64 ((BitVec.ofInt IntKind.i64.bits a ||| BitVec.ofInt IntKind.i64.bits b).toNat:Int),
 fun a b=>i64 ((BitVec.ofInt IntKind.i64.bits a ^^^ BitVec.ofInt IntKind.i64.bits b).toNat:Int),
 fun a b=>i64 (a*2 ^ shN b),fun a b=>a.fdiv (2 ^ shN b),
 fun a b=>truW (a == b),fun a b=>truW (a != b),fun a b=>truW (decide (a<b)),fun a b=>truW (decide (a≤b)),fun a b=>truW (decide (a > b)),fun a b=>truW (decide (a ≥ b))]
def opW (op a b:Int):Int:=(opsW.getD (op - 1).toNat fun _ _=>0) a b
def oneW (op a:Int):Int:=bif op == 17 then i64 (0 - a) else truW (a == 0)
def recW (op a b:Int):Int:=bif op == 0 then a else bif two op then opW op a b else oneW op a
theorem u64_nn (z:Int):0≤IntKind.u64.wrap z:=by
 simp only [IntKind.wrap,IntKind.signed,IntKind.bits,Bool.false_and]
 exact Int.emod_nonneg _ (by decide)
structure Act where
 kind:Int
 thing:Int
 word:Int
structure RS where
 locals:List Int
 reads:Nat
 fuel:Int
 acts:List Act
def okR (s:RS):RS := { s with fuel:=s.fuel - 1 }
def readR (ws:List Int) (s:RS):Int:=ws.getD s.reads 0
def actR (a:Act) (s:RS):RS := { s with acts:=s.acts++[a] }
def nextR (s:RS):RS := { s with reads:=s.reads+1 }
mutual
def exprR (c:LowC) (ws:List Int):Expr→RS→RS × Int
 | .mk kind op word name kids _,s =>
  bif !decide ((okR s).fuel > 0) then (okR s,0)
  else bif kind == 1 then (okR s,word)
  else bif kind == 2 then (bif decide (localI c.p c.t name ≥ 0) then (okR s,s.locals.getD (localI c.p c.t name).toNat 0)
   else (actR ⟨2,findI c.p.shared name 0,readR ws s⟩ (nextR (okR s)),readR ws s))
  else bif kind == 4 then ((kid1R c ws kids (kid0R c ws kids (okR s)).1).1,recW op (kid0R c ws kids (okR s)).2 (kid1R c ws kids (kid0R c ws kids (okR s)).1).2)
  else ((kid0R c ws kids (okR s)).1,recW op (kid0R c ws kids (okR s)).2 0)
def kid0R (c:LowC) (ws:List Int):List Expr→RS→RS × Int
 | [],s=>(s,0)
 | e::_,s=>exprR c ws e s
def kid1R (c:LowC) (ws:List Int):List Expr→RS→RS × Int
 | [],s=>(s,0)
 | _::r,s=>kid0R c ws r s
end
def storeR (c:LowC) (name:ByteArray) (w:Int) (s:RS):RS:=bif decide (localI c.p c.t name ≥ 0) then { s with locals:=s.locals.set (localI c.p c.t name).toNat w } else bif decide (s.fuel > 0) then actR ⟨3,findI c.p.shared name 0,w⟩ s else s
def whileR (E:RS→RS × Int) (B:RS→RS):Nat→RS→RS
 | 0,s=>s
 | n+1,s=>bif (E s).2 != 0 then (bif decide ((okR (E s).1).fuel > 0) then whileR E B n (B (okR (E s).1)) else okR (E s).1) else (E s).1
def headR6 (c:LowC) (ws:List Int) (kind:Int) (e:List Expr) (s:RS):RS × Int:=bif decide (0<e.length) && kind != 4 then kid0R c ws e s else (s,0)
mutual
def stmtR (c:LowC) (ws:List Int):Stmt→RS→RS
 | .mk kind name other e body els _,s =>
  bif decide ((headR6 c ws kind e s).1.fuel≤0) then (headR6 c ws kind e s).1
  else bif kind == 1 then storeR c name (headR6 c ws kind e s).2 (headR6 c ws kind e s).1
  else bif kind == 2 then storeR c name (readR ws (headR6 c ws kind e s).1) (actR ⟨4,findI c.p.shared other 0,(headR6 c ws kind e s).2⟩ (nextR (headR6 c ws kind e s).1))
  else bif kind == 6 then actR ⟨7,0,(headR6 c ws kind e s).2⟩ (headR6 c ws kind e s).1
  else bif kind == 3 then (bif (headR6 c ws kind e s).2 != 0 then blockR6 c ws body (headR6 c ws kind e s).1 else blockR6 c ws els (headR6 c ws kind e s).1)
  else bif kind == 4 then whileR (kid0R c ws e) (blockR6 c ws body) (s.fuel.toNat+1) s
  else bif kind == 5 then (bif decide ((blockR6 c ws body (actR ⟨5,findI c.p.locks name 0,0⟩ s)).fuel > 0) then actR ⟨6,findI c.p.locks name 0,0⟩ (blockR6 c ws body (actR ⟨5,findI c.p.locks name 0,0⟩ s)) else blockR6 c ws body (actR ⟨5,findI c.p.locks name 0,0⟩ s))
  else (headR6 c ws kind e s).1
def blockR6 (c:LowC) (ws:List Int):List Stmt→RS→RS
 | [],s=>s
 | x::r,s=>bif !decide ((okR s).fuel > 0) then okR s else blockR6 c ws r (stmtR c ws x (okR s))
end
structure GS where
 slots:List Int
 reads:Nat
 at_:Nat
 acts:List Act
def gvV (sl:List Int) (v:Val):Int:=bif v.s then sl.getD v.k.toNat 0 else v.w
def gvRead (ws:List Int) (g:GS):Int:=ws.getD g.reads 0
def gvDo (ws:List Int) (n:Nd) (g:GS):GS :=
 bif n.kind == 9 then g
 else bif n.kind == 1 then { g with slots:=g.slots.set n.slot.toNat (recW n.op (gvV g.slots n.a) (gvV g.slots n.b)),at_:=n.next.toNat }
 else bif n.kind == 2 then ⟨g.slots.set n.slot.toNat (gvRead ws g),g.reads+1,n.next.toNat,g.acts++[⟨2,n.thing,gvRead ws g⟩]⟩
 else bif n.kind == 4 then ⟨g.slots.set n.slot.toNat (gvRead ws g),g.reads+1,n.next.toNat,g.acts++[⟨4,n.thing,gvV g.slots n.a⟩]⟩
 else bif n.kind == 3 then { g with acts:=g.acts++[⟨3,n.thing,gvV g.slots n.a⟩],at_:=n.next.toNat }
 else bif n.kind == 7 then { g with acts:=g.acts++[⟨7,0,gvV g.slots n.a⟩],at_:=n.next.toNat }
 else bif n.kind == 5 || n.kind == 6 then { g with acts:=g.acts++[⟨n.kind,n.thing,0⟩],at_:=n.next.toNat }
 else { g with at_:=bif gvV g.slots n.a == 0 then n.els.toNat else n.next.toNat }
def gvStep (L:List Nd) (ws:List Int) (g:GS):GS:=match L[g.at_]? with
 | some n=>gvDo ws n g
 | none=>g
def gvSteps (L:List Nd) (ws:List Int):Nat→GS→GS
 | 0,g=>g
 | n+1,g=>gvSteps L ws n (gvStep L ws g)
theorem gvSteps_add (L:List Nd) (ws:List Int) : ∀ (m n:Nat) (g:GS),gvSteps L ws (m+n) g=gvSteps L ws n (gvSteps L ws m g)
 | 0,n,g=>by rw [Nat.zero_add]; rfl
 | m+1,n,g=>by
  rw [show m+1+n=(m+n)+1 by omega]
  exact gvSteps_add L ws m n _
def Reach (L:List Nd) (ws:List Int) (k:Nat) (g g':GS):Prop := ∃ n,n≤k∧gvSteps L ws n g=g'
theorem Reach.refl {L:List Nd} {ws:List Int} {k:Nat} (g:GS):Reach L ws k g g:=⟨0,Nat.zero_le _,rfl⟩
theorem Reach.trans {L:List Nd} {ws:List Int} {j k m:Nat} {a b d:GS} (h:Reach L ws j a b) (h':Reach L ws k b d) (hm:j+k≤m):Reach L ws m a d:=by
 obtain ⟨n,h1,rfl⟩:=h
 obtain ⟨n',h2,rfl⟩:=h'
 exact ⟨n+n',by omega,gvSteps_add L ws n n' a⟩
theorem Reach.mono {L:List Nd} {ws:List Int} {j k:Nat} {a b:GS} (h:Reach L ws j a b) (hk:j≤k):Reach L ws k a b:=by
 obtain ⟨n,h1,e⟩:=h
 exact ⟨n,by omega,e⟩
theorem Reach.one {L:List Nd} {ws:List Int} {g:GS} {n:Nd} (h:L[g.at_]? = some n):Reach L ws 1 g (gvDo ws n g):=⟨1,Nat.le_refl _,by show gvStep L ws g=_; unfold gvStep; rw [h]⟩
def pos (f:Int):Nat:=f.toNat
structure RR (k:Nat) (m:Nat) (s s':RS):Prop where
 dry:s.fuel≤0→s'=okR s∨s'=s
 low:0<s.fuel→2 - s.fuel≤s'.fuel+(m:Int)
 less:s'.fuel≤s.fuel
 acts:s'.acts.length+m*s'.fuel.toNat≤s.acts.length+m*s.fuel.toNat+k
 reads:s'.reads+s.acts.length≤s.reads+s'.acts.length
 locals:s'.locals.length=s.locals.length
theorem RR.refl {k m:Nat} (s:RS):RR k m s s:=⟨fun _ => .inr rfl,fun h=>by omega,Int.le_refl _,Nat.le_add_right _ _,Nat.le_refl _,rfl⟩
theorem RR.acts1 {s s':RS} (h:RR 0 1 s s'):s'.acts.length+s'.fuel.toNat≤s.acts.length+s.fuel.toNat:=by have:=h.acts; omega
theorem RR.acts2 {k:Nat} {s s':RS} (h:RR k 2 s s'):s'.acts.length+2*s'.fuel.toNat≤s.acts.length+2*s.fuel.toNat+k:=h.acts
theorem RR.low2 {k m:Nat} {s s':RS} (h:RR k m s s') (hp:s.fuel≤0):s.fuel - 1≤s'.fuel:=by
 rcases h.dry hp with e | e <;> rw [e]
 ·exact Int.le_refl _
 ·omega
mutual
theorem exprR_rr (c:LowC) (ws:List Int) : ∀ (e:Expr) (s:RS),RR 0 1 s (exprR c ws e s).1∧(exprR c ws e s).1.locals=s.locals∧(exprR c ws e s).1.fuel<s.fuel∧(s.fuel≤0→(exprR c ws e s).2=0)
 | .mk kind op word name kids _,s=>by
  have h0:=kid0R_rr c ws kids (okR s)
  have h1:=kid1R_rr c ws kids (kid0R c ws kids (okR s)).1
  have hf:(okR s).fuel=s.fuel - 1:=rfl
  have hl:(okR s).locals=s.locals:=rfl
  have ha:(okR s).acts=s.acts:=rfl
  have hr:(okR s).reads=s.reads:=rfl
  have hok:RR 0 1 s (okR s):=⟨fun _ => .inl rfl,fun h=>by rw [hf]; omega,by rw [hf]; omega,by rw [ha,hf]; omega,by rw [ha,hr]; omega,rfl⟩
  unfold exprR
  cases k0:decide ((okR s).fuel > 0) with
  | false=>exact ⟨hok,rfl,(by show s.fuel - 1<s.fuel; omega),fun _=>rfl⟩
  | true =>
  have k0:=of_decide_eq_true k0
  have hp:0<s.fuel:=by omega
  simp only [Bool.not_true,cond_false]
  cases k1:kind == 1 with
  | true=>exact ⟨hok,rfl,(by show s.fuel - 1<s.fuel; omega),fun h=>by omega⟩
  | false =>
  simp only [cond_false]
  cases k2:kind == 2 with
  | true =>
   cases hd:decide (localI c.p c.t name ≥ 0) with
   | true=>exact ⟨hok,rfl,(by show s.fuel - 1<s.fuel; omega),fun h=>by omega⟩
   | false =>
    simp only [cond_true,cond_false]
    have e1:(actR ⟨2,findI c.p.shared name 0,readR ws s⟩ (nextR (okR s))).acts.length=s.acts.length+1:=by show (s.acts++[_]).length=_; rw [List.length_append]; rfl
    have e2:(actR ⟨2,findI c.p.shared name 0,readR ws s⟩ (nextR (okR s))).fuel=s.fuel - 1:=rfl
    have e3:(actR ⟨2,findI c.p.shared name 0,readR ws s⟩ (nextR (okR s))).reads=s.reads+1:=rfl
    exact ⟨⟨fun h=>by omega,fun h=>by rw [e2]; omega,by rw [e2]; omega,by rw [e1,e2]; omega,by rw [e1,e3]; omega,rfl⟩,rfl,by rw [e2]; omega,fun h=>by omega⟩
  | false =>
  simp only [cond_false]
  obtain ⟨r0,l0⟩:=h0
  obtain ⟨r1,l1⟩:=h1
  have q1:=r0.low (by omega); have q2:=r0.less; have q3:=r0.acts; have q4:=r0.reads
  have p1:=r1.low; have p2:=r1.less; have p3:=r1.acts; have p4:=r1.reads; have p5:=r1.low2
  cases kind == 4 with
  | true =>
   simp only [cond_true]
   refine ⟨⟨fun h=>by omega,fun h => ?_,by omega,?_,by rw [ha,hr] at q4; omega,by rw [l1,l0]; rfl⟩,by rw [l1,l0]; rfl,by omega,fun h=>by omega⟩
   ·by_cases hk:0<(kid0R c ws kids (okR s)).1.fuel
    ·have:=p1 hk; omega
    ·have:=p5 (by omega); omega
   ·rw [ha,hf] at q3
    omega
  | false =>
   simp only [cond_false]
   refine ⟨⟨fun h=>by omega,fun h=>by omega,by omega,?_,by rw [ha,hr] at q4; omega,by rw [l0]; rfl⟩,by rw [l0]; rfl,by omega,fun h=>by omega⟩
   rw [ha,hf] at q3
   omega
theorem kid0R_rr (c:LowC) (ws:List Int) : ∀ (l:List Expr) (s:RS),RR 0 1 s (kid0R c ws l s).1∧(kid0R c ws l s).1.locals=s.locals
 | [],s=>by unfold kid0R; exact ⟨.refl s,rfl⟩
 | e::_,s=>by
  unfold kid0R
  obtain ⟨a,b,_,_⟩:=exprR_rr c ws e s
  exact ⟨a,b⟩
theorem kid1R_rr (c:LowC) (ws:List Int) : ∀ (l:List Expr) (s:RS),RR 0 1 s (kid1R c ws l s).1∧(kid1R c ws l s).1.locals=s.locals
 | [],s=>by unfold kid1R; exact ⟨.refl s,rfl⟩
 | _::r,s=>by unfold kid1R; exact kid0R_rr c ws r s
end
theorem RR.up {s s':RS} (h:RR 0 1 s s'):RR 0 2 s s':=⟨h.dry,fun q=>by have:=h.low q; omega,h.less,by have:=h.acts1; have:=h.less; omega,h.reads,h.locals⟩
theorem whileR_rr {E:RS→RS × Int} {B:RS→RS} (hE : ∀ s,RR 0 1 s (E s).1∧(s.fuel≤0→(E s).2=0)) (hB : ∀ s,RR 0 2 s (B s)) : ∀ (n:Nat) (s:RS),RR 0 2 s (whileR E B n s)
 | 0,s => .refl s
 | n+1,s=>by
  obtain ⟨r,w⟩:=hE s
  have q1:=r.low; have q2:=r.less; have q3:=r.acts1; have q4:=r.reads; have q5:=r.locals
  unfold whileR
  cases hw:(E s).2 != 0 with
  | false=>exact r.up
  | true =>
   have hp:0<s.fuel:=by
    rcases Int.lt_or_le 0 s.fuel with h | h
    ·exact h
    ·rw [w h] at hw; cases hw
   have q1:=q1 hp
   have o1:(okR (E s).1).fuel=(E s).1.fuel - 1:=rfl
   have o2:(okR (E s).1).acts=(E s).1.acts:=rfl
   have o3:(okR (E s).1).reads=(E s).1.reads:=rfl
   have o4:(okR (E s).1).locals=(E s).1.locals:=rfl
   rw [cond_true]
   cases hf:decide ((okR (E s).1).fuel > 0) with
   | false =>
    rw [cond_false]
    have hf:=of_decide_eq_false hf
    exact ⟨fun h=>by omega,fun _=>by omega,by omega,by rw [o2,o1]; omega,by rw [o2,o3]; omega,by rw [o4]; exact q5⟩
   | true =>
    rw [cond_true]
    have hf:=of_decide_eq_true hf
    have b:=hB (okR (E s).1)
    have i:=whileR_rr hE hB n (B (okR (E s).1))
    have b1:=b.low (by omega); have b2:=b.less; have b3:=b.acts2; have b4:=b.reads; have b5:=b.locals
    have i1:=i.low; have i2:=i.less; have i3:=i.acts2; have i4:=i.reads; have i5:=i.locals; have i6:=i.low2
    rw [o2,o1] at b3
    rw [o2,o3] at b4
    refine ⟨fun h=>by omega,fun _ => ?_,by omega,by omega,by omega,by rw [i5,b5,o4,q5]⟩
    by_cases hk:0<(B (okR (E s).1)).fuel
    ·have:=i1 hk; omega
    ·have:=i6 (by omega); omega
theorem head_rr (c:LowC) (ws:List Int) (kind:Int) (e:List Expr) (s:RS):RR 0 1 s (headR6 c ws kind e s).1∧(headR6 c ws kind e s).1.locals=s.locals:=by
 unfold headR6
 cases (decide (0<e.length) && kind != 4) with
 | true=>exact kid0R_rr c ws e s
 | false=>exact ⟨.refl s,rfl⟩
theorem store_rr {c:LowC} {name:ByteArray} {w:Int} {s0 s:RS} {k:Nat} (h:RR k 2 s0 s):RR (k+1) 2 s0 (storeR c name w s)∨s0.fuel≤0:=by
 rcases Int.lt_or_le 0 s0.fuel with hp | hp
 ·left
  have q1:=h.low hp; have q2:=h.less; have q3:=h.acts2; have q4:=h.reads; have q5:=h.locals
  unfold storeR
  cases decide (localI c.p c.t name ≥ 0) with
  | true=>exact ⟨fun _=>by omega,fun _=>q1,q2,(by show s.acts.length+2*s.fuel.toNat≤_; omega),q4,(by show (s.locals.set _ _).length=_; rw [List.length_set]; exact q5)⟩
  | false =>
   cases decide (s.fuel > 0) with
   | true=>exact ⟨fun _=>by omega,fun _=>q1,q2,(by show (s.acts++[_]).length+2*s.fuel.toNat≤_; rw [List.length_append]; show s.acts.length+1+_≤_; omega),(by show s.reads+s0.acts.length≤s0.reads+(s.acts++[_]).length; rw [List.length_append]; omega),q5⟩
   | false=>exact ⟨fun _=>by omega,fun _=>q1,q2,(by show s.acts.length+2*s.fuel.toNat≤_; omega),q4,q5⟩
 ·exact .inr hp
theorem act_rr {s0 s:RS} {k:Nat} (a:Act) (hp:0<s0.fuel) (h:RR k 2 s0 s):RR (k+1) 2 s0 (actR a s):=by
 have q1:=h.low hp; have q2:=h.less; have q3:=h.acts2; have q4:=h.reads; have q5:=h.locals
 exact ⟨fun _=>by omega,fun _=>q1,q2,(by show (s.acts++[_]).length+2*s.fuel.toNat≤_; rw [List.length_append]; show s.acts.length+1+_≤_; omega),(by show s.reads+s0.acts.length≤s0.reads+(s.acts++[_]).length; rw [List.length_append]; omega),q5⟩
theorem rd_rr {s0 s:RS} {k:Nat} (a:Act) (hp:0<s0.fuel) (h:RR k 2 s0 s):RR (k+1) 2 s0 (actR a (nextR s)):=by
 have q1:=h.low hp; have q2:=h.less; have q3:=h.acts2; have q4:=h.reads; have q5:=h.locals
 exact ⟨fun _=>by omega,fun _=>q1,q2,(by show (s.acts++[_]).length+2*s.fuel.toNat≤_; rw [List.length_append]; show s.acts.length+1+_≤_; omega),(by show s.reads+1+s0.acts.length≤s0.reads+(s.acts++[_]).length; rw [List.length_append]; show s.reads+1+s0.acts.length≤s0.reads+(s.acts.length+1); omega),q5⟩
theorem RR.more {s0 s:RS} {k k' m:Nat} (h:RR k m s0 s) (hk:k≤k'):RR k' m s0 s:=⟨h.dry,h.low,h.less,by have:=h.acts; omega,h.reads,h.locals⟩
theorem RR.trans {a b d:RS} {k k':Nat} (hb:0<b.fuel) (h:RR k 2 a b) (h':RR k' 2 b d):RR (k+k') 2 a d:=by
 have:=h.less; have:=h.acts2; have:=h.reads; have:=h.locals
 have:=h'.less; have:=h'.acts2; have:=h'.reads; have:=h'.locals; have:=h'.low hb
 exact ⟨fun _=>by omega,fun _=>by omega,by omega,by omega,by omega,by omega⟩
mutual
theorem stmtR_rr (c:LowC) (ws:List Int) : ∀ (x:Stmt) (s:RS),0<s.fuel→RR 2 2 s (stmtR c ws x s)
 | .mk kind name other e body els _,s,hp=>by
  obtain ⟨r0,_⟩:=head_rr c ws kind e s
  have hb:=fun s=>blockR6_rr c ws body s
  have hl:=fun s=>blockR6_rr c ws els s
  have r1:=r0.up
  unfold stmtR
  cases k0:decide ((headR6 c ws kind e s).1.fuel≤0) with
  | true=>exact r1.more (by omega)
  | false =>
  have k0:=of_decide_eq_false k0
  simp only [cond_false]
  cases kind == 1 with
  | true=>exact ((store_rr r1).resolve_right (by omega)).more (by omega)
  | false =>
  cases kind == 2 with
  | true=>exact (store_rr (rd_rr _ hp r1)).resolve_right (by omega)
  | false =>
  cases kind == 6 with
  | true=>exact (act_rr _ hp r1).more (by omega)
  | false =>
  cases kind == 3 with
  | true =>
   cases (headR6 c ws kind e s).2 != 0 with
   | true=>exact (r1.trans (by omega) (hb _)).more (by omega)
   | false=>exact (r1.trans (by omega) (hl _)).more (by omega)
  | false =>
  cases kind == 4 with
  | true =>
   refine (whileR_rr (fun s => ?_) hb _ s).more (by omega)
   refine ⟨(kid0R_rr c ws e s).1,fun h => ?_⟩
   cases e with
   | nil=>unfold kid0R; rfl
   | cons e1 r=>unfold kid0R; exact (exprR_rr c ws e1 s).2.2.2 h
  | false =>
  cases kind == 5 with
  | true =>
   have r2:=act_rr ⟨5,findI c.p.locks name 0,0⟩ hp (RR.refl (k:=0) (m:=2) s)
   have r3:=r2.trans (by show 0<s.fuel; exact hp) (hb _)
   simp only [cond_true,cond_false]
   cases decide ((blockR6 c ws body (actR ⟨5,findI c.p.locks name 0,0⟩ s)).fuel > 0) with
   | true=>exact act_rr _ hp r3
   | false=>exact r3.more (by omega)
  | false=>exact r1.more (by omega)
theorem blockR6_rr (c:LowC) (ws:List Int) : ∀ (l:List Stmt) (s:RS),RR 0 2 s (blockR6 c ws l s)
 | [],s=>by unfold blockR6; exact .refl s
 | x::r,s=>by
  have hx:=stmtR_rr c ws x (okR s)
  have hr:=blockR6_rr c ws r (stmtR c ws x (okR s))
  have hf:(okR s).fuel=s.fuel - 1:=rfl
  have ha:(okR s).acts=s.acts:=rfl
  have hrd:(okR s).reads=s.reads:=rfl
  unfold blockR6
  cases k0:decide ((okR s).fuel > 0) with
  | false =>
   have k0:=of_decide_eq_false k0
   exact ⟨fun _ => .inl rfl,fun _=>by show 2 - s.fuel≤s.fuel - 1+2; omega,by show s.fuel - 1≤s.fuel; omega,by show s.acts.length+2*(s.fuel - 1).toNat≤_; omega,Nat.le_refl _,rfl⟩
  | true =>
   have k0:=of_decide_eq_true k0
   have x0:=hx k0
   have x1:=x0.low k0; have x2:=x0.less; have x3:=x0.acts2; have x4:=x0.reads; have x5:=x0.locals
   have y1:=hr.low; have y2:=hr.less; have y3:=hr.acts2; have y4:=hr.reads; have y5:=hr.locals; have y6:=hr.low2
   rw [ha,hf] at x3
   rw [ha,hrd] at x4
   refine ⟨fun h=>by omega,fun _ => ?_,by show (blockR6 c ws r _).fuel≤_; omega,by show (blockR6 c ws r _).acts.length+2*(blockR6 c ws r _).fuel.toNat≤_; omega,by show (blockR6 c ws r _).reads+_≤_+(blockR6 c ws r _).acts.length; omega,by show (blockR6 c ws r _).locals.length=_; rw [y5,x5]; rfl⟩
   show 2 - s.fuel≤(blockR6 c ws r (stmtR c ws x (okR s))).fuel+_
   by_cases hk:0<(stmtR c ws x (okR s)).fuel
   ·have:=y1 hk; omega
   ·have:=y6 (by omega); omega
end
end Go.Proofs.YthboippafkcoiaaGreatDoor.am
