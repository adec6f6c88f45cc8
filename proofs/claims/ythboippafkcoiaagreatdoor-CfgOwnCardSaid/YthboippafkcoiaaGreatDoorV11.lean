/- Contract of cfg's Lower. cfg.Lower hands out a unit of its asker's own. cfg.held hands out lists of its asker's own. Parse, of the package and of -/
import Derived.Test.YthboippafkcoiaaGreatDoorV10
import Derived.Test.YthboippafkcoiaaGreatDoorV9
import Derived.Test.YthboippafkcoiaaGreatDoorProg
import Derived.WalkLawsBesides
import Derived.Deep.WholeRow
import Derived.Lib.Hide
import Derived.Below
import Derived.Test.YthboippafkcoiaaGreatDoorV6
import Derived.Lib.Mul64
import Derived.Laws.Bits64b
import Derived.ShutString
set_option linter.all false
namespace Go.Proofs.YthboippafkcoiaaGreatDoor.am
open Go Go.Proofs
set_option linter.all false
def thrC (p:Prg) (t:Nat) (th:Thread):LowC:=⟨p,t,th.name,((th.locals.map Decl.cells).length:Nat)⟩
def low0 (th:Thread):LowS:=⟨((th.locals.map Decl.cells).length:Nat),[],[],false⟩
def endS (s:LowS):LowS:=bif s.over then s else putS { nd00 with kind:=9 } s
def zeroLast (l:List Nd):List Nd:=match l[l.length - 1]? with
 | some n=>l.set (l.length - 1) { n with next:=0 }
 | none=>l
def grS (c:LowC) (s:LowS):Gr:=⟨c.name,c.loc,s.slots,zeroLast s.nodes⟩
def lowTs (p:Prg):Nat→List Thread→Option (List Gr)
 | _,[]=>some []
 | i,th::r=>bif (endS (blockS (thrC p i th) th.body (low0 th))).over then none else match lowTs p (i+1) r with
  | some l=>some (grS (thrC p i th) (endS (blockS (thrC p i th) th.body (low0 th)))::l)
  | none=>none
def outU (p:Prg):Option (List Gr)→Un × Int
 | none=>(⟨[],[],[]⟩,3)
 | some l=>(⟨p.shared,p.locks,l⟩,0)
def lowerU (p:Prg):Un × Int:=bif (checkW p).1 != 0 then (⟨[],[],[]⟩,(checkW p).1) else outU p (lowTs p 0 p.threads)
def contG (gs:List Gr):Option (List Gr)→Option (List Gr)
 | none=>none
 | some l=>some (gs++l)
theorem low0_ok (th:Thread):OkA (low0 th):=⟨fun o h=>(by cases h),Nat.zero_le _,Nat.zero_le _⟩
theorem endS_rel (s:LowS):RelE s (endS s):=by
 unfold endS
 cases s.over with
 | true=>exact .refl s
 | false=>exact putS_rel _ _
theorem endS_pos {s:LowS} (h:(endS s).over=false):1≤(endS s).nodes.length:=by
 unfold endS at h ⊢
 cases ho:s.over with
 | true=>rw [ho,cond_true,ho] at h; cases h
 | false =>
  rw [ho,cond_false] at h
  rw [cond_false]
  cases hb:decide ((s.nodes.length:Int) ≥ 4096) with
  | true=>rw [putS_big _ hb] at h; cases h
  | false=>rw [putS_len _ hb]; omega
theorem zeroLast_len (l:List Nd):(zeroLast l).length=l.length:=by
 unfold zeroLast
 split
 ·exact List.length_set
 ·rfl
theorem thr_get {l:List Thread} {i:Nat} {row:List Tr} (h:(l.map Thread.cells)[i]? = some row) : ∃ d,l[i]? = some d∧row=d.cells:=by
 rw [List.getElem?_map,Option.map_eq_some_iff] at h
 obtain ⟨d,h1,rfl⟩:=h
 exact ⟨d,h1,rfl⟩
abbrev opsH (h:Nat) (l:List (Bool × Nat)):Blk := .fns 137 8 h (l.map cloD)
abbrev lwT (c:LowC) (s:LowS) (l:List Nd) (ho:Nat):Blk := .cells 92 [.tr (declsT c.p.shared),.tr (declsT c.p.locks),.tr (threadsT c.p.threads),.tr (ti (c.t:Nat)),.tr (ts c.name),.tr (ti c.loc),.tr (ti s.slots),.tr (nodesT l),.sl ho s.opens.length,.tr (tb s.over)]
set_option maxRecDepth 100000 in
set_option maxHeartbeats 4000000 in
theorem k_lowerG (p:Prg) (hw:(checkW p).1=0 → ∀ th ∈ p.threads,wfSs th.body=true):K 10 [p.av] [] (.ret (.tup [(lowerU p).1.av,.tr (ti (lowerU p).2)])) []:=by
 have hch:=k10 p
 have hU:lowerU p=bif (checkW p).1 != 0 then (⟨[],[],[]⟩,(checkW p).1) else outU p (lowTs p 0 p.threads):=rfl
 generalize lowerU p=R at hU ⊢
 generalize checkW p=C0 at hch hU hw
 obtain ⟨why,fa,fr⟩:=C0
 simp only at hU hw
 refine Ctr.cut [4,5,9,10,12,14,15] hT hmix Tryz.func10 rfl (fun _ _=>by kernel_rfl) rfl fun hok => ?_
 obtain ⟨hb1,_,_⟩:=((hok.slot 0 rfl).agg _ (.head _)).tr.lst
 obtain ⟨hb2,_,_⟩:=((hok.slot 0 rfl).agg _ (.tail _ (.head _))).tr.lst
 obtain ⟨hb3,hl3,hrw⟩:=((hok.slot 0 rfl).agg _ (.tail _ (.tail _ (.head _)))).tr.lst
 rw [List.length_map] at hl3
 have hlt:(p.threads.map Thread.cells).length=p.threads.length:=List.length_map ..
 clear hok hrw
 conv=>whnf
 refine CutL.by (fun _:Unit=>⟨[(1,.ptr 0 0),(2,.ptr 1 0)],[(0,.cells 25 [.tr (declsT p.shared),.tr (declsT p.locks),.tr (threadsT p.threads)]),(1,.cells 29 [nilA,nilA,nilA])],20⟩) (fun _=>(why != 0)=false) ?_ ?_
 ·conv=>whnf
  refine acall.pure _ (hch) rfl rfl fun _ => ?_
  conv=>whnf
  cases h1:(why != 0) with
  | true =>
   rw [h1,cond_true] at hU
   subst hU
   conv=>whnf
   exact ⟨⟨⟨.inr ⟨rfl,_,_,rfl⟩,.inr ⟨rfl,_,_,rfl⟩,.inr ⟨rfl,_,_,rfl⟩,trivial⟩,.inl rfl,trivial⟩,trivial⟩
  | false =>
   conv=>whnf
   exact ⟨(),[_,_],[],Sub.aw,rfl⟩
 rintro - h1 -
 rw [h1,cond_false] at hU
 replace hw:=hw (by rw [bne_eq_false_iff_eq] at h1; exact h1)
 clear hch
 obtain ⟨Q,hQ⟩ : ∃ Q,Q=lowTs p 0 p.threads:=⟨_,rfl⟩
 rw [← hQ] at hU
 conv=>whnf
 refine CutL.by (fun _:Unit=>⟨[(1,.ptr 0 0),(2,.ptr 1 0),(6,.ptr 2 0)],[(0,.cells 25 [.tr (declsT p.shared),.tr (declsT p.locks),.tr (threadsT p.threads)]),(1,.cells 29 [nilA,nilA,nilA]),(2,.cells 29 [.tr (declsT p.shared),.tr (declsT p.locks),.sl 3 (([]:List Gr)).length]),(3,.vec 50 4 56 ((([]:List Gr)).map Gr.cells))],20⟩) (fun _=>True) ?_ ?_
 ·conv=>whnf
  refine ⟨hb1,?_⟩
  conv=>whnf
  refine ⟨hb2,?_⟩
  conv=>whnf
  refine ⟨by kernel_rfl,fun _ => ?_⟩
  conv=>whnf
  exact ⟨(),[_,_,_],[3],Sub.mk' rfl ⟨⟨rfl,rfl⟩,⟨rfl,rfl⟩,⟨rfl,rfl⟩,trivial⟩ ⟨⟨rfl,.inl rfl,.inl rfl,.inl rfl,trivial⟩,⟨rfl,.inl rfl,.inl rfl,.inl rfl,trivial⟩,⟨rfl,⟨rfl,Nat.le_refl _,(by show Tr.lst 3 32 _=Tr.lst 3 32 (List.take _ _); rw [List.take_length])⟩,⟨rfl,Nat.le_refl _,(by show Tr.lst 3 32 _=Tr.lst 3 32 (List.take _ _); rw [List.take_length])⟩,⟨rfl,rfl,rfl,rfl⟩,trivial⟩,⟨rfl,_,_,_,rfl,by decide⟩,trivial⟩ rfl rfl,trivial⟩
 rintro - - -
 conv=>whnf
 refine LoopL.by (fun x:Nat × List Gr=>⟨[(1,.ptr 0 0),(2,.ptr 1 0),(6,.ptr 2 0),(27,.tr (threadsT p.threads)),(28,.tr (ti ((p.threads.map Thread.cells).length:Nat))),(29,.tr (ti (x.1:Nat)))],[(0,.cells 25 [.tr (declsT p.shared),.tr (declsT p.locks),.tr (threadsT p.threads)]),(1,.cells 29 [nilA,nilA,nilA]),(2,.cells 29 [.tr (declsT p.shared),.tr (declsT p.locks),.sl 3 (x.2).length]),(3,.vec 50 4 56 ((x.2).map Gr.cells))],20⟩)
  (fun x=>x.1≤p.threads.length∧Q=contG x.2 (lowTs p x.1 (p.threads.drop x.1))∧x.2.length=x.1) (fun x=>p.threads.length - x.1) (0,[]) [0,1,2,3] []
  (Sub.mk' rfl aut aut rfl rfl) ⟨Nat.zero_le _,by rw [hQ]; show lowTs p 0 p.threads=contG [] (lowTs p 0 p.threads); cases lowTs p 0 p.threads <;> rfl,rfl⟩ ?_
 clear hQ
 rintro ⟨i,gs⟩ ⟨hi,hQ,hgs⟩ -
 simp only at hi hQ hgs
 conv=>whnf
 refine csplit (fun hit => ?_) (fun hit => ?_)
 ·replace hit:i<p.threads.length:=by have:decide ((i:Int)<((p.threads.map Thread.cells).length:Int))=true:=hit; have:=of_decide_eq_true this; omega
  obtain ⟨th,hth⟩ : ∃ th,p.threads[i]? = some th:=⟨_,List.getElem?_eq_getElem hit⟩
  have hwt:=hw th (List.mem_of_getElem? hth)
  rw [drop_cons hth] at hQ
  obtain ⟨C,hC⟩ : ∃ C,C=thrC p i th:=⟨_,rfl⟩
  have hQ2:Q=contG gs (bif (endS (blockS C th.body (low0 th))).over then none else match lowTs p (i+1) (p.threads.drop (i+1)) with
   | some l=>some (grS C (endS (blockS C th.body (low0 th)))::l)
   | none=>none):=by rw [hQ,hC]; rfl
  clear hQ
  have hblk:=k_blkG C th.body hwt (low0 th) (low0_ok th)
  have h1:=(low0_ok th).rel (blockS_rel C th.body (low0 th))
  have hCp:C.p=p:=by rw [hC]; rfl
  have hCt:C.t=i:=by rw [hC]; rfl
  have hCn:C.name=th.name:=by rw [hC]; rfl
  have hCl:C.loc=((th.locals.map Decl.cells).length:Nat):=by rw [hC]; rfl
  conv=>whnf
  refine ⟨rfl,(show (0:Int)≤i by omega),(show (i:Int)<((p.threads.map Thread.cells).length:Int) by omega),fun row hrow => ?_⟩
  obtain ⟨d,hd,rfl⟩:=thr_get hrow
  obtain rfl:=Option.some.inj (hth.symm.trans hd)
  clear hrow hd
  conv=>whnf
  refine CutL.by (fun _:Unit=>⟨[(1,.ptr 0 0),(2,.ptr 1 0),(6,.ptr 2 0),(27,.tr (threadsT p.threads)),(28,.tr (ti ((p.threads.map Thread.cells).length:Nat))),(29,.tr (ti (i:Nat))),(8,.ptr 4 0),(9,.ptr 5 0)],[(0,.cells 25 [.tr (declsT p.shared),.tr (declsT p.locks),.tr (threadsT p.threads)]),(1,.cells 29 [nilA,nilA,nilA]),(2,.cells 29 [.tr (declsT p.shared),.tr (declsT p.locks),.sl 3 (gs).length]),(3,.vec 50 4 56 ((gs).map Gr.cells)),(4,.cells 41 (th.cells.map .tr)),(5,stB C (low0 th) 6 7),(6,ndsB (low0 th).nodes),(7,opsH 5 (low0 th).opens)],20⟩) (fun _=>True) ?_ ?_
  ·conv=>whnf
   subst hC
   exact ⟨(),[0,1,2,3,_,_],[6,7],Sub.mk' rfl ⟨⟨rfl,rfl⟩,⟨rfl,rfl⟩,⟨rfl,rfl⟩,.inl rfl,.inl rfl,.inl rfl,⟨rfl,rfl⟩,⟨rfl,rfl⟩,trivial⟩ ⟨⟨rfl,.inl rfl,.inl rfl,.inl rfl,trivial⟩,⟨rfl,.inl rfl,.inl rfl,.inl rfl,trivial⟩,⟨rfl,.inl rfl,.inl rfl,⟨rfl,rfl⟩,trivial⟩,⟨rfl,rfl,rfl,rfl⟩,⟨rfl,.inl rfl,.inl rfl,.inl rfl,.inl rfl,trivial⟩,⟨rfl,.inl rfl,.inl rfl,.inl rfl,.inl rfl,.inl rfl,.inl rfl,.inl rfl,⟨rfl,rfl,rfl,rfl⟩,⟨rfl,rfl,rfl,rfl⟩,.inl rfl,trivial⟩,⟨rfl,_,_,_,rfl,by decide⟩,⟨rfl,rfl⟩,trivial⟩ rfl rfl,trivial⟩
  rintro - - -
  generalize blockS C th.body (low0 th)=S1 at hblk h1 hQ2
  conv=>whnf
  refine CutL.by (fun _:Unit=>⟨[(1,.ptr 0 0),(2,.ptr 1 0),(6,.ptr 2 0),(27,.tr (threadsT p.threads)),(28,.tr (ti ((p.threads.map Thread.cells).length:Nat))),(29,.tr (ti (i:Nat))),(9,.ptr 5 0)],[(0,.cells 25 [.tr (declsT p.shared),.tr (declsT p.locks),.tr (threadsT p.threads)]),(1,.cells 29 [nilA,nilA,nilA]),(2,.cells 29 [.tr (declsT p.shared),.tr (declsT p.locks),.sl 3 (gs).length]),(3,.vec 50 4 56 ((gs).map Gr.cells)),(5,stB C (S1) 6 7),(6,ndsB (S1).nodes),(7,opsH 5 (S1).opens)],20⟩) (fun _=>True) ?_ ?_
  ·conv=>whnf
   refine acall.new [5,6,7] [] _ _ _ _ (hblk) rfl rfl rfl rfl aut aut rfl rfl ?_
   conv=>whnf
   intro _
   conv=>whnf
   exact ⟨(),[0,1,2,3,4,5,_,_],[],Sub.aw,trivial⟩
  rintro - - -
  have hp2:=k_putG C { nd00 with kind:=9 } S1 h1.ok
  have h2:=h1.relE (endS_rel S1)
  have hpos:=endS_pos (s:=S1)
  have hE:endS S1=bif S1.over then S1 else putS { nd00 with kind:=9 } S1:=rfl
  generalize putS { nd00 with kind:=9 } S1=S2a at hp2 hE
  generalize endS S1=S2 at h2 hpos hE hQ2
  conv=>whnf
  refine CutL.by (fun _:Unit=>⟨[(1,.ptr 0 0),(2,.ptr 1 0),(6,.ptr 2 0),(27,.tr (threadsT p.threads)),(28,.tr (ti ((p.threads.map Thread.cells).length:Nat))),(29,.tr (ti (i:Nat))),(9,.ptr 5 0)],[(0,.cells 25 [.tr (declsT p.shared),.tr (declsT p.locks),.tr (threadsT p.threads)]),(1,.cells 29 [nilA,nilA,nilA]),(2,.cells 29 [.tr (declsT p.shared),.tr (declsT p.locks),.sl 3 (gs).length]),(3,.vec 50 4 56 ((gs).map Gr.cells)),(5,stB C (S2) 6 7),(6,ndsB (S2).nodes),(7,opsH 5 (S2).opens)],20⟩) (fun _=>True) ?_ ?_
  ·conv=>whnf
   obtain ⟨sl1,n1,o1,v1⟩:=S1
   cases v1 with
   | true =>
    replace hE:S2=⟨sl1,n1,o1,true⟩:=hE
    subst hE
    conv=>whnf
    exact ⟨(),[0,1,2,3,4,5,6,7],[],Sub.mk' rfl aut aut rfl rfl,trivial⟩
   | false =>
    replace hE:S2=S2a:=hE
    subst hE
    conv=>whnf
    refine acall.new [5,6,7] [] _ _ _ _ (hp2) rfl rfl rfl rfl aut aut rfl rfl ?_
    conv=>whnf
    intro _
    conv=>whnf
    exact ⟨(),[0,1,2,3,4,5,_,_],[],Sub.aw,trivial⟩
  rintro - - -
  clear hE hp2 h1 hblk
  obtain ⟨sl2,n2,o2,v2⟩:=S2
  simp only at hpos hQ2
  cases v2 with
  | true =>
   replace hQ2:Q=none:=hQ2
   replace hU:R=(⟨[],[],[]⟩,3):=by rw [hU,hQ2]; rfl
   subst hU
   conv=>whnf
   refine CutL.by (fun _:Unit=>⟨[(1,.ptr 0 0)],[(0,.cells 25 [.tr (declsT p.shared),.tr (declsT p.locks),.tr (threadsT p.threads)])],20⟩) (fun _=>False) ?_ ?_
   ·conv=>whnf
    exact ⟨⟨⟨.inr ⟨rfl,_,_,rfl⟩,.inr ⟨rfl,_,_,rfl⟩,.inr ⟨rfl,_,_,rfl⟩,trivial⟩,.inl rfl,trivial⟩,trivial⟩
   rintro - hF
   exact hF.elim
  | false =>
  have hpos:=hpos rfl
  have hcap:=h2.cap
  simp only at hcap
  conv=>whnf
  refine CutL.by (fun _:Unit=>⟨[(1,.ptr 0 0),(2,.ptr 1 0),(6,.ptr 2 0),(27,.tr (threadsT p.threads)),(28,.tr (ti ((p.threads.map Thread.cells).length:Nat))),(29,.tr (ti (i:Nat))),(9,.ptr 5 0)],[(0,.cells 25 [.tr (declsT p.shared),.tr (declsT p.locks),.tr (threadsT p.threads)]),(1,.cells 29 [nilA,nilA,nilA]),(2,.cells 29 [.tr (declsT p.shared),.tr (declsT p.locks),.sl 3 (gs).length]),(3,.vec 50 4 56 ((gs).map Gr.cells)),(5,stB C ((⟨sl2,n2,o2,false⟩:LowS)) 6 7),(6,ndsB ((⟨sl2,n2,o2,false⟩:LowS)).nodes),(7,opsH 5 ((⟨sl2,n2,o2,false⟩:LowS)).opens)],20⟩) (fun _=>True) ?_ ?_
  ·conv=>whnf
   exact ⟨(),[0,1,2,3,4,5,6,7],[],Sub.mk' rfl aut aut rfl rfl,trivial⟩
  rintro - - -
  have hz:IntKind.i64.wrap ((n2.length:Int) - 1)=((n2.length - 1:Nat):Int):=by
   rw [w64 (by omega) (by omega)]; omega
  obtain ⟨nl,hnl⟩ : ∃ nl,n2[n2.length - 1]? = some nl:=⟨_,List.getElem?_eq_getElem (by omega)⟩
  have hzl:zeroLast n2=n2.set (n2.length - 1) { nl with next:=0 }:=by unfold zeroLast; rw [hnl]
  conv=>whnf
  refine CutL.by (fun _:Unit=>⟨[(1,.ptr 0 0),(2,.ptr 1 0),(6,.ptr 2 0),(27,.tr (threadsT p.threads)),(28,.tr (ti ((p.threads.map Thread.cells).length:Nat))),(29,.tr (ti (i:Nat))),(9,.ptr 5 0)],[(0,.cells 25 [.tr (declsT p.shared),.tr (declsT p.locks),.tr (threadsT p.threads)]),(1,.cells 29 [nilA,nilA,nilA]),(2,.cells 29 [.tr (declsT p.shared),.tr (declsT p.locks),.sl 3 (gs).length]),(3,.vec 50 4 56 ((gs).map Gr.cells)),(5,lwT C ⟨sl2,n2,o2,false⟩ (zeroLast n2) 7),(7,opsH 5 o2)],20⟩) (fun _=>True) ?_ ?_
  ·conv=>whnf
   rw [hz]
   refine ⟨rfl,(show (0:Int)≤((n2.length - 1:Nat):Int) by omega),(show ((n2.length - 1:Nat):Int)<(n2.length:Int) by omega),?_⟩
   conv=>whnf
   refine ⟨rfl,rfl,(by show n2.length - 1<(n2.map Nd.cells).length; rw [List.length_map]; omega),fun row hrow => ?_⟩
   obtain ⟨d,hd,rfl⟩:=nd_get hrow
   have hdn:nl=d:=Option.some.inj (hnl.symm.trans hd)
   subst hdn
   clear hrow hd
   refine ⟨(show 10+1≤13 by decide),?_⟩
   conv=>whnf
   refine ⟨by kernel_rfl,fun _ => ?_⟩
   conv=>whnf
   exact ⟨(),[0,1,2,3,4,5,1000000,7],[],Sub.mk' rfl aut ⟨aut,aut,aut,aut,⟨rfl,.inl rfl,.inl rfl,.inl rfl,.inl rfl,.inl rfl,.inl rfl,.inl rfl,⟨rfl,(by show n2.length≤((n2.map Nd.cells).set _ _).length; rw [List.length_set,List.length_map]; exact Nat.le_refl _),(by rw [hzl]; show Tr.lst 13 96 _=Tr.lst 13 96 (List.take _ ((n2.map Nd.cells).set _ _)); rw [List.take_of_length_le (by rw [List.length_set,List.length_map]; exact Nat.le_refl _),List.map_set]; rfl)⟩,⟨rfl,rfl⟩,.inl rfl,trivial⟩,aut,trivial⟩ rfl rfl,trivial⟩
  rintro - - -
  obtain ⟨G,hG⟩ : ∃ G,G=grS C ⟨sl2,n2,o2,false⟩:=⟨_,rfl⟩
  have hGc:G.cells=[ts C.name,ti C.loc,ti sl2,nodesT (zeroLast n2)]:=by rw [hG]; rfl
  replace hQ2:Q=contG (gs++[G]) (lowTs p (i+1) (p.threads.drop (i+1))):=by
   rw [hQ2,hG]
   cases lowTs p (i+1) (p.threads.drop (i+1)) with
   | none=>rfl
   | some l=>show some (gs++(grS C _::l))=some ((gs++[grS C _])++l); rw [List.append_assoc]; rfl
  have hda:(gs.map Gr.cells).take gs.length++[[ts C.name,ti C.loc,ti sl2,nodesT (zeroLast n2)]]=(gs++[G]).map Gr.cells:=by
   rw [List.take_of_length_le (by rw [List.length_map]; exact Nat.le_refl _),List.map_append,← hGc]; rfl
  have hglen:gs.length+1=(gs++[G]).length:=by rw [List.length_append]; rfl
  conv=>whnf
  refine ⟨rfl,rfl,rfl,(by rw [List.length_map]; exact Nat.le_refl _),(show (gs.length+1)*56≤150000000000000 by omega),fun q hq => ?_,?_⟩
  ·cases hq with
   | head=>exact Nat.ne_of_beq_eq_false rfl
   | tail _ h =>
    first
    | (cases h; done)
    | (cases h with
     | head=>exact Nat.ne_of_beq_eq_false rfl
     | tail _ h=>cases h)
  conv=>whnf
  refine ⟨by kernel_rfl,fun _ => ?_⟩
  conv=>whnf
  exact ⟨(i+1,gs++[G]),[0,1,2,_],[],Sub.mk' rfl ⟨⟨rfl,rfl⟩,⟨rfl,rfl⟩,⟨rfl,rfl⟩,.inl rfl,.inl rfl,.inl (ti_succ hit hl3),trivial⟩ ⟨⟨rfl,.inl rfl,.inl rfl,.inl rfl,trivial⟩,⟨rfl,.inl rfl,.inl rfl,.inl rfl,trivial⟩,⟨rfl,.inl rfl,.inl rfl,⟨rfl,hglen⟩,trivial⟩,⟨rfl,rfl,rfl,hda⟩,trivial⟩ rfl rfl,⟨hit,hQ2,by show (gs++[G]).length=i+1; omega⟩,by show p.threads.length - (i+1)<p.threads.length - i; omega⟩
 replace hit:i=p.threads.length:=by have:decide ((i:Int)<((p.threads.map Thread.cells).length:Int))=false:=hit; have:=of_decide_eq_false this; omega
 subst hit
 rw [List.drop_length] at hQ
 replace hQ:Q=some gs:=by rw [hQ]; show some (gs++[])=some gs; rw [List.append_nil]
 replace hU:R=(⟨p.shared,p.locks,gs⟩,0):=by rw [hU,hQ]; rfl
 subst hU
 conv=>whnf
 refine ⟨fun _ => ?_,fun h=>absurd rfl h⟩
 conv=>whnf
 exact ⟨⟨⟨.inl rfl,.inl rfl,⟨rfl,(by rw [List.length_map]; exact Nat.le_refl _),(by show Tr.lst 4 56 _=Tr.lst 4 56 (List.take _ _); rw [List.take_of_length_le (by rw [List.length_map]; exact Nat.le_refl _)])⟩,trivial⟩,.inl rfl,trivial⟩,trivial⟩
end Go.Proofs.YthboippafkcoiaaGreatDoor.am
namespace Go.Proofs.YthboippafkcoiaaGreatDoor.am
open Go Go.Proofs
set_option linter.all false
theorem decl_leafD (l:List Decl):leafR (l.map Decl.cells):=by
 intro row hr t ht
 obtain ⟨d,_,rfl⟩:=List.mem_map.1 hr
 simp only [Decl.cells,List.mem_cons,List.not_mem_nil,or_false] at ht
 rcases ht with rfl | rfl | rfl <;> exact ⟨_,rfl⟩
theorem setC_last (X:List (List Tr)) (row:List Tr) (k j:Nat) (t:Tr) (hk:k=X.length):setC (X++[row]) k j t=X++[row.set j t]:=by
 subst hk
 unfold setC
 rw [List.getElem?_append_right (Nat.le_refl _),Nat.sub_self]
 show (X++[row]).set X.length (row.set j t)=_
 rw [List.set_append_right _ _ (Nat.le_refl _),Nat.sub_self]; rfl
theorem nd_leaf (l:List Nd):leafR (l.map Nd.cells):=by
 intro row hr t ht
 obtain ⟨d,_,rfl⟩:=List.mem_map.1 hr
 simp only [Nd.cells,List.mem_cons,List.not_mem_nil,or_false] at ht
 rcases ht with rfl | rfl | rfl | rfl | rfl | rfl | rfl | rfl | rfl | rfl | rfl | rfl | rfl <;> exact ⟨_,rfl⟩
set_option maxRecDepth 100000 in
set_option maxHeartbeats 4000000 in
theorem k_lowerO (p:Prg) (gs0:List Gr) (hwhy:(checkW p).1=0) (hw : ∀ th ∈ p.threads,wfSs th.body=true) (hlow:lowTs p 0 p.threads=some gs0):K 10 [p.av] [] (.ret (.tup [.agg [.sl 0 (p.shared.map Decl.cells).length,.tr (declsT p.locks),.sl 1 gs0.length],.tr (ti 0)])) [some (.own 3 32 (p.shared.map Decl.cells) []),some (.own 4 56 (gs0.map Gr.cells) [])]:=by
 have hch:=k10 p
 have h1:((checkW p).1 != 0)=false:=by rw [hwhy]; rfl
 generalize checkW p=C0 at hch hwhy h1
 obtain ⟨why,fa,fr⟩:=C0
 simp only at hwhy h1
 refine Ctr.new [4,5,9,10,12,14,15] hT hmix Tryz.func10 rfl (fun _ _=>by kernel_rfl) rfl fun hok => ?_
 obtain ⟨hb1,_,_⟩:=((hok.slot 0 rfl).agg _ (.head _)).tr.lst
 obtain ⟨hb2,_,_⟩:=((hok.slot 0 rfl).agg _ (.tail _ (.head _))).tr.lst
 obtain ⟨hb3,hl3,hrw⟩:=((hok.slot 0 rfl).agg _ (.tail _ (.tail _ (.head _)))).tr.lst
 rw [List.length_map] at hl3
 have hlt:(p.threads.map Thread.cells).length=p.threads.length:=List.length_map ..
 clear hok hrw
 conv=>whnf
 refine CutL.by (fun _:Unit=>⟨[(1,.ptr 0 0),(2,.ptr 1 0)],[(0,.cells 25 [.tr (declsT p.shared),.tr (declsT p.locks),.tr (threadsT p.threads)]),(1,.cells 29 [nilA,nilA,nilA])],20⟩) (fun _=>(why != 0)=false) ?_ ?_
 ·conv=>whnf
  refine acall.pure _ (hch) rfl rfl fun _ => ?_
  conv=>whnf
  rw [h1]
  conv=>whnf
  exact ⟨(),[_,_],[],Sub.aw,rfl⟩
 rintro - - -
 clear hch
 obtain ⟨Q,hQ⟩ : ∃ Q,Q=lowTs p 0 p.threads:=⟨_,rfl⟩
 have hQ0:Q=some gs0:=hQ.trans hlow
 conv=>whnf
 refine CutL.by (fun _:Unit=>⟨[(1,.ptr 0 0),(2,.ptr 1 0),(6,.ptr 2 0)],[(0,.cells 25 [.tr (declsT p.shared),.tr (declsT p.locks),.tr (threadsT p.threads)]),(1,.cells 29 [nilA,nilA,nilA]),(2,.cells 29 [.sl 3 (p.shared.map Decl.cells).length,.tr (declsT p.locks),.sl 4 (([]:List Gr)).length]),(3,.own 3 32 (p.shared.map Decl.cells) []),(4,.own 4 56 ((([]:List Gr)).map Gr.cells) [])],20⟩) (fun _=>True) ?_ ?_
 ·conv=>whnf
  refine ⟨hb1,?_⟩
  conv=>whnf
  refine ⟨hb2,?_⟩
  conv=>whnf
  refine ⟨by kernel_rfl,fun _ => ?_⟩
  conv=>whnf
  exact ⟨(),[_,_,_,_],[4],Sub.mk' rfl ⟨⟨rfl,rfl⟩,⟨rfl,rfl⟩,⟨rfl,rfl⟩,trivial⟩ ⟨⟨rfl,.inl rfl,.inl rfl,.inl rfl,trivial⟩,⟨rfl,.inl rfl,.inl rfl,.inl rfl,trivial⟩,⟨rfl,⟨rfl,rfl⟩,⟨rfl,Nat.le_refl _,(by show Tr.lst 3 32 _=Tr.lst 3 32 (List.take _ _); rw [List.take_length])⟩,⟨rfl,rfl,rfl,rfl⟩,trivial⟩,⟨rfl,rfl,rfl,decl_leafD _,.inl rfl⟩,⟨rfl,rfl,rfl,by decide⟩,trivial⟩ rfl rfl,trivial⟩
 rintro - - -
 conv=>whnf
 refine LoopL.by (fun x:Nat × List Gr=>⟨[(1,.ptr 0 0),(2,.ptr 1 0),(6,.ptr 2 0),(27,.tr (threadsT p.threads)),(28,.tr (ti ((p.threads.map Thread.cells).length:Nat))),(29,.tr (ti (x.1:Nat)))],[(0,.cells 25 [.tr (declsT p.shared),.tr (declsT p.locks),.tr (threadsT p.threads)]),(1,.cells 29 [nilA,nilA,nilA]),(2,.cells 29 [.sl 3 (p.shared.map Decl.cells).length,.tr (declsT p.locks),.sl 4 (x.2).length]),(3,.own 3 32 (p.shared.map Decl.cells) []),(4,.own 4 56 ((x.2).map Gr.cells) [])],20⟩)
  (fun x=>x.1≤p.threads.length∧Q=contG x.2 (lowTs p x.1 (p.threads.drop x.1))∧x.2.length=x.1) (fun x=>p.threads.length - x.1) (0,[]) [0,1,2,3,4] []
  (Sub.mk' rfl aut aut rfl rfl) ⟨Nat.zero_le _,by rw [hQ]; show lowTs p 0 p.threads=contG [] (lowTs p 0 p.threads); cases lowTs p 0 p.threads <;> rfl,rfl⟩ ?_
 clear hQ
 rintro ⟨i,gs⟩ ⟨hi,hQ,hgs⟩ -
 simp only at hi hQ hgs
 conv=>whnf
 refine csplit (fun hit => ?_) (fun hit => ?_)
 ·replace hit:i<p.threads.length:=by have:decide ((i:Int)<((p.threads.map Thread.cells).length:Int))=true:=hit; have:=of_decide_eq_true this; omega
  obtain ⟨th,hth⟩ : ∃ th,p.threads[i]? = some th:=⟨_,List.getElem?_eq_getElem hit⟩
  have hwt:=hw th (List.mem_of_getElem? hth)
  rw [drop_cons hth] at hQ
  obtain ⟨C,hC⟩ : ∃ C,C=thrC p i th:=⟨_,rfl⟩
  have hQ2:Q=contG gs (bif (endS (blockS C th.body (low0 th))).over then none else match lowTs p (i+1) (p.threads.drop (i+1)) with
   | some l=>some (grS C (endS (blockS C th.body (low0 th)))::l)
   | none=>none):=by rw [hQ,hC]; rfl
  clear hQ
  have hblk:=k_blkG C th.body hwt (low0 th) (low0_ok th)
  have h1:=(low0_ok th).rel (blockS_rel C th.body (low0 th))
  have hCp:C.p=p:=by rw [hC]; rfl
  have hCt:C.t=i:=by rw [hC]; rfl
  have hCn:C.name=th.name:=by rw [hC]; rfl
  have hCl:C.loc=((th.locals.map Decl.cells).length:Nat):=by rw [hC]; rfl
  conv=>whnf
  refine ⟨rfl,(show (0:Int)≤i by omega),(show (i:Int)<((p.threads.map Thread.cells).length:Int) by omega),fun row hrow => ?_⟩
  obtain ⟨d,hd,rfl⟩:=thr_get hrow
  obtain rfl:=Option.some.inj (hth.symm.trans hd)
  clear hrow hd
  conv=>whnf
  refine CutL.by (fun _:Unit=>⟨[(1,.ptr 0 0),(2,.ptr 1 0),(6,.ptr 2 0),(27,.tr (threadsT p.threads)),(28,.tr (ti ((p.threads.map Thread.cells).length:Nat))),(29,.tr (ti (i:Nat))),(8,.ptr 5 0),(9,.ptr 6 0)],[(0,.cells 25 [.tr (declsT p.shared),.tr (declsT p.locks),.tr (threadsT p.threads)]),(1,.cells 29 [nilA,nilA,nilA]),(2,.cells 29 [.sl 3 (p.shared.map Decl.cells).length,.tr (declsT p.locks),.sl 4 (gs).length]),(3,.own 3 32 (p.shared.map Decl.cells) []),(4,.own 4 56 ((gs).map Gr.cells) []),(5,.cells 41 (th.cells.map .tr)),(6,stB C (low0 th) 7 8),(7,ndsB (low0 th).nodes),(8,opsH 6 (low0 th).opens)],20⟩) (fun _=>True) ?_ ?_
  ·conv=>whnf
   subst hC
   exact ⟨(),[0,1,2,3,4,_,_],[7,8],Sub.mk' rfl ⟨⟨rfl,rfl⟩,⟨rfl,rfl⟩,⟨rfl,rfl⟩,.inl rfl,.inl rfl,.inl rfl,⟨rfl,rfl⟩,⟨rfl,rfl⟩,trivial⟩ ⟨⟨rfl,.inl rfl,.inl rfl,.inl rfl,trivial⟩,⟨rfl,.inl rfl,.inl rfl,.inl rfl,trivial⟩,⟨rfl,⟨rfl,rfl⟩,.inl rfl,⟨rfl,rfl⟩,trivial⟩,⟨rfl,rfl,rfl,rfl,.inl rfl⟩,⟨rfl,rfl,rfl,rfl,.inl rfl⟩,⟨rfl,.inl rfl,.inl rfl,.inl rfl,.inl rfl,trivial⟩,⟨rfl,.inl rfl,.inl rfl,.inl rfl,.inl rfl,.inl rfl,.inl rfl,.inl rfl,⟨rfl,rfl,rfl,rfl⟩,⟨rfl,rfl,rfl,rfl⟩,.inl rfl,trivial⟩,⟨rfl,_,_,_,rfl,by decide⟩,⟨rfl,rfl⟩,trivial⟩ rfl rfl,trivial⟩
  rintro - - -
  generalize blockS C th.body (low0 th)=S1 at hblk h1 hQ2
  conv=>whnf
  refine CutL.by (fun _:Unit=>⟨[(1,.ptr 0 0),(2,.ptr 1 0),(6,.ptr 2 0),(27,.tr (threadsT p.threads)),(28,.tr (ti ((p.threads.map Thread.cells).length:Nat))),(29,.tr (ti (i:Nat))),(9,.ptr 6 0)],[(0,.cells 25 [.tr (declsT p.shared),.tr (declsT p.locks),.tr (threadsT p.threads)]),(1,.cells 29 [nilA,nilA,nilA]),(2,.cells 29 [.sl 3 (p.shared.map Decl.cells).length,.tr (declsT p.locks),.sl 4 (gs).length]),(3,.own 3 32 (p.shared.map Decl.cells) []),(4,.own 4 56 ((gs).map Gr.cells) []),(6,stB C (S1) 7 8),(7,ndsB (S1).nodes),(8,opsH 6 (S1).opens)],20⟩) (fun _=>True) ?_ ?_
  ·conv=>whnf
   refine acall.new [6,7,8] [] _ _ _ _ (hblk) rfl rfl rfl rfl aut aut rfl rfl ?_
   conv=>whnf
   intro _
   conv=>whnf
   exact ⟨(),[0,1,2,3,4,5,6,_,_],[],Sub.aw,trivial⟩
  rintro - - -
  have hp2:=k_putG C { nd00 with kind:=9 } S1 h1.ok
  have h2:=h1.relE (endS_rel S1)
  have hpos:=endS_pos (s:=S1)
  have hE:endS S1=bif S1.over then S1 else putS { nd00 with kind:=9 } S1:=rfl
  generalize putS { nd00 with kind:=9 } S1=S2a at hp2 hE
  generalize endS S1=S2 at h2 hpos hE hQ2
  conv=>whnf
  refine CutL.by (fun _:Unit=>⟨[(1,.ptr 0 0),(2,.ptr 1 0),(6,.ptr 2 0),(27,.tr (threadsT p.threads)),(28,.tr (ti ((p.threads.map Thread.cells).length:Nat))),(29,.tr (ti (i:Nat))),(9,.ptr 6 0)],[(0,.cells 25 [.tr (declsT p.shared),.tr (declsT p.locks),.tr (threadsT p.threads)]),(1,.cells 29 [nilA,nilA,nilA]),(2,.cells 29 [.sl 3 (p.shared.map Decl.cells).length,.tr (declsT p.locks),.sl 4 (gs).length]),(3,.own 3 32 (p.shared.map Decl.cells) []),(4,.own 4 56 ((gs).map Gr.cells) []),(6,stB C (S2) 7 8),(7,ndsB (S2).nodes),(8,opsH 6 (S2).opens)],20⟩) (fun _=>True) ?_ ?_
  ·conv=>whnf
   obtain ⟨sl1,n1,o1,v1⟩:=S1
   cases v1 with
   | true =>
    replace hE:S2=⟨sl1,n1,o1,true⟩:=hE
    subst hE
    conv=>whnf
    exact ⟨(),[0,1,2,3,4,5,6,7,8],[],Sub.mk' rfl aut aut rfl rfl,trivial⟩
   | false =>
    replace hE:S2=S2a:=hE
    subst hE
    conv=>whnf
    refine acall.new [6,7,8] [] _ _ _ _ (hp2) rfl rfl rfl rfl aut aut rfl rfl ?_
    conv=>whnf
    intro _
    conv=>whnf
    exact ⟨(),[0,1,2,3,4,5,6,_,_],[],Sub.aw,trivial⟩
  rintro - - -
  clear hE hp2 h1 hblk
  obtain ⟨sl2,n2,o2,v2⟩:=S2
  simp only at hpos hQ2
  cases v2 with
  | true =>
   replace hQ2:Q=none:=hQ2
   rw [hQ0] at hQ2
   cases hQ2
  | false =>
  have hpos:=hpos rfl
  have hcap:=h2.cap
  simp only at hcap
  conv=>whnf
  refine CutL.by (fun _:Unit=>⟨[(1,.ptr 0 0),(2,.ptr 1 0),(6,.ptr 2 0),(27,.tr (threadsT p.threads)),(28,.tr (ti ((p.threads.map Thread.cells).length:Nat))),(29,.tr (ti (i:Nat))),(9,.ptr 6 0)],[(0,.cells 25 [.tr (declsT p.shared),.tr (declsT p.locks),.tr (threadsT p.threads)]),(1,.cells 29 [nilA,nilA,nilA]),(2,.cells 29 [.sl 3 (p.shared.map Decl.cells).length,.tr (declsT p.locks),.sl 4 (gs).length]),(3,.own 3 32 (p.shared.map Decl.cells) []),(4,.own 4 56 ((gs).map Gr.cells) []),(6,stB C ((⟨sl2,n2,o2,false⟩:LowS)) 7 8),(7,ndsB ((⟨sl2,n2,o2,false⟩:LowS)).nodes),(8,opsH 6 ((⟨sl2,n2,o2,false⟩:LowS)).opens)],20⟩) (fun _=>True) ?_ ?_
  ·conv=>whnf
   exact ⟨(),[0,1,2,3,4,5,6,7,8],[],Sub.mk' rfl aut aut rfl rfl,trivial⟩
  rintro - - -
  have hz:IntKind.i64.wrap ((n2.length:Int) - 1)=((n2.length - 1:Nat):Int):=by
   rw [w64 (by omega) (by omega)]; omega
  obtain ⟨nl,hnl⟩ : ∃ nl,n2[n2.length - 1]? = some nl:=⟨_,List.getElem?_eq_getElem (by omega)⟩
  have hzl:zeroLast n2=n2.set (n2.length - 1) { nl with next:=0 }:=by unfold zeroLast; rw [hnl]
  conv=>whnf
  refine CutL.by (fun _:Unit=>⟨[(1,.ptr 0 0),(2,.ptr 1 0),(6,.ptr 2 0),(27,.tr (threadsT p.threads)),(28,.tr (ti ((p.threads.map Thread.cells).length:Nat))),(29,.tr (ti (i:Nat))),(9,.ptr 6 0)],[(0,.cells 25 [.tr (declsT p.shared),.tr (declsT p.locks),.tr (threadsT p.threads)]),(1,.cells 29 [nilA,nilA,nilA]),(2,.cells 29 [.sl 3 (p.shared.map Decl.cells).length,.tr (declsT p.locks),.sl 4 (gs).length]),(3,.own 3 32 (p.shared.map Decl.cells) []),(4,.own 4 56 ((gs).map Gr.cells) []),(6,stB C ((⟨sl2,zeroLast n2,o2,false⟩:LowS)) 7 8),(7,ndsB ((⟨sl2,zeroLast n2,o2,false⟩:LowS)).nodes),(8,opsH 6 ((⟨sl2,zeroLast n2,o2,false⟩:LowS)).opens)],20⟩) (fun _=>True) ?_ ?_
  ·conv=>whnf
   rw [hz]
   refine ⟨rfl,(show (0:Int)≤((n2.length - 1:Nat):Int) by omega),(show ((n2.length - 1:Nat):Int)<(n2.length:Int) by omega),?_⟩
   conv=>whnf
   refine ⟨rfl,rfl,(by show n2.length - 1<(n2.map Nd.cells).length; rw [List.length_map]; omega),fun row hrow => ?_⟩
   obtain ⟨d,hd,rfl⟩:=nd_get hrow
   have hdn:nl=d:=Option.some.inj (hnl.symm.trans hd)
   subst hdn
   clear hrow hd
   refine ⟨(show 10+1≤13 by decide),?_⟩
   conv=>whnf
   refine ⟨by kernel_rfl,fun _ => ?_⟩
   conv=>whnf
   exact ⟨(),[0,1,2,3,4,5,6,7,8],[],Sub.mk' rfl aut ⟨aut,aut,aut,aut,aut,⟨rfl,.inl rfl,.inl rfl,.inl rfl,.inl rfl,.inl rfl,.inl rfl,.inl rfl,⟨rfl,(zeroLast_len n2).symm⟩,⟨rfl,rfl⟩,.inl rfl,trivial⟩,⟨rfl,rfl,rfl,by rw [hzl,List.map_set]; rfl⟩,aut,trivial⟩ rfl rfl,trivial⟩
  rintro - - -
  obtain ⟨G,hG⟩ : ∃ G,G=grS C ⟨sl2,n2,o2,false⟩:=⟨_,rfl⟩
  have hGc:G.cells=[ts C.name,ti C.loc,ti sl2,nodesT (zeroLast n2)]:=by rw [hG]; rfl
  replace hQ2:Q=contG (gs++[G]) (lowTs p (i+1) (p.threads.drop (i+1))):=by
   rw [hQ2,hG]
   cases lowTs p (i+1) (p.threads.drop (i+1)) with
   | none=>rfl
   | some l=>show some (gs++(grS C _::l))=some ((gs++[grS C _])++l); rw [List.append_assoc]; rfl
  have hda:(gs.map Gr.cells).take gs.length++[[ts C.name,ti C.loc,ti sl2,nodesT (zeroLast n2)]]=(gs++[G]).map Gr.cells:=by
   rw [List.take_of_length_le (by rw [List.length_map]; exact Nat.le_refl _),List.map_append,← hGc]; rfl
  have hglen:gs.length+1=(gs++[G]).length:=by rw [List.length_append]; rfl
  conv=>whnf
  refine ⟨(by rw [List.length_map]),rfl,Nat.le_refl _,(show (gs.length+1)*56≤150000000000000 by omega),trivial,trivial,trivial,?_⟩
  conv=>whnf
  refine ⟨by kernel_rfl,fun _ => ?_⟩
  conv=>whnf
  have hlg:(gs.map Gr.cells).length=gs.length:=List.length_map ..
  refine ⟨(i+1,gs++[G]),[0,1,2,3,27],[],Sub.pk [27] ?_,⟨hit,hQ2,by show (gs++[G]).length=i+1; omega⟩,by show p.threads.length - (i+1)<p.threads.length - i; omega⟩
  conv=>whnf
  refine ⟨rfl,rfl,(by show (zeroLast n2).length≤((zeroLast n2).map Nd.cells).length; rw [List.length_map]; exact Nat.le_refl _),nd_leaf _,?_⟩
  refine Sub0.mk' rfl ⟨⟨rfl,rfl⟩,⟨rfl,rfl⟩,⟨rfl,rfl⟩,.inl rfl,.inl rfl,.inl (ti_succ hit hl3),trivial⟩ ⟨aut,aut,⟨rfl,⟨rfl,rfl⟩,.inl rfl,⟨rfl,hglen⟩,trivial⟩,aut,⟨rfl,rfl,rfl,rfl,.inl ?_⟩,trivial⟩ rfl rfl
  refine (setC_last (gs.map Gr.cells) _ (gs.length+0) _ _ (by rw [List.length_map]; rfl)).trans ?_
  rw [List.take_of_length_le (by rw [List.length_map]; exact Nat.le_refl _)]
  show gs.map Gr.cells++[[ts C.name,ti C.loc,ti sl2,nodesT (zeroLast n2)]]=(gs++[G]).map Gr.cells
  rw [List.map_append,← hGc]; rfl
 replace hit:i=p.threads.length:=by have:decide ((i:Int)<((p.threads.map Thread.cells).length:Int))=false:=hit; have:=of_decide_eq_false this; omega
 subst hit
 rw [List.drop_length] at hQ
 replace hQ:Q=some gs:=by rw [hQ]; show some (gs++[])=some gs; rw [List.append_nil]
 obtain rfl:gs0=gs:=Option.some.inj (hQ0.symm.trans hQ)
 conv=>whnf
 refine ⟨fun _ => ?_,fun h=>absurd rfl h⟩
 conv=>whnf
 exact ⟨[3,4],rfl,rfl,aut,aut,aut,trivial⟩
end Go.Proofs.YthboippafkcoiaaGreatDoor.am
namespace Go.Proofs.YthboippafkcoiaaGreatDoor.am
open Go Go.Proofs
set_option linter.all false
abbrev oB (lk:List (Option (List Int))) (ln:List ((Nat × Nat) × (Nat × Nat))):Blk := .own 1 24 (lk.map hrow) ln
theorem lnkh_at {a:Nat} {x:Nat × Nat}:lnk [((a,0),x)] a 0=some x:=by
 show (bif Nat.beq 0 0 && Nat.beq a a then some x else none)=some x
 rw [show Nat.beq a a=true from Nat.beq_refl a]; rfl
theorem lnkh_off {a y:Nat} {x:Nat × Nat} (h:a≠y):lnk [((a,0),x)] y 0=none:=by
 show (bif Nat.beq 0 0 && Nat.beq a y then some x else none)=none
 rw [beq_ne h]; rfl
theorem leafIr (l:List Int):leafR (l.map irow):=fun row hr t ht=>by
 obtain ⟨d,_,rfl⟩:=List.mem_map.1 hr
 rw [List.mem_singleton.1 ht]; exact ⟨_,rfl⟩
theorem lstI_all (l:List Int):intsT l=Tr.lst 1 8 ((l.map irow).take (l.map irow).length):=by rw [List.take_length]
theorem setC_hol2 {lk:List (Option (List Int))} {y:Nat} {l:List Int} (h:lk[y]? = some (some l)):setC (lk.map hrow) y 0 (.lst 1 8 ((l.map irow).take l.length))=lk.map hrow:=by
 unfold setC
 rw [List.getElem?_map,h,List.take_of_length_le (by rw [List.length_map]; exact Nat.le_refl _)]
 refine List.ext_getElem? fun i => ?_
 rw [List.getElem?_set]
 split
 ·rename_i e; subst e
  rw [List.getElem?_map,h]
  split
  ·rfl
  ·rename_i w; exact absurd (by rw [List.length_map]; exact (List.getElem?_eq_some_iff.1 h).1) w
 ·rfl
theorem setC_hold {lk:List (Option (List Int))} {y:Nat} {l:List Int} (h:lk[y]? = some (some l)):setC (lk.map hrow) y 0 (.lst 1 8 ((l.map irow).take (l.map irow).length))=lk.map hrow:=by
 rw [List.length_map]; exact setC_hol2 h
theorem setC_hput {lk:List (Option (List Int))} {y:Nat} {o:Option (List Int)} (h:lk[y]? = some o) (now:List Int):setC ((lk.map hrow).set y ((hrow o).take 0++[.v (.slice none 0 0)]++(hrow o).drop (0+1))) y 0 (.lst 1 8 ((now.map irow).take now.length))=(lk.set y (some now)).map hrow:=by
 have hy:y<(lk.map hrow).length:=by rw [List.length_map]; exact (List.getElem?_eq_some_iff.1 h).1
 unfold setC
 have e:(now.map irow).take now.length=now.map irow:=List.take_of_length_le (by rw [List.length_map]; exact Nat.le_refl _)
 rw [List.getElem?_set_self hy,e,List.set_set,List.map_set]
 cases o <;> rfl
theorem k_cloneW (l:List Int) (hl:l.length*8≤150000000000000):K 112 [.tr (intsT l)] [] (.ret (.sl 0 l.length)) [some (.own 1 8 (l.map irow) [])]:=by
 refine Ctr.new [2000001,0] hT hmix Tryz.func112 rfl (fun _ _=>by kernel_rfl) rfl fun hok => ?_
 clear hok
 conv=>whnf
 refine nil_region rfl rfl rfl rfl rfl (by decide) fun b hb => ?_
 cases b
 ·conv=>whnf
  refine CutL.by (fun _:Unit=>⟨[(2,.sl 0 l.length)],[(0,ivB l)],10⟩) (fun _=>True) ?_ ?_
  ·conv=>whnf
   refine ⟨rfl,rfl,rfl,Nat.le_refl _,(by show (0+(l.map irow).length)*8≤150000000000000; rw [List.length_map]; omega),(fun q hq=>by cases hq),?_⟩
   conv=>whnf
   exact ⟨(),[_],[],Sub.mk' rfl ⟨⟨rfl,by simp⟩,trivial⟩ ⟨⟨rfl,rfl,rfl,rfl⟩,trivial⟩ rfl rfl,trivial⟩
  ·rintro - - -
   conv=>whnf
   exact ⟨[0],rfl,rfl,⟨rfl,rfl⟩,⟨rfl,rfl,rfl,leafIr l,.inl rfl⟩,trivial⟩
 ·obtain rfl:l=[]:=by
   cases l with
   | nil=>rfl
   | cons x l=>exact absurd (hb (by simp)) (by simp)
  conv=>whnf
  refine CutL.by (fun _:Unit=>⟨[(2,.sl 0 0)],[(0,ivB [])],10⟩) (fun _=>True) ?_ ?_
  ·conv=>whnf
   exact ⟨(),[],[0],Sub.mk' rfl aut ⟨⟨rfl,_,_,_,rfl,by decide⟩,trivial⟩ rfl rfl,trivial⟩
  ·rintro - - -
   conv=>whnf
   exact ⟨[0],rfl,rfl,⟨rfl,rfl⟩,⟨rfl,rfl,rfl,leafIr [],.inl rfl⟩,trivial⟩
set_option maxRecDepth 100000 in
set_option maxHeartbeats 4000000 in
theorem k_heldO (g:Gr) (hW:Whole g) (hs:(heldR g).2 = -1):K 70 [g.av] [] (.ret (.tup [.sl 0 g.nodes.length,.tr (ti (-1))])) [some (oB (heldR g).1 [])]:=by
 have hR:heldR g=outH g (g.nodes.length+1) (List.replicate g.nodes.length none,[0]) 0:=rfl
 generalize heldR g=R at hR hs ⊢
 have hpos:=hW.pos
 have hmo:=hW.most
 have hlt:=hW.lt
 have hfI:=hW.fol
 have hfl:=hW.len
 have hkind:=hW.kind
 clear hW
 have hO : ∀ f s k,outH g (f+1) s k=match s.2[k]? with
  | none=>(s.1,-1)
  | some a=>match g.nodes[a]? with
   | none=>([],0)
   | some n=>match nowN n (lkAt s.1 a) with
    | none=>([],(a:Int))
    | some now=>contH (outH g f) (k+1) (inH now (fol g a) s):=fun f s k=>rfl
 generalize outH g=OH at hR hO
 have hln:(g.nodes.map Nd.cells).length=g.nodes.length:=List.length_map ..
 obtain ⟨N,hNe⟩ : ∃ N,g.nodes.length=N:=⟨_,rfl⟩
 rw [hNe] at hR hpos hmo hlt hln ⊢
 refine Ctr.new [10,20] hT hmix Tryz.func70 rfl (fun _ _=>by kernel_rfl) rfl fun hok => ?_
 clear hok
 conv=>whnf
 refine ⟨(by rw [hln]; omega),Int.le_refl _,(by rw [hln]; show (N:Int)*24≤_; omega),?_⟩
 conv=>whnf
 rw [hln,Int.toNat_natCast]
 refine LoopL.by (fun x:HSt × Nat=>⟨[(1,.ptr 0 0),(4,.sl 1 N),(5,.mp 2),(6,.sl 3 x.1.2.length),(7,.tr (ti (x.2:Nat)))],[(0,grBl g),(1,oB x.1.1 []),(2,inB x.1.2),(3,natsB x.1.2)],10⟩) (fun x=>HInv N x.2 x.1.1 x.1.2∧x.2≤x.1.2.length∧R=OH (N+1 - x.2) x.1 x.2) (fun x=>N+1 - x.2) ((List.replicate N none,[0]),0) [0,_,_,_] []
  (Sub.mk' rfl ⟨⟨rfl,rfl⟩,⟨rfl,rfl⟩,rfl,⟨rfl,rfl⟩,.inl rfl,trivial⟩ ⟨⟨rfl,.inl rfl,.inl rfl,.inl rfl,.inl rfl,trivial⟩,⟨rfl,rfl,rfl,leaf_rep N,.inl (by rw [List.map_replicate]; rfl)⟩,⟨rfl,rfl⟩,⟨rfl,rfl,rfl,rfl⟩,trivial⟩ rfl rfl) ⟨⟨List.length_replicate ..,by simp,fun x hx=>by rw [List.mem_singleton.1 hx]; exact hpos,fun a l e=>by
   have e:(List.replicate N none)[a]? = some (some l):=e
   rw [List.getElem?_replicate] at e
   split at e <;> cases e⟩,Nat.zero_le _,hR⟩ ?_
 clear hR
 rintro ⟨⟨lk,todo⟩,k⟩ ⟨hI,hk,hR⟩ -
 simp only at hI hk hR
 have htl:=hI.todo_len
 have hlkl:=hI.len
 have hO1:=hO (N - k) (lk,todo) k
 rw [show N - k+1=N+1 - k by omega,← hR] at hO1
 clear hR
 conv=>whnf
 refine csplit (fun hkt => ?_) (fun hkt => ?_)
 ·have hkt:k<todo.length:=by have:decide ((k:Int)<(todo.length:Int))=true:=hkt; have:=of_decide_eq_true this; omega
  obtain ⟨a,ha⟩ : ∃ a,todo[k]? = some a:=⟨_,List.getElem?_eq_getElem hkt⟩
  have haN:=hI.lt a (List.mem_of_getElem? ha)
  obtain ⟨n,hn⟩ : ∃ n,g.nodes[a]? = some n:=⟨_,List.getElem?_eq_getElem (by omega)⟩
  obtain ⟨o,ho⟩ : ∃ o,lk[a]? = some o:=⟨_,List.getElem?_eq_getElem (by omega)⟩
  have hlk:lkAt lk a=o.getD []:=by unfold lkAt; rw [List.getD_eq_getElem?_getD,ho]; rfl
  have hO2:R=match nowN n (lkAt lk a) with
    | none=>([],(a:Int))
    | some now=>contH (OH (N - k)) (k+1) (inH now (fol g a) (lk,todo)):=by
   rw [hO1]
   show (match todo[k]? with | none=>_ | some a=>_)=_
   rw [ha]
   show (match g.nodes[a]? with | none=>_ | some n=>_)=_
   rw [hn]
  clear hO1
  have hl0:=hI.at a
  have hf:=k_follows n
  rw [hfI a n hn] at hf
  have hflt:=hlt a
  have hfl:=hfl a
  conv=>whnf
  refine ⟨rfl,(show (0:Int)≤k by omega),(show (k:Int)<(todo.length:Int) by omega),?_⟩
  conv=>whnf
  refine ⟨rfl,(by show k<(todo.map nrow).length; rw [List.length_map]; omega),fun row hrow => ?_⟩
  obtain ⟨d,hd,rfl⟩:=nrow_get hrow
  obtain rfl:=Option.some.inj (ha.symm.trans hd)
  clear hrow hd
  refine ⟨(show 0<1 by decide),fun t ht => ?_⟩
  cases ht
  conv=>whnf
  refine ⟨rfl,(show (0:Int)≤a by omega),(show (a:Int)<((g.nodes.map Nd.cells).length:Int) by omega),fun row hrow => ?_⟩
  obtain ⟨d,hd,rfl⟩:=nd_get hrow
  obtain rfl:=Option.some.inj (hn.symm.trans hd)
  clear hrow hd
  conv=>whnf
  refine CutL.by (fun o:Option (List Int)=>⟨match o with
   | none=>[(1,.ptr 0 0),(4,.sl 1 N),(5,.mp 2),(6,.sl 3 todo.length),(7,.tr (ti (k:Nat))),(8,.tr (ti (a:Nat))),(9,.ptr 4 0),(10,.tr (intsT []))]
   | some l=>[(1,.ptr 0 0),(4,.sl 1 N),(5,.mp 2),(6,.sl 3 todo.length),(7,.tr (ti (k:Nat))),(8,.tr (ti (a:Nat))),(9,.ptr 4 0),(10,.sl 5 l.length)],match o with
   | none=>[(0,grBl g),(1,oB lk []),(2,inB todo),(3,natsB todo),(4,.cells 75 (n.cells.map .tr))]
   | some l=>[(0,grBl g),(1,oB lk [((a,0),(5,l.length))]),(2,inB todo),(3,natsB todo),(4,.cells 75 (n.cells.map .tr)),(5,.own 1 8 (l.map irow) [])],10⟩) (fun o=>lk[a]? = some o) ?_ ?_
  ·conv=>whnf
   refine ⟨rfl,(show (0:Int)≤a by omega),(show (a:Int)<(N:Int) by omega),?_⟩
   conv=>whnf
   refine ⟨rfl,(by show a<(lk.map hrow).length; rw [List.length_map]; omega),fun row hrow => ?_⟩
   obtain ⟨d,hd,rfl⟩:=hrow_get hrow
   obtain rfl:=Option.some.inj (ho.symm.trans hd)
   clear hrow hd
   cases o with
   | none =>
    refine ⟨(show 0<1 by decide),fun t ht => ?_⟩
    cases ht
    conv=>whnf
    exact ⟨none,[0,1,2,3,_],[],Sub.mk' rfl ⟨⟨rfl,rfl⟩,⟨rfl,rfl⟩,rfl,⟨rfl,rfl⟩,.inl rfl,.inl rfl,⟨rfl,rfl⟩,.inr ⟨rfl,1,8,rfl⟩,trivial⟩ ⟨⟨rfl,.inl rfl,.inl rfl,.inl rfl,.inl rfl,trivial⟩,⟨rfl,rfl,rfl,rfl,.inl rfl⟩,⟨rfl,rfl⟩,⟨rfl,rfl,rfl,rfl⟩,⟨rfl,.inl rfl,.inl rfl,.inl rfl,.inl rfl,.inl rfl,.inl rfl,.inl rfl,.inl rfl,.inl rfl,.inl rfl,.inl rfl,.inl rfl,.inl rfl,trivial⟩,trivial⟩ rfl rfl,ho⟩
   | some l =>
    refine ⟨(show 0<1 by decide),fun t ht => ?_⟩
    cases ht
    conv=>whnf
    refine ⟨(show 0<1 by decide),?_⟩
    conv=>whnf
    exact ⟨some l,[0,1,2,3,_,_],[],Sub.mk' rfl ⟨⟨rfl,rfl⟩,⟨rfl,rfl⟩,rfl,⟨rfl,rfl⟩,.inl rfl,.inl rfl,⟨rfl,rfl⟩,⟨rfl,(List.length_map ..)⟩,trivial⟩ ⟨⟨rfl,.inl rfl,.inl rfl,.inl rfl,.inl rfl,trivial⟩,⟨rfl,rfl,(by rw [List.length_map]; rfl),rfl,.inl rfl⟩,⟨rfl,rfl⟩,⟨rfl,rfl,rfl,rfl⟩,⟨rfl,.inl rfl,.inl rfl,.inl rfl,.inl rfl,.inl rfl,.inl rfl,.inl rfl,.inl rfl,.inl rfl,.inl rfl,.inl rfl,.inl rfl,.inl rfl,trivial⟩,⟨rfl,rfl,rfl,rfl,.inl rfl⟩,trivial⟩ rfl rfl,ho⟩
  rintro o2 ho2 -
  obtain rfl:=Option.some.inj (ho.symm.trans ho2)
  clear ho2
  have hla:=ho
  have hat:a ∈ todo:=List.mem_of_getElem? ha
  conv=>whnf
  refine CutL.by (fun x:List Int ⊕ (List Int × Nat)=>⟨match x with
   | .inl now=>[(1,.ptr 0 0),(4,.sl 1 N),(5,.mp 2),(6,.sl 3 todo.length),(7,.tr (ti (k:Nat))),(8,.tr (ti (a:Nat))),(9,.ptr 4 0),(10,.tr (intsT now))]
   | .inr (l,m)=>[(1,.ptr 0 0),(4,.sl 1 N),(5,.mp 2),(6,.sl 3 todo.length),(7,.tr (ti (k:Nat))),(8,.tr (ti (a:Nat))),(9,.ptr 4 0),(10,.sl 5 m)],match x with
   | .inl now=>[(0,grBl g),(1,oB lk []),(2,inB todo),(3,natsB todo),(4,.cells 75 (n.cells.map .tr))]
   | .inr (l,m)=>[(0,grBl g),(1,oB lk [((a,0),(5,l.length))]),(2,inB todo),(3,natsB todo),(4,.cells 75 (n.cells.map .tr)),(5,.own 1 8 (l.map irow) [])],10⟩) (fun x=>match x with
   | .inl now=>nowN n (lkAt lk a)=some now
   | .inr (l,m)=>o=some l∧m≤l.length∧nowN n l=some (l.take m)) ?_ ?_
  ·cases o with
   | none =>
    have hlk:lkAt lk a=[]:=hlk
    rw [hlk] at hO2
    conv=>whnf
    cases h5:(n.kind == 5) with
    | true =>
     conv=>whnf
     refine acall.new [] [] _ _ _ _ (k_cloneO [] (by decide)) rfl rfl rfl rfl aut aut rfl rfl ?_
     conv=>whnf
     refine ⟨rfl,rfl,rfl,Nat.le_refl _,(show (0+1)*8≤150000000000000 by omega),fun q hq => ?_,?_⟩
     ·cases hq with
      | head=>exact Nat.ne_of_beq_eq_false rfl
      | tail _ h=>cases h
     conv=>whnf
     refine ⟨by kernel_rfl,fun _ => ?_⟩
     conv=>whnf
     exact ⟨.inl [n.thing],[0,1,2,3,4],[],Sub.mk' rfl ⟨⟨rfl,rfl⟩,⟨rfl,rfl⟩,rfl,⟨rfl,rfl⟩,.inl rfl,.inl rfl,⟨rfl,rfl⟩,⟨rfl,Nat.le_refl _,rfl⟩,trivial⟩ aut rfl rfl,by show nowN n (lkAt lk a)=_; rw [hlk]; unfold nowN; rw [h5]; rfl⟩
    | false =>
    conv=>whnf
    cases h6:(n.kind == 6) with
    | true =>
     have hRf:R=([],(a:Int)):=by rw [hO2]; unfold nowN; rw [h5,h6]; rfl
     rw [hRf] at hs
     exact absurd hs (show (a:Int) ≠ -1 by omega)
    | false =>
    have hnow:nowN n (lkAt lk a)=some []:=by
     rw [hlk]; unfold nowN; rw [h5,h6]
     cases (n.kind == 9) <;> rfl
    conv=>whnf
    cases h9:(n.kind == 9) with
    | true =>
     conv=>whnf
     exact ⟨.inl [],[0,1,2,3,4],[],Sub.mk' rfl aut aut rfl rfl,hnow⟩
    | false =>
     conv=>whnf
     exact ⟨.inl [],[0,1,2,3,4],[],Sub.mk' rfl aut aut rfl rfl,hnow⟩
   | some l =>
    have hlk:lkAt lk a=l:=hlk
    rw [hlk] at hO2 hl0
    have hll:(l.map irow).length=l.length:=List.length_map ..
    have hlt0:intsT l=Tr.lst 1 8 ((l.map irow).take l.length):=by rw [List.take_of_length_le (Nat.le_of_eq hll)]
    have hlw:0<l.length→IntKind.i64.wrap ((l.length:Int) - 1)=((l.length - 1:Nat):Int):=fun h=>by rw [w64 (by omega) (by omega)]; omega
    conv=>whnf
    cases h5:(n.kind == 5) with
    | true =>
     conv=>whnf
     refine acall.new [] [5] _ _ _ _ (k_cloneW l (by omega)) rfl rfl rfl rfl ⟨⟨rfl,Nat.le_of_eq hll.symm,hlt0⟩,trivial⟩ trivial rfl rfl ?_
     conv=>whnf
     refine ⟨hll.symm,rfl,Nat.le_refl _,(show (l.length+1)*8≤150000000000000 by omega),trivial,(fun row hr t ht=>by rw [List.mem_singleton.1 hr] at ht; rw [List.mem_singleton.1 ht]; exact ⟨_,rfl⟩),trivial,?_⟩
     conv=>whnf
     refine ⟨by kernel_rfl,fun _ => ?_⟩
     conv=>whnf
     have htk:l.map irow++[[ti n.thing]]=(l++[n.thing]).map irow:=by rw [List.map_append]; rfl
     have hle:l.length+1≤(l.map irow++[[ti n.thing]]).length:=by rw [htk,List.length_map,List.length_append]; exact Nat.le_refl _
     have heq:intsT (l++[n.thing])=Tr.lst 1 8 ((l.map irow++[[ti n.thing]]).take (l.length+1)):=by rw [htk,List.take_of_length_le (by rw [List.length_map,List.length_append]; exact Nat.le_refl _)]
     refine ⟨.inl (l++[n.thing]),[0,1,2,3,4],[],Sub.pk [1] ?_,by show nowN n (lkAt lk a)=_; rw [hlk]; unfold nowN; rw [h5]; rfl⟩
     conv=>whnf
     refine ⟨rfl,rfl,Nat.le_of_eq hll.symm,?_⟩
     exact Sub0.mk' rfl ⟨⟨rfl,rfl⟩,⟨rfl,rfl⟩,rfl,⟨rfl,rfl⟩,.inl rfl,.inl rfl,⟨rfl,rfl⟩,⟨rfl,hle,heq⟩,trivial⟩ ⟨aut,⟨rfl,rfl,rfl,rfl,.inl (setC_hol2 ho)⟩,⟨rfl,rfl⟩,aut,aut,trivial⟩ rfl rfl
    | false =>
    conv=>whnf
    cases h6:(n.kind == 6) with
    | true =>
     conv=>whnf
     cases h7:((l.length:Int) == 0) with
     | true =>
      have hRf:R=([],(a:Int)):=by rw [hO2]; unfold nowN; rw [h5,h6,h7]; rfl
      rw [hRf] at hs
      exact absurd hs (show (a:Int) ≠ -1 by omega)
     | false =>
     have h0:0<l.length:=by
      have:=beq_eq_false_iff_ne.1 h7
      omega
     have hw1:=hlw h0
     conv=>whnf
     rw [hw1]
     refine ⟨rfl,(show (0:Int)≤((l.length - 1:Nat):Int) by omega),(show ((l.length - 1:Nat):Int)<(l.length:Int) by omega),?_⟩
     conv=>whnf
     refine ⟨rfl,(by show l.length - 1<(l.map irow).length; omega),fun row hrow => ?_⟩
     obtain ⟨d,hd,rfl⟩:=int_get hrow
     replace hd:l[l.length - 1]? = some d:=hd
     have hgd:l.getD (l.length - 1) 0=d:=by rw [List.getD_eq_getElem?_getD,hd]; rfl
     clear hrow hd
     refine ⟨(show 0<1 by decide),fun t ht => ?_⟩
     cases ht
     conv=>whnf
     refine ⟨by kernel_rfl,fun _ => ?_⟩
     conv=>whnf
     cases hne:(d != n.thing) with
     | true =>
      have hRf:R=([],(a:Int)):=by rw [hO2]; unfold nowN; rw [h5,h6,h7,hgd,hne]; rfl
      rw [hRf] at hs
      exact absurd hs (show (a:Int) ≠ -1 by omega)
     | false =>
      conv=>whnf
      rw [hw1]
      refine ⟨(show (0:Int)≤((l.length - 1:Nat):Int) by omega),(show ((l.length - 1:Nat):Int)≤(l.length:Int) by omega),?_⟩
      conv=>whnf
      exact ⟨.inr (l,l.length - 1),[0,1,2,3,4,5],[],Sub.mk' rfl aut aut rfl rfl,rfl,Nat.sub_le ..,by unfold nowN; rw [h5,h6,h7,hgd,hne]; rfl⟩
    | false =>
    conv=>whnf
    cases h9:(n.kind == 9) with
    | true =>
     conv=>whnf
     cases h7:decide ((l.length:Int) > 0) with
     | true =>
      have hRf:R=([],(a:Int)):=by rw [hO2]; unfold nowN; rw [h5,h6,h9,h7]; rfl
      rw [hRf] at hs
      exact absurd hs (show (a:Int) ≠ -1 by omega)
     | false =>
      conv=>whnf
      exact ⟨.inr (l,l.length),[0,1,2,3,4,5],[],Sub.mk' rfl aut aut rfl rfl,rfl,Nat.le_refl _,by unfold nowN; rw [h5,h6,h9,h7,List.take_length]; rfl⟩
    | false =>
     conv=>whnf
     exact ⟨.inr (l,l.length),[0,1,2,3,4,5],[],Sub.mk' rfl aut aut rfl rfl,rfl,Nat.le_refl _,by unfold nowN; rw [h5,h6,h9,List.take_length]; rfl⟩
  rintro (now | ⟨l,m⟩) hx -
  ·have hnow:nowN n (lkAt lk a)=some now:=hx
   clear hx hla hat hlk ho
   have hO3:R=contH (OH (N - k)) (k+1) (inH now (fol g a) (lk,todo)):=by rw [hO2,hnow]
   have hnl:now.length≤k+1:=Nat.le_trans (nowN_len hnow) (by omega)
   have hI2:=hI.mono (Nat.le_succ k)
   have hcO:=k_cloneW now (by omega)
   have hnr:(now.map irow).length=now.length:=List.length_map ..
   obtain ⟨F,hF⟩ : ∃ F,fol g a=F:=⟨_,rfl⟩
   rw [hF] at hf hflt hfl hO3
   have hFl:=natsT_len F
   clear hO2 hnow hl0 hI
   conv=>whnf
   refine acall.pure _ (hf) rfl rfl fun _ => ?_
   conv=>whnf
   refine LoopL.by (fun x:HSt × Nat=>⟨[(1,.ptr 0 0),(4,.sl 1 N),(5,.mp 2),(6,.sl 3 x.1.2.length),(7,.tr (ti (k:Nat))),(10,.tr (intsT now)),(78,.tr (natsT F)),(79,.tr (ti F.length)),(80,.tr (ti (x.2:Nat)))],[(0,grBl g),(1,oB x.1.1 []),(2,inB x.1.2),(3,natsB x.1.2)],10⟩) (fun x=>HInv N (k+1) x.1.1 x.1.2∧k<x.1.2.length∧x.2≤F.length∧R=contH (OH (N - k)) (k+1) (inH now (F.drop x.2) x.1)) (fun x=>F.length - x.2) ((lk,todo),0) [0,1,2,3] []
    (Sub.mk' rfl ⟨⟨rfl,rfl⟩,⟨rfl,rfl⟩,rfl,⟨rfl,rfl⟩,.inl rfl,.inl rfl,.inl rfl,.inl (by rw [← hFl]),.inl rfl,trivial⟩ aut rfl rfl) ⟨hI2,hkt,Nat.zero_le _,hO3⟩ ?_
   clear hO3 hI2
   rintro ⟨⟨lk,todo⟩,j⟩ ⟨hI,hk,hj,hR⟩ -
   simp only at hI hk hj hR
   have hlkl:=hI.len
   have htl:=hI.todo_len
   conv=>whnf
   refine csplit (fun hjt => ?_) (fun hjt => ?_)
   ·have hjL:j<F.length:=by have:decide ((j:Int)<(F.length:Int))=true:=hjt; have:=of_decide_eq_true this; omega
    clear hjt
    obtain ⟨y,hy⟩ : ∃ y,F[j]? = some y:=⟨_,List.getElem?_eq_getElem hjL⟩
    have hyN:=hflt y (List.mem_of_getElem? hy)
    rw [drop_cons hy] at hR
    obtain ⟨o,ho⟩ : ∃ o,lk[y]? = some o:=⟨_,List.getElem?_eq_getElem (by omega)⟩
    have hlk:lkAt lk y=o.getD []:=by unfold lkAt; rw [List.getD_eq_getElem?_getD,ho]; rfl
    have hR2:R=contH (OH (N - k)) (k+1) (bif todo.contains y then (bif eqI2 (lkAt lk y) now then inH now (F.drop (j+1)) (lk,todo) else ((lk,todo),some y)) else inH now (F.drop (j+1)) (lk.set y (some now),todo++[y])):=hR
    clear hR
    conv=>whnf
    refine ⟨rfl,(show (0:Int)≤j by omega),(show (j:Int)<((((F.map fun (x:Nat)=>(x:Int))).map irow).length:Int) by omega),fun row hrow => ?_⟩
    obtain ⟨d,hd,rfl⟩:=natsT_get hrow
    obtain rfl:=Option.some.inj (hy.symm.trans hd)
    clear hrow hd
    have hlk2:(mget (mapE ((lk,todo),j).1.2) (.ki .i64 (y:Int))).getD (Tr.v Z.b.val)=tb (todo.contains y):=by
     show (mget (mapE todo) (.ki .i64 (y:Int))).getD (Tr.v Z.b.val)=tb (todo.contains y)
     rw [mget_mapE]
     cases todo.contains y <;> rfl
    conv=>whnf
    rw [hlk2]
    clear hlk2
    cases hcon:todo.contains y with
    | false =>
     have hyT:y ∉ todo:=fun w=>by rw [List.contains_iff_mem.2 w] at hcon; cases hcon
     rw [hcon,cond_false] at hR2
     have hI3:=hI.put hyN hyT hnl
     have hmS:mput (mapE todo) (.ki .i64 (y:Int)) (tb true)=mapE (todo++[y]):=by rw [mput_mapE,hcon]; rfl
     have hda:(todo.map nrow).take todo.length++[[ti (y:Nat)]]=(todo++[y]).map nrow:=by rw [List.take_of_length_le (by rw [List.length_map]; exact Nat.le_refl _),List.map_append]; rfl
     skip
     conv=>whnf
     refine acall.new [] [] _ _ _ _ (hcO) rfl rfl rfl rfl aut trivial rfl rfl ?_
     conv=>whnf
     intro _
     conv=>whnf
     refine ⟨rfl,(show (0:Int)≤y by omega),(show (y:Int)<(N:Int) by omega),?_⟩
     conv=>whnf
     refine ⟨rfl,rfl,rfl,(by show y<(lk.map hrow).length; rw [List.length_map]; omega),trivial,fun row hrw => ?_⟩
     obtain ⟨d,hd,rfl⟩:=hrow_get hrw
     obtain rfl:=Option.some.inj (ho.symm.trans hd)
     clear hrw hd
     have hrl:(hrow o).length=1:=by cases o <;> rfl
     refine ⟨(by show 0+1≤(hrow o).length; omega),?_⟩
     conv=>whnf
     refine ⟨rfl,rfl,rfl,(by rw [List.length_map]; exact Nat.le_refl _),(show (todo.length+1)*8≤150000000000000 by omega),fun q hq => ?_,?_⟩
     ·cases hq with
      | head=>exact Nat.ne_of_beq_eq_false rfl
      | tail _ h=>cases h
     conv=>whnf
     refine ⟨((lk.set y (some now),todo++[y]),j+1),[0,1,2,26+1+(0+1+1+1)],[],Sub.pk [1] ?_,⟨hI3,by show k<(todo++[y]).length; rw [List.length_append]; omega,hjL,hR2⟩,by show F.length - (j+1)<F.length - j; omega⟩
     conv=>whnf
     refine ⟨rfl,rfl,(by show _≤(now.map irow).length; rw [List.length_map]; exact Nat.le_refl _),?_⟩
     refine Sub0.mk' rfl ⟨⟨rfl,rfl⟩,⟨rfl,rfl⟩,rfl,⟨rfl,by rw [List.length_append]; rfl⟩,.inl rfl,.inl rfl,.inl rfl,.inl rfl,.inl (ti_succ hjL (by omega)),trivial⟩ ⟨aut,⟨rfl,rfl,rfl,rfl,.inl (setC_hput ho _)⟩,⟨rfl,hmS⟩,⟨rfl,rfl,rfl,hda⟩,trivial⟩ rfl rfl
    | true =>
     rw [hcon,cond_true,hlk] at hR2
     conv=>whnf
     refine ⟨rfl,(show (0:Int)≤y by omega),(show (y:Int)<(N:Int) by omega),?_⟩
     conv=>whnf
     refine ⟨rfl,(by show y<(lk.map hrow).length; rw [List.length_map]; omega),fun row hrw => ?_⟩
     obtain ⟨d,hd,rfl⟩:=hrow_get hrw
     obtain rfl:=Option.some.inj (ho.symm.trans hd)
     clear hrw hd
     cases o with
     | none =>
      refine ⟨(show 0<1 by decide),fun t ht => ?_⟩
      cases ht
      conv=>whnf
      refine acall.gen [] [] [.tr (intsT []),.tr (intsT now)] [] _ [] (k_equal [] now) rfl rfl rfl rfl ⟨.inr ⟨rfl,1,8,rfl⟩,.inl rfl,trivial⟩ trivial rfl rfl fun _ => ?_
      conv=>whnf
      cases he:eqI2 [] now with
      | false =>
       have hRf:R=([],(y:Int)):=by rw [hR2]; show contH _ _ (bif eqI2 [] now then _ else _)=_; rw [he]; rfl
       rw [hRf] at hs
       exact absurd hs (show (y:Int) ≠ -1 by omega)
      | true =>
       have hR3:R=contH (OH (N - k)) (k+1) (inH now (F.drop (j+1)) (lk,todo)):=by rw [hR2]; show contH _ _ (bif eqI2 [] now then _ else _)=_; rw [he]; rfl
       conv=>whnf
       exact ⟨((lk,todo),j+1),[0,1,2,3],[],Sub.mk' rfl ⟨⟨rfl,rfl⟩,⟨rfl,rfl⟩,rfl,⟨rfl,rfl⟩,.inl rfl,.inl rfl,.inl rfl,.inl rfl,.inl (ti_succ hjL (by omega)),trivial⟩ aut rfl rfl,⟨hI,hk,hjL,hR3⟩,by show F.length - (j+1)<F.length - j; omega⟩
     | some l' =>
      refine ⟨(show 0<1 by decide),fun t ht => ?_⟩
      cases ht
      conv=>whnf
      refine ⟨(show 0<1 by decide),?_⟩
      conv=>whnf
      refine acall.gen [] [17+1+(0+1+1+1)] [.tr (intsT l'),.tr (intsT now)] [] _ [] (k_equal l' now) rfl rfl rfl rfl ⟨⟨rfl,Nat.le_refl _,(lstI_all l')⟩,.inl rfl,trivial⟩ trivial rfl rfl fun _ => ?_
      conv=>whnf
      cases he:eqI2 l' now with
      | false =>
       have hRf:R=([],(y:Int)):=by rw [hR2]; show contH _ _ (bif eqI2 l' now then _ else _)=_; rw [he]; rfl
       rw [hRf] at hs
       exact absurd hs (show (y:Int) ≠ -1 by omega)
      | true =>
       have hR3:R=contH (OH (N - k)) (k+1) (inH now (F.drop (j+1)) (lk,todo)):=by rw [hR2]; show contH _ _ (bif eqI2 l' now then _ else _)=_; rw [he]; rfl
       conv=>whnf
       refine ⟨((lk,todo),j+1),[0,1,2,3],[],Sub.pk [1] ?_,⟨hI,hk,hjL,hR3⟩,by show F.length - (j+1)<F.length - j; omega⟩
       conv=>whnf
       refine ⟨rfl,rfl,(Nat.le_of_eq rfl),?_⟩
       refine Sub0.mk' rfl ⟨⟨rfl,rfl⟩,⟨rfl,rfl⟩,rfl,⟨rfl,rfl⟩,.inl rfl,.inl rfl,.inl rfl,.inl rfl,.inl (ti_succ hjL (by omega)),trivial⟩ ⟨aut,⟨rfl,rfl,rfl,rfl,.inl (setC_hold ho)⟩,⟨rfl,rfl⟩,aut,trivial⟩ rfl rfl
   ·have hjt:F.length≤j:=by have:decide ((j:Int)<(F.length:Int))=false:=hjt; have:=of_decide_eq_false this; omega
    rw [List.drop_of_length_le hjt] at hR
    have hR2:R=OH (N - k) (lk,todo) (k+1):=hR
    conv=>whnf
    refine ⟨fun _ => ?_,fun h=>absurd rfl h⟩
    conv=>whnf
    exact ⟨((lk,todo),k+1),[0,1,2,3],[],Sub.mk' rfl ⟨⟨rfl,rfl⟩,⟨rfl,rfl⟩,rfl,⟨rfl,rfl⟩,.inl (ti_succ hk (by omega)),trivial⟩ aut rfl rfl,⟨hI,hk,by rw [hR2,show N+1 - (k+1)=N - k by omega]⟩,by show N+1 - (k+1)<N+1 - k; omega⟩
  ·obtain ⟨rfl,hml,hnow⟩:o=some l∧m≤l.length∧nowN n l=some (l.take m):=hx
   have hlk:lkAt lk a=l:=hlk
   rw [hlk] at hO2 hl0
   clear hlk ho
   obtain ⟨now,hnw⟩ : ∃ now,l.take m=now:=⟨_,rfl⟩
   have hnt:intsT now=Tr.lst 1 8 ((l.map irow).take m):=by rw [← hnw,← List.map_take]
   rw [hnw] at hnow
   have hll:(l.map irow).length=l.length:=List.length_map ..
   have hlt0:intsT l=Tr.lst 1 8 ((l.map irow).take l.length):=by rw [List.take_of_length_le (Nat.le_of_eq hll)]
   have hO3:R=contH (OH (N - k)) (k+1) (inH now (fol g a) (lk,todo)):=by rw [hO2,hnow]
   have hnl:now.length≤k+1:=Nat.le_trans (nowN_len hnow) (by omega)
   have hI2:=hI.mono (Nat.le_succ k)
   have hcO:=k_cloneW now (by omega)
   have hnr:(now.map irow).length=now.length:=List.length_map ..
   obtain ⟨F,hF⟩ : ∃ F,fol g a=F:=⟨_,rfl⟩
   rw [hF] at hf hflt hfl hO3
   have hFl:=natsT_len F
   clear hO2 hnow hl0 hI hnw
   conv=>whnf
   refine acall.pure _ (hf) rfl rfl fun _ => ?_
   conv=>whnf
   refine LoopL.by (fun x:HSt × Nat=>⟨[(1,.ptr 0 0),(4,.sl 1 N),(5,.mp 2),(6,.sl 3 x.1.2.length),(7,.tr (ti (k:Nat))),(10,.sl 4 m),(78,.tr (natsT F)),(79,.tr (ti F.length)),(80,.tr (ti (x.2:Nat)))],[(0,grBl g),(1,oB x.1.1 [((a,0),(4,l.length))]),(2,inB x.1.2),(3,natsB x.1.2),(4,.own 1 8 (l.map irow) [])],10⟩) (fun x=>HInv N (k+1) x.1.1 x.1.2∧k<x.1.2.length∧x.2≤F.length∧R=contH (OH (N - k)) (k+1) (inH now (F.drop x.2) x.1)∧x.1.1[a]? = some (some l)∧a ∈ x.1.2) (fun x=>F.length - x.2) ((lk,todo),0) [0,1,2,3,5] []
    (Sub.mk' rfl ⟨⟨rfl,rfl⟩,⟨rfl,rfl⟩,rfl,⟨rfl,rfl⟩,.inl rfl,⟨rfl,rfl⟩,.inl rfl,.inl (by rw [← hFl]),.inl rfl,trivial⟩ aut rfl rfl) ⟨hI2,hkt,Nat.zero_le _,hO3,hla,hat⟩ ?_
   clear hO3 hI2 hla hat
   rintro ⟨⟨lk,todo⟩,j⟩ ⟨hI,hk,hj,hR,hla,hat⟩ -
   simp only at hI hk hj hR hla hat
   have hlkl:=hI.len
   have htl:=hI.todo_len
   conv=>whnf
   refine csplit (fun hjt => ?_) (fun hjt => ?_)
   ·have hjL:j<F.length:=by have:decide ((j:Int)<(F.length:Int))=true:=hjt; have:=of_decide_eq_true this; omega
    clear hjt
    obtain ⟨y,hy⟩ : ∃ y,F[j]? = some y:=⟨_,List.getElem?_eq_getElem hjL⟩
    have hyN:=hflt y (List.mem_of_getElem? hy)
    rw [drop_cons hy] at hR
    obtain ⟨o,ho⟩ : ∃ o,lk[y]? = some o:=⟨_,List.getElem?_eq_getElem (by omega)⟩
    have hlk:lkAt lk y=o.getD []:=by unfold lkAt; rw [List.getD_eq_getElem?_getD,ho]; rfl
    have hR2:R=contH (OH (N - k)) (k+1) (bif todo.contains y then (bif eqI2 (lkAt lk y) now then inH now (F.drop (j+1)) (lk,todo) else ((lk,todo),some y)) else inH now (F.drop (j+1)) (lk.set y (some now),todo++[y])):=hR
    clear hR
    conv=>whnf
    refine ⟨rfl,(show (0:Int)≤j by omega),(show (j:Int)<((((F.map fun (x:Nat)=>(x:Int))).map irow).length:Int) by omega),fun row hrow => ?_⟩
    obtain ⟨d,hd,rfl⟩:=natsT_get hrow
    obtain rfl:=Option.some.inj (hy.symm.trans hd)
    clear hrow hd
    have hlk2:(mget (mapE ((lk,todo),j).1.2) (.ki .i64 (y:Int))).getD (Tr.v Z.b.val)=tb (todo.contains y):=by
     show (mget (mapE todo) (.ki .i64 (y:Int))).getD (Tr.v Z.b.val)=tb (todo.contains y)
     rw [mget_mapE]
     cases todo.contains y <;> rfl
    conv=>whnf
    rw [hlk2]
    clear hlk2
    cases hcon:todo.contains y with
    | false =>
     have hyT:y ∉ todo:=fun w=>by rw [List.contains_iff_mem.2 w] at hcon; cases hcon
     rw [hcon,cond_false] at hR2
     have hI3:=hI.put hyN hyT hnl
     have hmS:mput (mapE todo) (.ki .i64 (y:Int)) (tb true)=mapE (todo++[y]):=by rw [mput_mapE,hcon]; rfl
     have hda:(todo.map nrow).take todo.length++[[ti (y:Nat)]]=(todo++[y]).map nrow:=by rw [List.take_of_length_le (by rw [List.length_map]; exact Nat.le_refl _),List.map_append]; rfl
     have hay:a≠y:=fun e=>hyT (e ▸ hat)
     conv=>whnf
     refine acall.new [] [4] _ _ _ _ (hcO) rfl rfl rfl rfl ⟨⟨rfl,(by show m≤(l.map irow).length; rw [List.length_map]; exact hml),hnt⟩,trivial⟩ trivial rfl rfl ?_
     conv=>whnf
     intro _
     conv=>whnf
     refine ⟨rfl,(show (0:Int)≤y by omega),(show (y:Int)<(N:Int) by omega),?_⟩
     conv=>whnf
     refine .inr ⟨rfl,rfl,rfl,(by show y<(lk.map hrow).length; rw [List.length_map]; omega),⟨fun _=>hay,trivial⟩,fun row hrw => ?_⟩
     obtain ⟨d,hd,rfl⟩:=hrow_get hrw
     obtain rfl:=Option.some.inj (ho.symm.trans hd)
     clear hrw hd
     have hrl:(hrow o).length=1:=by cases o <;> rfl
     refine ⟨(by show 0+1≤(hrow o).length; omega),?_⟩
     conv=>whnf
     refine ⟨rfl,rfl,rfl,(by rw [List.length_map]; exact Nat.le_refl _),(show (todo.length+1)*8≤150000000000000 by omega),fun q hq => ?_,?_⟩
     ·cases hq with
      | head=>exact Nat.ne_of_beq_eq_false rfl
      | tail _ h=>cases h
     conv=>whnf
     refine ⟨((lk.set y (some now),todo++[y]),j+1),[0,1,2,26+1+(0+1+1+1),4],[],Sub.pk [1] ?_,⟨hI3,by show k<(todo++[y]).length; rw [List.length_append]; omega,hjL,hR2,(by show (lk.set y (some now))[a]? = _; rw [List.getElem?_set_ne (fun e=>hay e.symm)]; exact hla),List.mem_append_left _ hat⟩,by show F.length - (j+1)<F.length - j; omega⟩
     conv=>whnf
     refine ⟨rfl,(by show (bif Nat.beq 0 0 && Nat.beq a y then some (4,l.length) else none)=none; rw [beq_ne hay]; rfl),(by show _≤(now.map irow).length; rw [List.length_map]; exact Nat.le_refl _),?_⟩
     refine Sub0.mk' rfl ⟨⟨rfl,rfl⟩,⟨rfl,rfl⟩,rfl,⟨rfl,by rw [List.length_append]; rfl⟩,.inl rfl,⟨rfl,rfl⟩,.inl rfl,.inl rfl,.inl (ti_succ hjL (by omega)),trivial⟩ ⟨aut,⟨rfl,rfl,rfl,rfl,.inl (setC_hput ho _)⟩,⟨rfl,hmS⟩,⟨rfl,rfl,rfl,hda⟩,aut,trivial⟩ rfl rfl
    | true =>
     rw [hcon,cond_true,hlk] at hR2
     conv=>whnf
     refine ⟨rfl,(show (0:Int)≤y by omega),(show (y:Int)<(N:Int) by omega),?_⟩
     conv=>whnf
     refine ⟨rfl,(by show y<(lk.map hrow).length; rw [List.length_map]; omega),fun row hrw => ?_⟩
     obtain ⟨d,hd,rfl⟩:=hrow_get hrw
     obtain rfl:=Option.some.inj (ho.symm.trans hd)
     clear hrw hd
     by_cases hay:a=y
     ·subst hay
      obtain rfl:=Option.some.inj (ho.symm.trans hla)
      refine ⟨(show 0<1 by decide),fun t ht => ?_⟩
      cases ht
      rw [show lnk [((a,0),(4,l.length))] (a:Int).toNat 0=some (4,l.length) from lnkh_at]
      conv=>whnf
      refine acall.gen [] [4] [.tr (intsT l),.tr (intsT now)] [] _ [] (k_equal l now) rfl rfl rfl rfl ⟨⟨rfl,(by show l.length≤(l.map irow).length; rw [List.length_map]; exact Nat.le_refl _),hlt0⟩,⟨rfl,(by show m≤(l.map irow).length; rw [List.length_map]; exact hml),hnt⟩,trivial⟩ trivial rfl rfl fun _ => ?_
      conv=>whnf
      cases he:eqI2 l now with
      | false =>
       have hRf:R=([],(a:Int)):=by rw [hR2]; show contH _ _ (bif eqI2 l now then _ else _)=_; rw [he]; rfl
       rw [hRf] at hs
       exact absurd hs (show (a:Int) ≠ -1 by omega)
      | true =>
       have hR3:R=contH (OH (N - k)) (k+1) (inH now (F.drop (j+1)) (lk,todo)):=by rw [hR2]; show contH _ _ (bif eqI2 l now then _ else _)=_; rw [he]; rfl
       conv=>whnf
       exact ⟨((lk,todo),j+1),[0,1,2,3,4],[],Sub.mk' rfl ⟨⟨rfl,rfl⟩,⟨rfl,rfl⟩,rfl,⟨rfl,rfl⟩,.inl rfl,⟨rfl,rfl⟩,.inl rfl,.inl rfl,.inl (ti_succ hjL (by omega)),trivial⟩ aut rfl rfl,⟨hI,hk,hjL,hR3,hla,hat⟩,by show F.length - (j+1)<F.length - j; omega⟩
     ·cases o with
     | none =>
      refine ⟨(show 0<1 by decide),fun t ht => ?_⟩
      cases ht
      rw [show lnk [((a,0),(4,l.length))] (y:Int).toNat 0=none from lnkh_off hay]
      conv=>whnf
      refine acall.gen [] [4] [.tr (intsT []),.tr (intsT now)] [] _ [] (k_equal [] now) rfl rfl rfl rfl ⟨.inr ⟨rfl,1,8,rfl⟩,⟨rfl,(by show m≤(l.map irow).length; rw [List.length_map]; exact hml),hnt⟩,trivial⟩ trivial rfl rfl fun _ => ?_
      conv=>whnf
      cases he:eqI2 [] now with
      | false =>
       have hRf:R=([],(y:Int)):=by rw [hR2]; show contH _ _ (bif eqI2 [] now then _ else _)=_; rw [he]; rfl
       rw [hRf] at hs
       exact absurd hs (show (y:Int) ≠ -1 by omega)
      | true =>
       have hR3:R=contH (OH (N - k)) (k+1) (inH now (F.drop (j+1)) (lk,todo)):=by rw [hR2]; show contH _ _ (bif eqI2 [] now then _ else _)=_; rw [he]; rfl
       conv=>whnf
       exact ⟨((lk,todo),j+1),[0,1,2,3,4],[],Sub.mk' rfl ⟨⟨rfl,rfl⟩,⟨rfl,rfl⟩,rfl,⟨rfl,rfl⟩,.inl rfl,⟨rfl,rfl⟩,.inl rfl,.inl rfl,.inl (ti_succ hjL (by omega)),trivial⟩ aut rfl rfl,⟨hI,hk,hjL,hR3,hla,hat⟩,by show F.length - (j+1)<F.length - j; omega⟩
     | some l' =>
      refine ⟨(show 0<1 by decide),fun t ht => ?_⟩
      cases ht
      rw [show lnk [((a,0),(4,l.length))] (y:Int).toNat 0=none from lnkh_off hay]
      conv=>whnf
      refine ⟨(show 0<1 by decide),?_⟩
      conv=>whnf
      refine acall.gen [] [17+1+(0+1+1+1),4] [.tr (intsT l'),.tr (intsT now)] [] _ [] (k_equal l' now) rfl rfl rfl rfl ⟨⟨rfl,Nat.le_refl _,(lstI_all l')⟩,⟨rfl,(by show m≤(l.map irow).length; rw [List.length_map]; exact hml),hnt⟩,trivial⟩ trivial rfl rfl fun _ => ?_
      conv=>whnf
      cases he:eqI2 l' now with
      | false =>
       have hRf:R=([],(y:Int)):=by rw [hR2]; show contH _ _ (bif eqI2 l' now then _ else _)=_; rw [he]; rfl
       rw [hRf] at hs
       exact absurd hs (show (y:Int) ≠ -1 by omega)
      | true =>
       have hR3:R=contH (OH (N - k)) (k+1) (inH now (F.drop (j+1)) (lk,todo)):=by rw [hR2]; show contH _ _ (bif eqI2 l' now then _ else _)=_; rw [he]; rfl
       conv=>whnf
       refine ⟨((lk,todo),j+1),[0,1,2,3,4],[],Sub.pk [1] ?_,⟨hI,hk,hjL,hR3,hla,hat⟩,by show F.length - (j+1)<F.length - j; omega⟩
       conv=>whnf
       refine ⟨rfl,(by show (bif Nat.beq 0 0 && Nat.beq a y then some (4,l.length) else none)=none; rw [beq_ne hay]; rfl),(Nat.le_of_eq rfl),?_⟩
       refine Sub0.mk' rfl ⟨⟨rfl,rfl⟩,⟨rfl,rfl⟩,rfl,⟨rfl,rfl⟩,.inl rfl,⟨rfl,rfl⟩,.inl rfl,.inl rfl,.inl (ti_succ hjL (by omega)),trivial⟩ ⟨aut,⟨rfl,rfl,rfl,rfl,.inl (setC_hold ho)⟩,⟨rfl,rfl⟩,aut,aut,trivial⟩ rfl rfl
   ·have hjt:F.length≤j:=by have:decide ((j:Int)<(F.length:Int))=false:=hjt; have:=of_decide_eq_false this; omega
    rw [List.drop_of_length_le hjt] at hR
    have hR2:R=OH (N - k) (lk,todo) (k+1):=hR
    conv=>whnf
    refine ⟨fun _ => ?_,fun h=>absurd rfl h⟩
    conv=>whnf
    refine ⟨((lk,todo),k+1),[0,1,2,3],[],Sub.pk [1] ?_,⟨hI,hk,by rw [hR2,show N+1 - (k+1)=N - k by omega]⟩,by show N+1 - (k+1)<N+1 - k; omega⟩
    conv=>whnf
    refine ⟨rfl,rfl,(by show l.length≤(l.map irow).length; rw [List.length_map]; exact Nat.le_refl _),?_⟩
    refine Sub0.mk' rfl ⟨⟨rfl,rfl⟩,⟨rfl,rfl⟩,rfl,⟨rfl,rfl⟩,.inl (ti_succ hk (by omega)),trivial⟩ ⟨aut,⟨rfl,rfl,rfl,rfl,.inl (setC_hol2 hla)⟩,⟨rfl,rfl⟩,aut,trivial⟩ rfl rfl
 ·have hkt:todo.length≤k:=by have:decide ((k:Int)<(todo.length:Int))=false:=hkt; have:=of_decide_eq_false this; omega
  have hRe:R=(lk,-1):=by
   rw [hO1]
   show (match todo[k]? with | none=>_ | some a=>_)=_
   rw [List.getElem?_eq_none hkt]
  subst hRe
  conv=>whnf
  refine ⟨fun _ => ?_,fun h=>absurd rfl h⟩
  conv=>whnf
  exact ⟨[1],rfl,rfl,aut,aut,trivial⟩
end Go.Proofs.YthboippafkcoiaaGreatDoor.am
namespace Go.Proofs.YthboippafkcoiaaGreatDoor.ws
open Go Go.RowKit Go.Lib
theorem maskN (a:Nat) (ha:a<18446744073709551616):bits .and .u64 (a:Int) 4294967295=((a % 4294967296:Nat):Int):=by
 have h:=bits_and_u64_nat a 4294967295 ha (by omega)
 have e:a &&& 4294967295=a % 4294967296:=Nat.and_two_pow_sub_one_eq_mod a 32
 rw [e] at h
 exact h
theorem divN (a:Nat):(a:Int) / 4294967296=((a / 4294967296:Nat):Int):=by omega
theorem mulN (a b:Nat):(a:Int)*(b:Int)=((a*b:Nat):Int):=(Int.natCast_mul a b).symm
theorem addN (a b:Nat):(a:Int)+(b:Int)=((a+b:Nat):Int):=(Int.natCast_add a b).symm
theorem wrapN (a:Nat) (ha:a<18446744073709551616):IntKind.u64.wrap (a:Int)=(a:Int):=by rw [IntKind.wrap_u64]; omega
theorem wrapM (a:Nat):IntKind.u64.wrap (a:Int)=((a % 18446744073709551616:Nat):Int):=by rw [IntKind.wrap_u64]; omega
theorem num_u64 {a b:Int} (h:a=b):Value.int .u64 a=Value.int .u64 b:=by rw [h]
theorem ret_int3 {k l m:IntKind} {a b c a' b' c':Int} (h:a=a') (h2:b=b') (h3:c=c'):Ending.returned (.tuple #[.int k a,.int l b,.int m c]) = .returned (.tuple #[.int k a',.int l b',.int m c']):=by rw [h,h2,h3]
end Go.Proofs.YthboippafkcoiaaGreatDoor.ws
namespace Go.Proofs.YthboippafkcoiaaGreatDoor.ws
open Go Go.RowKit Go.Lib
end Go.Proofs.YthboippafkcoiaaGreatDoor.ws
namespace Go.Proofs.YthboippafkcoiaaGreatDoor.ws
open Go Go.RowKit Go.Lib
end Go.Proofs.YthboippafkcoiaaGreatDoor.ws
namespace Go.Proofs.YthboippafkcoiaaGreatDoor.ws
open Go Go.RowKit Go.Lib
def prRow (l:List UInt8):Array Value:=(List.replicate (20 - l.length) (Value.int .u8 0)++l.map fun c=>Value.int .u8 c.toNat).toArray
theorem prRow_eq (l:List UInt8):(prRow l).toList=List.replicate (20 - l.length) (Value.int .u8 0)++l.map fun c=>Value.int .u8 c.toNat:=rfl
theorem prRow_get (l:List UInt8) (p:Nat) (hp:1≤p) (hl:p+l.length=20):(prRow l)[p - 1]? = some (.int .u8 0):=by
 unfold prRow
 have h:20 - l.length=(p - 1)+1:=by omega
 rw [List.getElem?_toArray,List.getElem?_append_left (by simp; omega),h,List.getElem?_replicate,if_pos (by omega)]
theorem prRow_set (l:List UInt8) (c:UInt8) (p:Nat) (hp:1≤p) (hl:p+l.length=20):(prRow l).setIfInBounds (p - 1) (.int .u8 c.toNat)=prRow (c::l):=by
 unfold prRow
 have h:20 - l.length=(p - 1)+1:=by omega
 have h':20 - (c::l).length=p - 1:=by simp; omega
 rw [h,h',List.setIfInBounds_toArray,List.replicate_succ',List.append_assoc]
 congr 1
 rw [List.set_append_right _ _ (by simp)]
 simp
theorem prRow_at (l:List UInt8) (p i:Nat) (hl:p+l.length=20) (hi:i<l.length):(prRow l)[p+i]? = some (.int .u8 (l[i]'hi).toNat):=by
 unfold prRow
 rw [List.getElem?_toArray,List.getElem?_append_right (by simp; omega)]
 simp [show p+i - (20 - l.length)=i by omega,hi]
theorem slice_end (B p:Nat) (hp:1≤p) (hp2:p≤20) (W:World) :
  (Instr.sliceAt 224 (.pointer (some ⟨B,0,none⟩)) (some (.int .i64 ((p:Int) - 1))) none none).run Tryz.prog W = .ok (.slice (some ⟨B,p - 1,none⟩) (21 - p) (21 - p)) W:=by
 have hal : Tryz.prog.arrayLen 224 = 20:=by kernel_rfl
 have hu : Tryz.prog.underlying 224 = some (.array (Tryz.prog.arrayLen 224) (Tryz.prog.elem 224)):=by kernel_rfl
 have hz : ∀ W,(sizeOf (Tryz.prog.elem 224)).run Tryz.prog W = .ok 1 W:=fun W=>by kernel_rfl
 rw [run_sliceAt_array_l W _ _ hu .i64 _ (by omega) (by rw [hal]; omega),hz]
 simp only [Result.andThen,slicedAt,hal]
 have e:((p:Int) - 1).toNat=p - 1:=by omega
 rw [e,if_neg (by omega)]
 have e2:(⟨B,0,none⟩:Addr).add ((p - 1)*1)=⟨B,p - 1,none⟩:=by
  unfold Addr.add
  by_cases h:(p - 1)*1=0
  ·rw [if_pos h,show p - 1=0 by omega]
  ·rw [if_neg h]; simp
 rw [e2,show 20 - (p - 1)=21 - p by omega]
theorem conv_end (l:List UInt8) (p n:Nat) (w:World) (hl:p+l.length=20) (hn:l.length=n) :
  (convert 126 9 (.slice (some ⟨w.heap.size,p,none⟩) n n)).run Tryz.prog (w.alloc (.cells (prRow l) 224)) = .ok (.string ⟨l.toArray⟩) (w.alloc (.cells (prRow l) 224)):=by
 subst hn
 refine run_convert_bytes_back _ _ _ 5 _ _ l Tryz.underlying126 Tryz.underlying5 Tryz.underlying9 fun j hj => ?_
 have e:(⟨w.heap.size,p,none⟩:Addr).add j=⟨w.heap.size,p+j,none⟩:=by
  unfold Addr.add; split <;> simp_all
 rw [e,World.cell?_alloc_at _ _ _ _ rfl,prRow_at l p j hl hj]
theorem dig_toNat (n:Nat):(dch (n % 10)).toNat=48+n % 10:=dch_toNat (by omega)
theorem pow_bound {n j:Nat} (h:n*10 ^ j≤9223372036854775808) (hn:0<n):j≤18:=by
 apply Decidable.byContradiction
 intro hj
 have h1:10 ^ 19≤10 ^ j:=Nat.pow_le_pow_right (by decide) (by omega)
 have h2:1*10 ^ j≤n*10 ^ j:=Nat.mul_le_mul_right _ hn
 have h3:(10:Nat) ^ 19=10000000000000000000:=by decide
 omega
theorem pow_step {n j N:Nat} (h:n*10 ^ j≤N):n / 10*10 ^ (j+1)≤N:=by
 have h1:n / 10*10≤n:=Nat.div_mul_le_self n 10
 have h2:=Nat.mul_le_mul_right (10 ^ j) h1
 have h3:n / 10*10 ^ (j+1)=n / 10*10*10 ^ j:=by rw [Nat.pow_succ,Nat.mul_assoc,Nat.mul_comm 10]
 omega
def rowOf (p:Nat) (d:Int) (l:List UInt8):Array Value:=(prRow l).setIfInBounds (p - 1) (.int .u8 d)
theorem rowOf_eq (p m:Nat) (l:List UInt8) (hp:1≤p) (hl:p+l.length=20):(prRow l).setIfInBounds (p - 1) (.int .u8 (48+(m:Int) % 10))=prRow (dch (m % 10)::l):=by
 rw [← prRow_set l _ p hp hl,dig_toNat]
 rfl
theorem minus_eq (p:Nat) (l:List UInt8) (hp:1≤p) (hl:p+l.length=20):(prRow l).setIfInBounds (p - 1) (.int .u8 45)=prRow (45::l):=prRow_set l 45 p hp hl
set_option maxRecDepth 100000 in
set_option maxHeartbeats 1000000 in
theorem print_pos (N:Nat) (w:World) (hN:N≤9223372036854775807) :
  Calls Tryz.prog 175 #[.int .i64 N] w fun e w'=>e = .returned (.string ⟨(prn N).toArray⟩)∧Below w.heap.size w w':=by
 have R:Hid (prn N=dig N):=by
  show prn N=dig N
  unfold prn; rw [if_neg (by omega)]; rfl
 go_enter Tryz.func175,Tryz.ntmps175
 go_wp2
 go_loopw [4,5] (fun a n wr => ∃ (l:List UInt8) (p m:Nat),p+l.length=20∧1≤p∧a = .int .i64 p∧n = .int .u64 m∧m≤N∧Hid ((0<l.length→0<m)∧m*10 ^ l.length≤N∧dig N=dig m++l)∧wr=w.alloc (.cells (prRow l) 224)) (fun a _ _=>(intOf a).toNat)
 case atStart=>exact ⟨[],20,N,rfl,by omega,rfl,rfl,by omega,⟨fun h=>absurd h (by decide),by simp,by simp⟩,rfl⟩
 case round =>
  obtain ⟨l,p,m,hp,hp1,rfl,rfl,hmN,H,rfl⟩:=hrel
  have hg:=prRow_get l p hp1 hp
  have hsl:=slice_end w.heap.size p hp1 (by omega)
  have hrow:=rowOf_eq p m l hp1 hp
  by_cases h9:m<10
  ·have hz:(((m:Int) / 10) == 0)=true:=by simp; omega
   have hcv:=conv_end (dch (m % 10)::l) (p - 1) (21 - p) w (by simp; omega) (by simp; omega)
   go_wp2
   go_ret
   refine ⟨ret_str ?_,(Below.refl _ _).alloc (Nat.le_refl _) _⟩
   rw [R.out,H.out.2.2,dig_small h9,show m % 10=m by omega]
   rfl
  ·have hz:(((m:Int) / 10) == 0)=false:=by simp; omega
   go_wp2
   have hl18:l.length+1≤18:=pow_bound (n:=m / 10) (by have:=pow_step H.out.2.1; omega) (by omega)
   go_roundw
   case rel =>
    exact ⟨dch (m % 10)::l,p - 1,m / 10,by simp; omega,by omega,by go_num,by go_num,by omega,⟨fun _=>by omega,pow_step H.out.2.1,by rw [H.out.2.2,dig_big h9,List.append_assoc]; rfl⟩,rfl⟩
   case measure=>simp [intOf]; omega
set_option maxRecDepth 100000 in
set_option maxHeartbeats 1000000 in
theorem print_neg (N:Nat) (w:World) (hN:N≤9223372036854775808) (h0:0<N) :
  Calls Tryz.prog 175 #[.int .i64 (-(N:Int))] w fun e w'=>e = .returned (.string ⟨(prn (-(N:Int))).toArray⟩)∧Below w.heap.size w w':=by
 have R:Hid (prn (-(N:Int))=45::dig N):=by
  show prn _=_
  unfold prn; rw [if_pos (by omega),Int.neg_neg]; rfl
 have hlt : -(N:Int)<0:=by omega
 have hw:IntKind.u64.wrap (-(IntKind.u64.wrap (-(N:Int))))=N:=by rw [IntKind.wrap_u64,IntKind.wrap_u64]; omega
 go_enter Tryz.func175,Tryz.ntmps175
 go_wp2
 go_loopw [4,5] (fun a n wr => ∃ (l:List UInt8) (p m:Nat),p+l.length=20∧2≤p∧a = .int .i64 p∧n = .int .u64 m∧m≤N∧Hid ((0<l.length→0<m)∧m*10 ^ l.length≤N∧dig N=dig m++l)∧wr=w.alloc (.cells (prRow l) 224)) (fun a _ _=>(intOf a).toNat)
 case atStart=>exact ⟨[],20,N,rfl,by omega,rfl,rfl,by omega,⟨fun h=>absurd h (by decide),by simp,by simp⟩,rfl⟩
 case round =>
  obtain ⟨l,p,m,hp,hp1,rfl,rfl,hmN,H,rfl⟩:=hrel
  have hg:=prRow_get l p (by omega) hp
  have hrow:=rowOf_eq p m l (by omega) hp
  by_cases h9:m<10
  ·have hz:(((m:Int) / 10) == 0)=true:=by simp; omega
   have hp':p - 1+(dch (m % 10)::l).length=20:=by simp; omega
   have hg':=prRow_get (dch (m % 10)::l) (p - 1) (by omega) hp'
   have hmin:=minus_eq (p - 1) (dch (m % 10)::l) (by omega) hp'
   have hsl:=slice_end w.heap.size (p - 1) (by omega) (by omega)
   have hcv:=conv_end (45::dch (m % 10)::l) (p - 1 - 1) (21 - (p - 1)) w (by simp; omega) (by simp; omega)
   have e:((p - 1:Nat):Int)=(p:Int) - 1:=by omega
   rw [e] at hsl
   clear e hp'
   go_wp2
   go_ret
   refine ⟨ret_str ?_,(Below.refl _ _).alloc (Nat.le_refl _) _⟩
   rw [R.out,H.out.2.2,dig_small h9,show m % 10=m by omega]
   rfl
  ·have hz:(((m:Int) / 10) == 0)=false:=by simp; omega
   go_wp2
   have hl18:l.length+1≤18:=pow_bound (n:=m / 10) (by have:=pow_step H.out.2.1; omega) (by omega)
   go_roundw
   case rel =>
    exact ⟨dch (m % 10)::l,p - 1,m / 10,by simp; omega,by omega,by go_num,by go_num,by omega,⟨fun _=>by omega,pow_step H.out.2.1,by rw [H.out.2.2,dig_big h9,List.append_assoc]; rfl⟩,rfl⟩
   case measure=>simp [intOf]; omega
theorem print_any (v:Int) (w:World) (h1 : -9223372036854775808≤v) (h2:v≤9223372036854775807) :
  Calls Tryz.prog 175 #[.int .i64 v] w fun e w'=>e = .returned (.string ⟨(prn v).toArray⟩)∧Below w.heap.size w w':=by
 by_cases h:0≤v
 ·obtain ⟨N,rfl⟩:=Int.eq_ofNat_of_zero_le h
  exact print_pos N w (by omega)
 ·obtain ⟨N,hN⟩:=Int.eq_ofNat_of_zero_le (a := -v) (by omega)
  obtain rfl:v = -(N:Int):=by omega
  exact print_neg N w (by omega) (by omega)
end Go.Proofs.YthboippafkcoiaaGreatDoor.ws
namespace Go.Proofs.YthboippafkcoiaaGreatDoor.ws
open Go Go.RowKit Go.Lib
end Go.Proofs.YthboippafkcoiaaGreatDoor.ws
namespace Go.Proofs.YthboippafkcoiaaGreatDoor.am
open Go Go.Proofs
set_option linter.all false
set_option maxRecDepth 100000 in
set_option maxHeartbeats 2000000 in
theorem k_aheadO (g:Gr) (hW:wholeB g=true):K 21 [g.av] [] (.ret (.sl 0 (aheadL (fol g) g.nodes.length).length)) [some (.own 1 24 ((aheadL (fol g) g.nodes.length).map lrow) [])]:=by
 have hw:=k_whole g
 rw [hW] at hw
 have hW:=whole_of hW
 have hput:=fun n j k a b=>aheadJ_put (fol:=fol g) (N:=g.nodes.length) (n:=n) (j:=j) (k:=k) a b (hW.nd n)
 have hat:=fun n j k hk=>aheadJ_at (fol:=fol g) (N:=g.nodes.length) (n:=n) (j:=j) (k:=k) hk
 have hnext:=fun n j hj=>aheadJ_next (fol:=fol g) (N:=g.nodes.length) (n:=n) (j:=j) hj
 have hz:aheadJ (fol g) g.nodes.length 0 0=List.replicate g.nodes.length []:=aheadJ_zero
 have hfin:aheadJ (fol g) g.nodes.length g.nodes.length 0=aheadL (fol g) g.nodes.length:=aheadJ_fin
 have hlen : ∀ n j,(aheadJ (fol g) g.nodes.length n j).length=g.nodes.length:=fun n j=>by simp [aheadJ]
 have hal : ∀ n k,(aheadN (fol g) n k).length≤n:=fun n k=>by
  have:=List.length_filter_le (fun i=>(fol g i).contains k) (List.range n)
  rwa [List.length_range] at this
 have hfI:=hW.fol
 have hlt:=hW.lt
 have hfl:=hW.len
 have hpos:=hW.pos
 have hmo:=hW.most
 clear hW
 generalize aheadL (fol g) g.nodes.length=R at hfin ⊢
 generalize aheadJ (fol g) g.nodes.length=A at hput hat hnext hz hfin hlen
 generalize aheadN (fol g)=B at hput hal
 generalize fol g=f at hput hat hnext hfI hlt hfl
 clear hat
 obtain ⟨name,locals,slots,nodes⟩:=g
 simp only at hput hnext hz hfin hlen hpos hmo hfI hlt
 have hln:(nodes.map Nd.cells).length=nodes.length:=List.length_map ..
 obtain ⟨N,hNe⟩ : ∃ N,nodes.length=N:=⟨_,rfl⟩
 rw [hNe] at hput hz hfin hlen hlt hpos hmo hln
 refine Ctr.new [] hT hmix Tryz.func21 rfl (fun _ _=>by kernel_rfl) rfl fun hok => ?_
 clear hok
 conv=>whnf
 refine acall.pure _ (hw) rfl rfl fun _ => ?_
 conv=>whnf
 refine ⟨(by rw [hln]; omega),Int.le_refl _,(by rw [hln]; show (N:Int)*24≤_; omega),?_⟩
 conv=>whnf
 rw [hln,Int.toNat_natCast]
 refine LoopL.by (fun i:Nat=>⟨[(1,.ptr 0 0),(3,.sl 1 N),(16,.tr (nodesT nodes)),(17,.tr (ti N)),(18,.tr (ti i))],[(0,.cells 50 [.tr (ts name),.tr (ti locals),.tr (ti slots),.tr (nodesT nodes)]),(1,.own 1 24 ((A i 0).map lrow) [])],10⟩) (fun i=>i≤N) (fun i=>N - i) 0 [0,_] []
  (Sub.mk' rfl ⟨⟨rfl,rfl⟩,⟨rfl,rfl⟩,.inl rfl,.inl rfl,.inl rfl,trivial⟩ ⟨⟨rfl,.inl rfl,.inl rfl,.inl rfl,.inl rfl,trivial⟩,⟨rfl,rfl,rfl,leaf_rep N,.inr (by show nlR _ ((A 0 0).map lrow); rw [hz]; exact nil_rows N)⟩,trivial⟩ rfl rfl) (Nat.zero_le _) ?_
 rintro i hi -
 conv=>whnf
 refine csplit (fun hlt1 => ?_) (fun hge => ?_)
 ·have hlt1:i<N:=by have:=of_decide_eq_true hlt1; omega
  obtain ⟨n,hn⟩ : ∃ n,nodes[i]? = some n:=⟨_,List.getElem?_eq_getElem (by omega)⟩
  have hf:=k_follows n
  rw [hfI i n hn] at hf
  have hflt:=hlt i
  have hfl:=hfl i
  have hput:=hput i
  have hnext:=hnext i
  obtain ⟨F,hF⟩ : ∃ F,f i=F:=⟨_,rfl⟩
  rw [hF] at hf hflt hfl hput hnext
  have hFl:=natsT_len F
  obtain ⟨kind,op,slot,thing,⟨sa,ka,wa⟩,⟨sb,kb,wb⟩,next,els,origin⟩:=n
  conv=>whnf
  refine ⟨rfl,(show (0:Int)≤i by omega),(show (i:Int)<((nodes.map Nd.cells).length:Int) by omega),fun row hrow => ?_⟩
  obtain ⟨d,hd,rfl⟩:=nd_get hrow
  obtain rfl:=Option.some.inj (hn.symm.trans hd)
  clear hrow hd hn
  conv=>whnf
  refine acall.pure _ (hf) rfl rfl fun _ => ?_
  conv=>whnf
  refine LoopL.by (fun j:Nat=>⟨[(1,.ptr 0 0),(3,.sl 1 N),(4,.tr (ti i)),(16,.tr (nodesT nodes)),(17,.tr (ti N)),(18,.tr (ti i)),(24,.tr (natsT F)),(25,.tr (ti F.length)),(26,.tr (ti j))],[(0,.cells 50 [.tr (ts name),.tr (ti locals),.tr (ti slots),.tr (nodesT nodes)]),(1,.own 1 24 ((A i j).map lrow) [])],10⟩) (fun j=>j≤F.length) (fun j=>F.length - j) 0 [0,1] []
   (Sub.mk' rfl ⟨⟨rfl,rfl⟩,⟨rfl,rfl⟩,.inl rfl,.inl rfl,.inl rfl,.inl rfl,.inl rfl,.inl (by rw [← hFl]),.inl rfl,trivial⟩ aut rfl rfl) (Nat.zero_le _) ?_
  rintro j hj -
  conv=>whnf
  refine csplit (fun hjt => ?_) (fun hjt => ?_)
  ·have hjt:j<F.length:=by have:=of_decide_eq_true hjt; omega
   obtain ⟨y,hy⟩ : ∃ y,F[j]? = some y:=⟨_,List.getElem?_eq_getElem hjt⟩
   have hyN:=hflt y (List.mem_of_getElem? hy)
   obtain ⟨hset,hget⟩:=hput j y hy hyN
   have hbl:=hal i y
   generalize B i y=l at hset hget hbl
   conv=>whnf
   refine ⟨rfl,(show (0:Int)≤j by omega),(show (j:Int)<((((F.map fun (x:Nat)=>(x:Int))).map irow).length:Int) by omega),fun row hrow => ?_⟩
   obtain ⟨d,hd,rfl⟩:=natsT_get hrow
   obtain rfl:=Option.some.inj (hy.symm.trans hd)
   clear hrow hd
   conv=>whnf
   refine ⟨rfl,(show (0:Int)≤y by omega),(show (y:Int)<(N:Int) by omega),?_⟩
   conv=>whnf
   refine ⟨rfl,(by show y<((A i j).map lrow).length; rw [List.length_map,hlen]; exact hyN),fun row hrow => ?_⟩
   obtain ⟨d,hd,rfl⟩:=lrow_get hrow
   obtain rfl:=Option.some.inj (hget.symm.trans hd)
   clear hrow hd
   refine ⟨(show 0<1 by decide),fun t ht => ?_⟩
   cases ht
   conv=>whnf
   refine ⟨(show 0<1 by decide),?_⟩
   conv=>whnf
   refine ⟨rfl,rfl,Nat.le_refl _,(by show (((l.map fun (x:Nat)=>(x:Int)).map irow).length+1)*8≤_; rw [natsT_len]; omega),trivial,(fun row hr t ht=>by rw [List.mem_singleton.1 hr] at ht; rw [List.mem_singleton.1 ht]; exact ⟨_,rfl⟩),trivial,?_⟩
   conv=>whnf
   refine ⟨rfl,(show (0:Int)≤y by omega),(show (y:Int)<(N:Int) by omega),?_⟩
   conv=>whnf
   refine .inl ⟨rfl,rfl,rfl,(by show y<((A i j).map lrow).length; rw [List.length_map,hlen]; exact hyN),⟨fun _=>rfl,trivial⟩,fun row hrow => ?_⟩
   obtain ⟨d,hd,rfl⟩:=lrow_get hrow
   obtain rfl:=Option.some.inj (hget.symm.trans hd)
   clear hrow hd
   refine ⟨(show 0+1≤1 by decide),?_⟩
   conv=>whnf
   refine ⟨j+1,[0,1],[],Sub.pk [1] ?_,hjt,by show F.length - (j+1)<F.length - j; omega⟩
   conv=>whnf
   refine ⟨rfl,rfl,(by show ((l.map fun (x:Nat)=>(x:Int)).map irow).length+1≤(((l.map fun (x:Nat)=>(x:Int)).map irow)++[[ti i]]).length; rw [List.length_append]; exact Nat.le_refl _),?_⟩
   refine Sub0.mk' rfl ⟨⟨rfl,rfl⟩,⟨rfl,rfl⟩,.inl rfl,.inl rfl,.inl rfl,.inl rfl,.inl rfl,.inl rfl,.inl (ti_succ hjt (by omega)),trivial⟩ ⟨aut,⟨rfl,rfl,rfl,rfl,.inl ?_⟩,trivial⟩ rfl rfl
   refine (setC_put (A i j) y _ _ (by rw [hlen]; exact hyN)).trans ?_
   rw [hset,List.map_set]
   exact congrArg (fun q=>((A i j).map lrow).set y [q]) (nats_snoc l i)
  ·have hjt:F.length≤j:=by have:=of_decide_eq_false hjt; omega
   conv=>whnf
   refine ⟨fun _ => ?_,fun h=>absurd rfl h⟩
   conv=>whnf
   exact ⟨i+1,[0,1],[],Sub.mk' rfl ⟨⟨rfl,rfl⟩,⟨rfl,rfl⟩,.inl rfl,.inl rfl,.inl (ti_succ hlt1 (by omega)),trivial⟩ ⟨aut,⟨rfl,rfl,rfl,rfl,.inl (by rw [hnext j hjt])⟩,trivial⟩ rfl rfl,hlt1,by show N - (i+1)<N - i; omega⟩
 ·have hge:i=N:=by have:=of_decide_eq_false hge; omega
  subst hge
  conv=>whnf
  refine ⟨fun _ => ?_,fun h=>absurd rfl h⟩
  conv=>whnf
  exact ⟨[1],rfl,rfl,⟨rfl,by rw [← hfin,hlen]⟩,⟨rfl,rfl,rfl,rfl,.inl (by rw [hfin])⟩,trivial⟩
end Go.Proofs.YthboippafkcoiaaGreatDoor.am
namespace Go.Proofs.YthboippafkcoiaaGreatDoor.am
open Go Go.Proofs
set_option linter.all false
theorem least_pos : ∀ (l:List Int) (a:Int),0<a→0<leastW l a
 | [],a,h=>h
 | r::l,a,h=>by
  show 0<leastW l (bif decide (r > 0) && ((a == 0) || decide (r<a)) then r else a)
  refine least_pos l _ ?_
  cases hr:decide (r > 0) with
  | false=>exact h
  | true =>
   have:=of_decide_eq_true hr
   rw [Bool.true_and]
   cases ((a == 0) || decide (r<a)) with
   | true=>exact this
   | false=>exact h
theorem least_none : ∀ (l:List Int),decide (leastW l 0 > 0)=false → ∀ r ∈ l,r≤0
 | [],_,r,hr=>by cases hr
 | q::l,h,r,hr=>by
  have h:decide (leastW l (bif decide (q > 0) && (((0:Int) == 0) || decide (q<0)) then q else 0) > 0)=false:=h
  cases hq:decide (q > 0) with
  | true =>
   rw [hq] at h
   have h2:=of_decide_eq_false h
   exact absurd (least_pos l q (of_decide_eq_true hq)) h2
  | false =>
   rw [hq] at h
   rcases List.mem_cons.1 hr with rfl | hr
   ·have:=of_decide_eq_false hq; omega
   ·exact least_none l h r hr
theorem when_no {k:Int} {b:Bool} (hk:0<k) (h:whenI k b≤0):b=false:=by
 unfold whenI at h
 cases b with
 | false=>rfl
 | true=>rw [cond_true] at h; omega
theorem parts_wf {kind op word:Int} {name:ByteArray} {kids:List Expr} {at_:Int} (h:partsB (.mk kind op word name kids at_)=true):(kind == 1 || kind == 2 || (bif two op then decide (2≤kids.length) else decide (1≤kids.length)))=true∧(kind=1∨kind=2∨kind=3∨kind=4)∧(kind=3→two op=false)∧(kind=4→two op=true):=by
 unfold partsB at h
 dsimp only at h
 cases h1:(kind == 1) with
 | true =>
  have:=eq_of_beq h1
  exact ⟨rfl,.inl this,fun e=>by omega,fun e=>by omega⟩
 | false =>
 rw [h1,cond_false] at h
 cases h2:(kind == 2) with
 | true =>
  have:=eq_of_beq h2
  exact ⟨rfl,.inr (.inl this),fun e=>by omega,fun e=>by omega⟩
 | false =>
 rw [h2,cond_false] at h
 cases h3:(kind == 3) with
 | true =>
  rw [h3,cond_true] at h
  simp only [Bool.and_eq_true,beq_iff_eq,Bool.or_eq_true] at h
  have e3:=eq_of_beq h3
  have hl:=h.1.2
  rw [erows_len] at hl
  have ht:two op=false:=by
   rcases h.2 with rfl | rfl <;> rfl
  refine ⟨?_,.inr (.inr (.inl e3)),fun _=>ht,fun e=>by omega⟩
  rw [ht]
  simp only [Bool.false_or,cond_false,decide_eq_true_eq]
  omega
 | false =>
 rw [h3,cond_false] at h
 cases h4:(kind == 4) with
 | false=>rw [h4] at h; cases h
 | true =>
  rw [h4,cond_true] at h
  simp only [Bool.and_eq_true,beq_iff_eq] at h
  have e4:=eq_of_beq h4
  have hl:=h.1.2
  rw [erows_len] at hl
  refine ⟨?_,.inr (.inr (.inr e4)),fun e=>by omega,fun _=>h.2⟩
  rw [h.2]
  simp only [Bool.false_or,cond_true,decide_eq_true_eq]
  omega
mutual
def fitE:Expr→Bool
 | .mk kind op _ _ kids _=>(kind == 1 || kind == 2 || (kind == 3 && !two op) || (kind == 4 && two op)) && fitEs kids
def fitEs:List Expr→Bool
 | []=>true
 | e::l=>fitE e && fitEs l
end
mutual
theorem exprW_wf (top locals:MI) : ∀ (e:Expr) (deep:Int),exprW top locals e deep=none→wfE e=true∧fitE e=true
 | .mk kind op word name kids at_,deep,h=>by
  have hk:=exprsW_wf top locals kids (deep+1)
  unfold exprW at h
  cases hb:decide (leastW (exprRules top locals kind op word name kids at_ deep) 0 > 0) with
  | true=>rw [hb] at h; cases h
  | false =>
   rw [hb,cond_false] at h
   have hp:=when_no (by decide) (least_none _ hb (whenI 4 (!partsB (.mk kind op word name kids at_))) (by unfold exprRules; simp))
   rw [Bool.not_eq_false'] at hp
   obtain ⟨p1,p2,p3,p4⟩:=parts_wf hp
   obtain ⟨k1,k2⟩:=hk h
   refine ⟨by unfold wfE; rw [p1,k1]; rfl,?_⟩
   unfold fitE
   rw [k2,Bool.and_true]
   rcases p2 with rfl | rfl | rfl | rfl
   ·rfl
   ·rfl
   ·rw [p3 rfl]; rfl
   ·rw [p4 rfl]; rfl
theorem exprsW_wf (top locals:MI) : ∀ (l:List Expr) (deep:Int),exprsW top locals l deep=none→wfEs l=true∧fitEs l=true
 | [],_,_=>⟨by unfold wfEs; rfl,by unfold fitEs; rfl⟩
 | e::l,deep,h=>by
  unfold exprsW at h
  cases he:exprW top locals e deep with
  | some f=>rw [he] at h; cases h
  | none =>
   rw [he] at h
   obtain ⟨a1,a2⟩:=exprW_wf top locals e deep he
   obtain ⟨b1,b2⟩:=exprsW_wf top locals l deep h
   exact ⟨by unfold wfEs; rw [a1,b1]; rfl,by unfold fitEs; rw [a2,b2]; rfl⟩
end
theorem fields_wf {kind:Int} {name other:ByteArray} {e:List Expr} {body els:List Stmt} {at_:Int} (h:fieldsB (.mk kind name other e body els at_)=true):(decide (1≤kind) && decide (kind≤7))=true∧(kind == 5 || kind == 7 || decide (1≤e.length))=true∧(kind=1∨kind=2∨kind=6∨kind=7→body=[]∧els=[])∧(kind=4∨kind=5→els=[])∧(kind=5∨kind=7→e=[])∧e.length≤1:=by
 have nil : ∀ l:List Stmt,(!decide (((Stmt.rows l).length:Int) > 0))=true→l=[]:=fun l q=>by
  rw [Bool.not_eq_true'] at q
  have:=of_decide_eq_false q
  rw [srows_len] at this
  exact List.eq_nil_of_length_eq_zero (by omega)
 have one:(((Expr.rows e).length:Int) == 1)=true→e.length=1:=fun q=>by
  have:=eq_of_beq q
  rw [erows_len] at this
  omega
 have zer:(((Expr.rows e).length:Int) == 0)=true→e=[]:=fun q=>by
  have:=eq_of_beq q
  rw [erows_len] at this
  exact List.eq_nil_of_length_eq_zero (by omega)
 unfold fieldsB at h
 dsimp only at h
 cases h1:(kind == 1) with
 | true =>
  rw [h1,cond_true] at h
  obtain rfl:=eq_of_beq h1
  simp only [Bool.and_eq_true] at h
  have l1:=one h.1.1.2
  exact ⟨rfl,by rw [l1]; rfl,fun _=>⟨nil _ h.1.2,nil _ h.2⟩,fun q=>by omega,fun q=>by omega,by omega⟩
 | false =>
 rw [h1,cond_false] at h
 cases h2:(kind == 2) with
 | true =>
  rw [h2,cond_true] at h
  obtain rfl:=eq_of_beq h2
  simp only [Bool.and_eq_true] at h
  have l1:=one h.1.1
  exact ⟨rfl,by rw [l1]; rfl,fun _=>⟨nil _ h.1.2,nil _ h.2⟩,fun q=>by omega,fun q=>by omega,by omega⟩
 | false =>
 rw [h2,cond_false] at h
 cases h3:(kind == 3) with
 | true =>
  rw [h3,cond_true] at h
  obtain rfl:=eq_of_beq h3
  simp only [Bool.and_eq_true] at h
  have l1:=one h.2
  exact ⟨rfl,by rw [l1]; rfl,fun q=>by omega,fun q=>by omega,fun q=>by omega,by omega⟩
 | false =>
 rw [h3,cond_false] at h
 cases h4:(kind == 4) with
 | true =>
  rw [h4,cond_true] at h
  obtain rfl:=eq_of_beq h4
  simp only [Bool.and_eq_true] at h
  have l1:=one h.1.2
  exact ⟨rfl,by rw [l1]; rfl,fun q=>by omega,fun _=>nil _ h.2,fun q=>by omega,by omega⟩
 | false =>
 rw [h4,cond_false] at h
 cases h5:(kind == 5) with
 | true =>
  rw [h5,cond_true] at h
  obtain rfl:=eq_of_beq h5
  simp only [Bool.and_eq_true] at h
  have l0:=zer h.1.2
  exact ⟨rfl,rfl,fun q=>by omega,fun _=>nil _ h.2,fun _=>l0,by rw [l0]; exact Nat.zero_le _⟩
 | false =>
 rw [h5,cond_false] at h
 cases h6:(kind == 6) with
 | true =>
  rw [h6,cond_true] at h
  obtain rfl:=eq_of_beq h6
  simp only [Bool.and_eq_true] at h
  have l1:=one h.1.1.2
  exact ⟨rfl,by rw [l1]; rfl,fun _=>⟨nil _ h.1.2,nil _ h.2⟩,fun q=>by omega,fun q=>by omega,by omega⟩
 | false =>
 rw [h6,cond_false] at h
 cases h7:(kind == 7) with
 | false=>rw [h7] at h; cases h
 | true =>
  rw [h7,cond_true] at h
  obtain rfl:=eq_of_beq h7
  simp only [Bool.and_eq_true] at h
  have l0:=zer h.1.1.2
  exact ⟨rfl,rfl,fun _=>⟨nil _ h.1.2,nil _ h.2⟩,fun q=>by omega,fun _=>l0,by rw [l0]; exact Nat.zero_le _⟩
mutual
def fitS:Stmt→Bool
 | .mk _ _ _ e body els _=>fitEs e && (fitSs body && fitSs els)
def fitSs:List Stmt→Bool
 | []=>true
 | x::r=>fitS x && fitSs r
end
mutual
theorem stmtW_wf (top locals:MI) : ∀ (x:Stmt) (deep:Int),stmtW top locals x deep=none→wfS x=true∧fitS x=true
 | .mk kind name other e body els at_,deep,h=>by
  have hb1:=blockW_wf top locals body (deep+1)
  have hb2:=blockW_wf top locals els (deep+1)
  unfold stmtW at h
  cases hb:decide (leastW (stmtRules top locals kind name other e body els at_ deep) 0 > 0) with
  | true=>rw [hb] at h; cases h
  | false =>
   rw [hb,cond_false] at h
   have hp:=when_no (by decide) (least_none _ hb (whenI 4 (!fieldsB (.mk kind name other e body els at_))) (by unfold stmtRules; cases kind == 1 <;> cases kind == 2 <;> cases kind == 5 <;> simp))
   rw [Bool.not_eq_false'] at hp
   obtain ⟨f1,f2,_⟩:=fields_wf hp
   cases he:exprsW top locals e 1 with
   | some f=>rw [he] at h; cases h
   | none =>
    rw [he] at h
    cases hbd:blockW top locals body (deep+1) with
    | some f=>simp only [hbd] at h; cases h
    | none =>
     simp only [hbd] at h
     obtain ⟨e1,e2⟩:=exprsW_wf top locals e 1 he
     obtain ⟨b1,b2⟩:=hb1 hbd
     obtain ⟨c1,c2⟩:=hb2 h
     exact ⟨by unfold wfS; rw [f1,f2,e1,b1,c1]; rfl,by unfold fitS; rw [e2,b2,c2]; rfl⟩
theorem blockW_wf (top locals:MI) : ∀ (l:List Stmt) (deep:Int),blockW top locals l deep=none→wfSs l=true∧fitSs l=true
 | [],_,_=>⟨by unfold wfSs; rfl,by unfold fitSs; rfl⟩
 | x::r,deep,h=>by
  unfold blockW at h
  cases hx:stmtW top locals x deep with
  | some f=>rw [hx] at h; cases h
  | none =>
   rw [hx] at h
   obtain ⟨a1,a2⟩:=stmtW_wf top locals x deep hx
   obtain ⟨b1,b2⟩:=blockW_wf top locals r deep h
   exact ⟨by unfold wfSs; rw [a1,b1]; rfl,by unfold fitSs; rw [a2,b2]; rfl⟩
end
theorem thsW_wf (p:Prg) (top:MI) : ∀ (l:List Thread) (i:Nat) (m:MI),thsW p top l i m=none → ∀ th ∈ l,threadW p top th=none
 | [],_,_,_,th,h=>by cases h
 | t::r,i,m,h,th,hm=>by
  unfold thsW at h
  cases hb:decide (leastW (thRules m i t) 0 > 0) with
  | true=>rw [hb] at h; cases h
  | false =>
   rw [hb,cond_false] at h
   cases ht:threadW p top t with
   | some f=>rw [ht] at h; cases h
   | none =>
    rw [ht] at h
    rcases List.mem_cons.1 hm with rfl | hm
    ·exact ht
    ·exact thsW_wf p top r _ _ h th hm
theorem check_wf {p:Prg} (h:(checkW p).1=0) : ∀ th ∈ p.threads,wfSs th.body=true∧fitSs th.body=true:=by
 intro th hth
 unfold checkW at h
 cases hf:firstW p with
 | some f=>rw [hf] at h; exact absurd (show (50:Int)=0 from h) (by decide)
 | none =>
  unfold firstW at hf
  split at hf
  ·cases hf
  ·split at hf
   ·cases hf
   ·have:=thsW_wf p _ _ _ _ hf th hth
    unfold threadW at this
    split at this
    ·cases this
    ·exact blockW_wf _ _ _ _ this
end Go.Proofs.YthboippafkcoiaaGreatDoor.am
