/- Contract of cfg's Lower. Plain: what check's OK gives the lowering. Contracts of the reference's lowering: slot, fill, put. Contract of the -/
import Derived.Test.YthboippafkcoiaaGreatDoorQ10
import Derived.Test.YthboippafkcoiaaGreatDoorQ8
import Derived.Test.YthboippafkcoiaaGreatDoorProg
import Derived.WalkLawsBesides
import Derived.Deep.WholeRow
import Derived.Lib.Hide
import Derived.Below
import Derived.Test.YthboippafkcoiaaGreatDoorQ6
import Derived.Lib.Mul64
import Derived.Laws.Bits64b
set_option linter.all false
namespace Go.Proofs.YthboippafkcoiaaGreatDoor.am
open Go Go.Proofs
set_option linter.all false
def thrC (p:Prg) (t:Nat) (th:Thread):LowC:=⟨p,t,th.name,((th.locals.map Decl.cells).length:Nat)⟩
def low0 (th:Thread):LowS:=⟨((th.locals.map Decl.cells).length:Nat),[],[],false⟩
def endS (s:LowS):LowS:=bif s.over then s else putS { nd00 with kind:=9 } s
def zeroLast (l:List Nd):List Nd:=match l[l.length - 1]? with
 | some n=>l.set (l.length - 1) { n with next:=0 }
 | none=>l
def grS (c:LowC) (s:LowS):Gr:=⟨c.name,c.loc,s.slots,zeroLast s.nodes⟩
def lowTs (p:Prg):Nat→List Thread→Option (List Gr)
 | _,[]=>some []
 | i,th::r=>bif (endS (blockS (thrC p i th) th.body (low0 th))).over then none else match lowTs p (i+1) r with
  | some l=>some (grS (thrC p i th) (endS (blockS (thrC p i th) th.body (low0 th)))::l)
  | none=>none
def outU (p:Prg):Option (List Gr)→Un × Int
 | none=>(⟨[],[],[]⟩,3)
 | some l=>(⟨p.shared,p.locks,l⟩,0)
def lowerU (p:Prg):Un × Int:=bif (checkW p).1 != 0 then (⟨[],[],[]⟩,(checkW p).1) else outU p (lowTs p 0 p.threads)
def contG (gs:List Gr):Option (List Gr)→Option (List Gr)
 | none=>none
 | some l=>some (gs++l)
theorem low0_ok (th:Thread):OkA (low0 th):=⟨fun o h=>(by cases h),Nat.zero_le _,Nat.zero_le _⟩
theorem endS_rel (s:LowS):RelE s (endS s):=by
 unfold endS
 cases s.over with
 | true=>exact .refl s
 | false=>exact putS_rel _ _
theorem endS_pos {s:LowS} (h:(endS s).over=false):1≤(endS s).nodes.length:=by
 unfold endS at h ⊢
 cases ho:s.over with
 | true=>rw [ho,cond_true,ho] at h; cases h
 | false =>
  rw [ho,cond_false] at h
  rw [cond_false]
  cases hb:decide ((s.nodes.length:Int) ≥ 4096) with
  | true=>rw [putS_big _ hb] at h; cases h
  | false=>rw [putS_len _ hb]; omega
theorem thr_get {l:List Thread} {i:Nat} {row:List Tr} (h:(l.map Thread.cells)[i]? = some row) : ∃ d,l[i]? = some d∧row=d.cells:=by
 rw [List.getElem?_map,Option.map_eq_some_iff] at h
 obtain ⟨d,h1,rfl⟩:=h
 exact ⟨d,h1,rfl⟩
abbrev opsH (h:Nat) (l:List (Bool × Nat)):Blk := .fns 137 8 h (l.map cloD)
abbrev lwT (c:LowC) (s:LowS) (l:List Nd) (ho:Nat):Blk := .cells 92 [.tr (declsT c.p.shared),.tr (declsT c.p.locks),.tr (threadsT c.p.threads),.tr (ti (c.t:Nat)),.tr (ts c.name),.tr (ti c.loc),.tr (ti s.slots),.tr (nodesT l),.sl ho s.opens.length,.tr (tb s.over)]
set_option maxRecDepth 100000 in
set_option maxHeartbeats 4000000 in
theorem k_lowerG (p:Prg) (hw:(checkW p).1=0 → ∀ th ∈ p.threads,wfSs th.body=true):K 10 [p.av] [] (.ret (.tup [(lowerU p).1.av,.tr (ti (lowerU p).2)])) []:=by
 have hch:=k10 p
 have hU:lowerU p=bif (checkW p).1 != 0 then (⟨[],[],[]⟩,(checkW p).1) else outU p (lowTs p 0 p.threads):=rfl
 generalize lowerU p=R at hU ⊢
 generalize checkW p=C0 at hch hU hw
 obtain ⟨why,fa,fr⟩:=C0
 simp only at hU hw
 refine Ctr.cut [4,5,9,10,12,14,15] hT hmix Tryz.func10 rfl (fun _ _=>by kernel_rfl) rfl fun hok => ?_
 obtain ⟨hb1,_,_⟩:=((hok.slot 0 rfl).agg _ (.head _)).tr.lst
 obtain ⟨hb2,_,_⟩:=((hok.slot 0 rfl).agg _ (.tail _ (.head _))).tr.lst
 obtain ⟨hb3,hl3,hrw⟩:=((hok.slot 0 rfl).agg _ (.tail _ (.tail _ (.head _)))).tr.lst
 rw [List.length_map] at hl3
 have hlt:(p.threads.map Thread.cells).length=p.threads.length:=List.length_map ..
 clear hok hrw
 conv=>whnf
 refine CutL.by (fun _:Unit=>⟨[(1,.ptr 0 0),(2,.ptr 1 0)],[(0,.cells 25 [.tr (declsT p.shared),.tr (declsT p.locks),.tr (threadsT p.threads)]),(1,.cells 29 [nilA,nilA,nilA])],20⟩) (fun _=>(why != 0)=false) ?_ ?_
 ·conv=>whnf
  refine acall.pure _ (hch) rfl rfl fun _ => ?_
  conv=>whnf
  cases h1:(why != 0) with
  | true =>
   rw [h1,cond_true] at hU
   subst hU
   conv=>whnf
   exact ⟨⟨⟨.inr ⟨rfl,_,_,rfl⟩,.inr ⟨rfl,_,_,rfl⟩,.inr ⟨rfl,_,_,rfl⟩,trivial⟩,.inl rfl,trivial⟩,trivial⟩
  | false =>
   conv=>whnf
   exact ⟨(),[_,_],[],Sub.mk' rfl ⟨⟨rfl,rfl⟩,⟨rfl,rfl⟩,trivial⟩ ⟨⟨rfl,.inl rfl,.inl rfl,.inl rfl,trivial⟩,⟨rfl,.inl rfl,.inl rfl,.inl rfl,trivial⟩,trivial⟩ rfl rfl,rfl⟩
 rintro - h1 -
 rw [h1,cond_false] at hU
 replace hw:=hw (by rw [bne_eq_false_iff_eq] at h1; exact h1)
 clear hch
 obtain ⟨Q,hQ⟩ : ∃ Q,Q=lowTs p 0 p.threads:=⟨_,rfl⟩
 rw [← hQ] at hU
 conv=>whnf
 refine CutL.by (fun _:Unit=>⟨[(1,.ptr 0 0),(2,.ptr 1 0),(6,.ptr 2 0)],[(0,.cells 25 [.tr (declsT p.shared),.tr (declsT p.locks),.tr (threadsT p.threads)]),(1,.cells 29 [nilA,nilA,nilA]),(2,.cells 29 [.tr (declsT p.shared),.tr (declsT p.locks),.sl 3 (([]:List Gr)).length]),(3,.vec 50 4 56 ((([]:List Gr)).map Gr.cells))],20⟩) (fun _=>True) ?_ ?_
 ·conv=>whnf
  refine ⟨hb1,?_⟩
  conv=>whnf
  refine ⟨hb2,?_⟩
  conv=>whnf
  refine ⟨by kernel_rfl,fun _ => ?_⟩
  conv=>whnf
  exact ⟨(),[_,_,_],[3],Sub.mk' rfl ⟨⟨rfl,rfl⟩,⟨rfl,rfl⟩,⟨rfl,rfl⟩,trivial⟩ ⟨⟨rfl,.inl rfl,.inl rfl,.inl rfl,trivial⟩,⟨rfl,.inl rfl,.inl rfl,.inl rfl,trivial⟩,⟨rfl,⟨rfl,Nat.le_refl _,(by show Tr.lst 3 32 _=Tr.lst 3 32 (List.take _ _); rw [List.take_length])⟩,⟨rfl,Nat.le_refl _,(by show Tr.lst 3 32 _=Tr.lst 3 32 (List.take _ _); rw [List.take_length])⟩,⟨rfl,rfl,rfl,rfl⟩,trivial⟩,⟨rfl,_,_,_,rfl,by decide⟩,trivial⟩ rfl rfl,trivial⟩
 rintro - - -
 conv=>whnf
 refine LoopL.by (fun x:Nat × List Gr=>⟨[(1,.ptr 0 0),(2,.ptr 1 0),(6,.ptr 2 0),(27,.tr (threadsT p.threads)),(28,.tr (ti ((p.threads.map Thread.cells).length:Nat))),(29,.tr (ti (x.1:Nat)))],[(0,.cells 25 [.tr (declsT p.shared),.tr (declsT p.locks),.tr (threadsT p.threads)]),(1,.cells 29 [nilA,nilA,nilA]),(2,.cells 29 [.tr (declsT p.shared),.tr (declsT p.locks),.sl 3 (x.2).length]),(3,.vec 50 4 56 ((x.2).map Gr.cells))],20⟩)
  (fun x=>x.1≤p.threads.length∧Q=contG x.2 (lowTs p x.1 (p.threads.drop x.1))∧x.2.length=x.1) (fun x=>p.threads.length - x.1) (0,[]) [0,1,2,3] []
  (Sub.mk' rfl ⟨⟨rfl,rfl⟩,⟨rfl,rfl⟩,⟨rfl,rfl⟩,.inl rfl,.inl rfl,.inl rfl,trivial⟩ ⟨⟨rfl,.inl rfl,.inl rfl,.inl rfl,trivial⟩,⟨rfl,.inl rfl,.inl rfl,.inl rfl,trivial⟩,⟨rfl,.inl rfl,.inl rfl,⟨rfl,rfl⟩,trivial⟩,⟨rfl,rfl,rfl,rfl⟩,trivial⟩ rfl rfl) ⟨Nat.zero_le _,by rw [hQ]; show lowTs p 0 p.threads=contG [] (lowTs p 0 p.threads); cases lowTs p 0 p.threads <;> rfl,rfl⟩ ?_
 clear hQ
 rintro ⟨i,gs⟩ ⟨hi,hQ,hgs⟩ -
 simp only at hi hQ hgs
 conv=>whnf
 refine csplit (fun hit => ?_) (fun hit => ?_)
 ·replace hit:i<p.threads.length:=by have:decide ((i:Int)<((p.threads.map Thread.cells).length:Int))=true:=hit; have:=of_decide_eq_true this; omega
  obtain ⟨th,hth⟩ : ∃ th,p.threads[i]? = some th:=⟨_,List.getElem?_eq_getElem hit⟩
  have hwt:=hw th (List.mem_of_getElem? hth)
  rw [drop_cons hth] at hQ
  obtain ⟨C,hC⟩ : ∃ C,C=thrC p i th:=⟨_,rfl⟩
  have hQ2:Q=contG gs (bif (endS (blockS C th.body (low0 th))).over then none else match lowTs p (i+1) (p.threads.drop (i+1)) with
   | some l=>some (grS C (endS (blockS C th.body (low0 th)))::l)
   | none=>none):=by rw [hQ,hC]; rfl
  clear hQ
  have hblk:=k_blkG C th.body hwt (low0 th) (low0_ok th)
  have h1:=(low0_ok th).rel (blockS_rel C th.body (low0 th))
  have hCp:C.p=p:=by rw [hC]; rfl
  have hCt:C.t=i:=by rw [hC]; rfl
  have hCn:C.name=th.name:=by rw [hC]; rfl
  have hCl:C.loc=((th.locals.map Decl.cells).length:Nat):=by rw [hC]; rfl
  conv=>whnf
  refine ⟨rfl,(show (0:Int)≤i by omega),(show (i:Int)<((p.threads.map Thread.cells).length:Int) by omega),fun row hrow => ?_⟩
  obtain ⟨d,hd,rfl⟩:=thr_get hrow
  obtain rfl:=Option.some.inj (hth.symm.trans hd)
  clear hrow hd
  conv=>whnf
  refine CutL.by (fun _:Unit=>⟨[(1,.ptr 0 0),(2,.ptr 1 0),(6,.ptr 2 0),(27,.tr (threadsT p.threads)),(28,.tr (ti ((p.threads.map Thread.cells).length:Nat))),(29,.tr (ti (i:Nat))),(8,.ptr 4 0),(9,.ptr 5 0)],[(0,.cells 25 [.tr (declsT p.shared),.tr (declsT p.locks),.tr (threadsT p.threads)]),(1,.cells 29 [nilA,nilA,nilA]),(2,.cells 29 [.tr (declsT p.shared),.tr (declsT p.locks),.sl 3 (gs).length]),(3,.vec 50 4 56 ((gs).map Gr.cells)),(4,.cells 41 (th.cells.map .tr)),(5,stB C (low0 th) 6 7),(6,ndsB (low0 th).nodes),(7,opsH 5 (low0 th).opens)],20⟩) (fun _=>True) ?_ ?_
  ·conv=>whnf
   subst hC
   exact ⟨(),[0,1,2,3,_,_],[6,7],Sub.mk' rfl ⟨⟨rfl,rfl⟩,⟨rfl,rfl⟩,⟨rfl,rfl⟩,.inl rfl,.inl rfl,.inl rfl,⟨rfl,rfl⟩,⟨rfl,rfl⟩,trivial⟩ ⟨⟨rfl,.inl rfl,.inl rfl,.inl rfl,trivial⟩,⟨rfl,.inl rfl,.inl rfl,.inl rfl,trivial⟩,⟨rfl,.inl rfl,.inl rfl,⟨rfl,rfl⟩,trivial⟩,⟨rfl,rfl,rfl,rfl⟩,⟨rfl,.inl rfl,.inl rfl,.inl rfl,.inl rfl,trivial⟩,⟨rfl,.inl rfl,.inl rfl,.inl rfl,.inl rfl,.inl rfl,.inl rfl,.inl rfl,⟨rfl,rfl,rfl,rfl⟩,⟨rfl,rfl,rfl,rfl⟩,.inl rfl,trivial⟩,⟨rfl,_,_,_,rfl,by decide⟩,⟨rfl,rfl⟩,trivial⟩ rfl rfl,trivial⟩
  rintro - - -
  generalize blockS C th.body (low0 th)=S1 at hblk h1 hQ2
  conv=>whnf
  refine CutL.by (fun _:Unit=>⟨[(1,.ptr 0 0),(2,.ptr 1 0),(6,.ptr 2 0),(27,.tr (threadsT p.threads)),(28,.tr (ti ((p.threads.map Thread.cells).length:Nat))),(29,.tr (ti (i:Nat))),(9,.ptr 5 0)],[(0,.cells 25 [.tr (declsT p.shared),.tr (declsT p.locks),.tr (threadsT p.threads)]),(1,.cells 29 [nilA,nilA,nilA]),(2,.cells 29 [.tr (declsT p.shared),.tr (declsT p.locks),.sl 3 (gs).length]),(3,.vec 50 4 56 ((gs).map Gr.cells)),(5,stB C (S1) 6 7),(6,ndsB (S1).nodes),(7,opsH 5 (S1).opens)],20⟩) (fun _=>True) ?_ ?_
  ·conv=>whnf
   refine acall.new [5,6,7] [] _ _ _ _ (hblk) rfl rfl rfl rfl aut aut rfl rfl ?_
   conv=>whnf
   intro _
   conv=>whnf
   exact ⟨(),[0,1,2,3,4,5,_,_],[],Sub.mk' rfl ⟨⟨rfl,rfl⟩,⟨rfl,rfl⟩,⟨rfl,rfl⟩,.inl rfl,.inl rfl,.inl rfl,⟨rfl,rfl⟩,trivial⟩ ⟨⟨rfl,.inl rfl,.inl rfl,.inl rfl,trivial⟩,⟨rfl,.inl rfl,.inl rfl,.inl rfl,trivial⟩,⟨rfl,.inl rfl,.inl rfl,⟨rfl,rfl⟩,trivial⟩,⟨rfl,rfl,rfl,rfl⟩,⟨rfl,.inl rfl,.inl rfl,.inl rfl,.inl rfl,.inl rfl,.inl rfl,.inl rfl,⟨rfl,rfl⟩,⟨rfl,rfl⟩,.inl rfl,trivial⟩,⟨rfl,rfl,rfl,rfl⟩,⟨rfl,rfl,rfl,rfl⟩,trivial⟩ rfl rfl,trivial⟩
  rintro - - -
  have hp2:=k_putG C { nd00 with kind:=9 } S1 h1.ok
  have h2:=h1.relE (endS_rel S1)
  have hpos:=endS_pos (s:=S1)
  have hE:endS S1=bif S1.over then S1 else putS { nd00 with kind:=9 } S1:=rfl
  generalize putS { nd00 with kind:=9 } S1=S2a at hp2 hE
  generalize endS S1=S2 at h2 hpos hE hQ2
  conv=>whnf
  refine CutL.by (fun _:Unit=>⟨[(1,.ptr 0 0),(2,.ptr 1 0),(6,.ptr 2 0),(27,.tr (threadsT p.threads)),(28,.tr (ti ((p.threads.map Thread.cells).length:Nat))),(29,.tr (ti (i:Nat))),(9,.ptr 5 0)],[(0,.cells 25 [.tr (declsT p.shared),.tr (declsT p.locks),.tr (threadsT p.threads)]),(1,.cells 29 [nilA,nilA,nilA]),(2,.cells 29 [.tr (declsT p.shared),.tr (declsT p.locks),.sl 3 (gs).length]),(3,.vec 50 4 56 ((gs).map Gr.cells)),(5,stB C (S2) 6 7),(6,ndsB (S2).nodes),(7,opsH 5 (S2).opens)],20⟩) (fun _=>True) ?_ ?_
  ·conv=>whnf
   obtain ⟨sl1,n1,o1,v1⟩:=S1
   cases v1 with
   | true =>
    replace hE:S2=⟨sl1,n1,o1,true⟩:=hE
    subst hE
    conv=>whnf
    exact ⟨(),[0,1,2,3,4,5,6,7],[],Sub.mk' rfl ⟨⟨rfl,rfl⟩,⟨rfl,rfl⟩,⟨rfl,rfl⟩,.inl rfl,.inl rfl,.inl rfl,⟨rfl,rfl⟩,trivial⟩ ⟨⟨rfl,.inl rfl,.inl rfl,.inl rfl,trivial⟩,⟨rfl,.inl rfl,.inl rfl,.inl rfl,trivial⟩,⟨rfl,.inl rfl,.inl rfl,⟨rfl,rfl⟩,trivial⟩,⟨rfl,rfl,rfl,rfl⟩,⟨rfl,.inl rfl,.inl rfl,.inl rfl,.inl rfl,.inl rfl,.inl rfl,.inl rfl,⟨rfl,rfl⟩,⟨rfl,rfl⟩,.inl rfl,trivial⟩,⟨rfl,rfl,rfl,rfl⟩,⟨rfl,rfl,rfl,rfl⟩,trivial⟩ rfl rfl,trivial⟩
   | false =>
    replace hE:S2=S2a:=hE
    subst hE
    conv=>whnf
    refine acall.new [5,6,7] [] _ _ _ _ (hp2) rfl rfl rfl rfl aut aut rfl rfl ?_
    conv=>whnf
    intro _
    conv=>whnf
    exact ⟨(),[0,1,2,3,4,5,_,_],[],Sub.mk' rfl ⟨⟨rfl,rfl⟩,⟨rfl,rfl⟩,⟨rfl,rfl⟩,.inl rfl,.inl rfl,.inl rfl,⟨rfl,rfl⟩,trivial⟩ ⟨⟨rfl,.inl rfl,.inl rfl,.inl rfl,trivial⟩,⟨rfl,.inl rfl,.inl rfl,.inl rfl,trivial⟩,⟨rfl,.inl rfl,.inl rfl,⟨rfl,rfl⟩,trivial⟩,⟨rfl,rfl,rfl,rfl⟩,⟨rfl,.inl rfl,.inl rfl,.inl rfl,.inl rfl,.inl rfl,.inl rfl,.inl rfl,⟨rfl,rfl⟩,⟨rfl,rfl⟩,.inl rfl,trivial⟩,⟨rfl,rfl,rfl,rfl⟩,⟨rfl,rfl,rfl,rfl⟩,trivial⟩ rfl rfl,trivial⟩
  rintro - - -
  clear hE hp2 h1 hblk
  obtain ⟨sl2,n2,o2,v2⟩:=S2
  simp only at hpos hQ2
  cases v2 with
  | true =>
   replace hQ2:Q=none:=hQ2
   replace hU:R=(⟨[],[],[]⟩,3):=by rw [hU,hQ2]; rfl
   subst hU
   conv=>whnf
   refine CutL.by (fun _:Unit=>⟨[(1,.ptr 0 0)],[(0,.cells 25 [.tr (declsT p.shared),.tr (declsT p.locks),.tr (threadsT p.threads)])],20⟩) (fun _=>False) ?_ ?_
   ·conv=>whnf
    exact ⟨⟨⟨.inr ⟨rfl,_,_,rfl⟩,.inr ⟨rfl,_,_,rfl⟩,.inr ⟨rfl,_,_,rfl⟩,trivial⟩,.inl rfl,trivial⟩,trivial⟩
   rintro - hF
   exact hF.elim
  | false =>
  have hpos:=hpos rfl
  have hcap:=h2.cap
  simp only at hcap
  conv=>whnf
  refine CutL.by (fun _:Unit=>⟨[(1,.ptr 0 0),(2,.ptr 1 0),(6,.ptr 2 0),(27,.tr (threadsT p.threads)),(28,.tr (ti ((p.threads.map Thread.cells).length:Nat))),(29,.tr (ti (i:Nat))),(9,.ptr 5 0)],[(0,.cells 25 [.tr (declsT p.shared),.tr (declsT p.locks),.tr (threadsT p.threads)]),(1,.cells 29 [nilA,nilA,nilA]),(2,.cells 29 [.tr (declsT p.shared),.tr (declsT p.locks),.sl 3 (gs).length]),(3,.vec 50 4 56 ((gs).map Gr.cells)),(5,stB C ((⟨sl2,n2,o2,false⟩:LowS)) 6 7),(6,ndsB ((⟨sl2,n2,o2,false⟩:LowS)).nodes),(7,opsH 5 ((⟨sl2,n2,o2,false⟩:LowS)).opens)],20⟩) (fun _=>True) ?_ ?_
  ·conv=>whnf
   exact ⟨(),[0,1,2,3,4,5,6,7],[],Sub.mk' rfl ⟨⟨rfl,rfl⟩,⟨rfl,rfl⟩,⟨rfl,rfl⟩,.inl rfl,.inl rfl,.inl rfl,⟨rfl,rfl⟩,trivial⟩ ⟨⟨rfl,.inl rfl,.inl rfl,.inl rfl,trivial⟩,⟨rfl,.inl rfl,.inl rfl,.inl rfl,trivial⟩,⟨rfl,.inl rfl,.inl rfl,⟨rfl,rfl⟩,trivial⟩,⟨rfl,rfl,rfl,rfl⟩,⟨rfl,.inl rfl,.inl rfl,.inl rfl,.inl rfl,.inl rfl,.inl rfl,.inl rfl,⟨rfl,rfl⟩,⟨rfl,rfl⟩,.inl rfl,trivial⟩,⟨rfl,rfl,rfl,rfl⟩,⟨rfl,rfl,rfl,rfl⟩,trivial⟩ rfl rfl,trivial⟩
  rintro - - -
  have hz:IntKind.i64.wrap ((n2.length:Int) - 1)=((n2.length - 1:Nat):Int):=by
   rw [w64 (by omega) (by omega)]; omega
  obtain ⟨nl,hnl⟩ : ∃ nl,n2[n2.length - 1]? = some nl:=⟨_,List.getElem?_eq_getElem (by omega)⟩
  have hzl:zeroLast n2=n2.set (n2.length - 1) { nl with next:=0 }:=by unfold zeroLast; rw [hnl]
  conv=>whnf
  refine CutL.by (fun _:Unit=>⟨[(1,.ptr 0 0),(2,.ptr 1 0),(6,.ptr 2 0),(27,.tr (threadsT p.threads)),(28,.tr (ti ((p.threads.map Thread.cells).length:Nat))),(29,.tr (ti (i:Nat))),(9,.ptr 5 0)],[(0,.cells 25 [.tr (declsT p.shared),.tr (declsT p.locks),.tr (threadsT p.threads)]),(1,.cells 29 [nilA,nilA,nilA]),(2,.cells 29 [.tr (declsT p.shared),.tr (declsT p.locks),.sl 3 (gs).length]),(3,.vec 50 4 56 ((gs).map Gr.cells)),(5,lwT C ⟨sl2,n2,o2,false⟩ (zeroLast n2) 7),(7,opsH 5 o2)],20⟩) (fun _=>True) ?_ ?_
  ·conv=>whnf
   rw [hz]
   refine ⟨rfl,(show (0:Int)≤((n2.length - 1:Nat):Int) by omega),(show ((n2.length - 1:Nat):Int)<(n2.length:Int) by omega),?_⟩
   conv=>whnf
   refine ⟨rfl,rfl,(by show n2.length - 1<(n2.map Nd.cells).length; rw [List.length_map]; omega),fun row hrow => ?_⟩
   obtain ⟨d,hd,rfl⟩:=nd_get hrow
   have hdn:nl=d:=Option.some.inj (hnl.symm.trans hd)
   subst hdn
   clear hrow hd
   refine ⟨(show 10+1≤13 by decide),?_⟩
   conv=>whnf
   refine ⟨by kernel_rfl,fun _ => ?_⟩
   conv=>whnf
   exact ⟨(),[0,1,2,3,4,5,1000000,7],[],Sub.mk' rfl ⟨⟨rfl,rfl⟩,⟨rfl,rfl⟩,⟨rfl,rfl⟩,.inl rfl,.inl rfl,.inl rfl,⟨rfl,rfl⟩,trivial⟩ ⟨⟨rfl,.inl rfl,.inl rfl,.inl rfl,trivial⟩,⟨rfl,.inl rfl,.inl rfl,.inl rfl,trivial⟩,⟨rfl,.inl rfl,.inl rfl,⟨rfl,rfl⟩,trivial⟩,⟨rfl,rfl,rfl,rfl⟩,⟨rfl,.inl rfl,.inl rfl,.inl rfl,.inl rfl,.inl rfl,.inl rfl,.inl rfl,⟨rfl,(by show n2.length≤((n2.map Nd.cells).set _ _).length; rw [List.length_set,List.length_map]; exact Nat.le_refl _),(by rw [hzl]; show Tr.lst 13 96 _=Tr.lst 13 96 (List.take _ ((n2.map Nd.cells).set _ _)); rw [List.take_of_length_le (by rw [List.length_set,List.length_map]; exact Nat.le_refl _),List.map_set]; rfl)⟩,⟨rfl,rfl⟩,.inl rfl,trivial⟩,⟨rfl,rfl,rfl,rfl⟩,trivial⟩ rfl rfl,trivial⟩
  rintro - - -
  obtain ⟨G,hG⟩ : ∃ G,G=grS C ⟨sl2,n2,o2,false⟩:=⟨_,rfl⟩
  have hGc:G.cells=[ts C.name,ti C.loc,ti sl2,nodesT (zeroLast n2)]:=by rw [hG]; rfl
  replace hQ2:Q=contG (gs++[G]) (lowTs p (i+1) (p.threads.drop (i+1))):=by
   rw [hQ2,hG]
   cases lowTs p (i+1) (p.threads.drop (i+1)) with
   | none=>rfl
   | some l=>show some (gs++(grS C _::l))=some ((gs++[grS C _])++l); rw [List.append_assoc]; rfl
  have hda:(gs.map Gr.cells).take gs.length++[[ts C.name,ti C.loc,ti sl2,nodesT (zeroLast n2)]]=(gs++[G]).map Gr.cells:=by
   rw [List.take_of_length_le (by rw [List.length_map]; exact Nat.le_refl _),List.map_append,← hGc]; rfl
  have hglen:gs.length+1=(gs++[G]).length:=by rw [List.length_append]; rfl
  conv=>whnf
  refine ⟨rfl,rfl,rfl,(by rw [List.length_map]; exact Nat.le_refl _),(show (gs.length+1)*56≤150000000000000 by omega),fun q hq => ?_,?_⟩
  ·cases hq with
   | head=>exact Nat.ne_of_beq_eq_false rfl
   | tail _ h =>
    first
    | (cases h; done)
    | (cases h with
     | head=>exact Nat.ne_of_beq_eq_false rfl
     | tail _ h=>cases h)
  conv=>whnf
  refine ⟨by kernel_rfl,fun _ => ?_⟩
  conv=>whnf
  exact ⟨(i+1,gs++[G]),[0,1,2,_],[],Sub.mk' rfl ⟨⟨rfl,rfl⟩,⟨rfl,rfl⟩,⟨rfl,rfl⟩,.inl rfl,.inl rfl,.inl (ti_succ hit hl3),trivial⟩ ⟨⟨rfl,.inl rfl,.inl rfl,.inl rfl,trivial⟩,⟨rfl,.inl rfl,.inl rfl,.inl rfl,trivial⟩,⟨rfl,.inl rfl,.inl rfl,⟨rfl,hglen⟩,trivial⟩,⟨rfl,rfl,rfl,hda⟩,trivial⟩ rfl rfl,⟨hit,hQ2,by show (gs++[G]).length=i+1; omega⟩,by show p.threads.length - (i+1)<p.threads.length - i; omega⟩
 replace hit:i=p.threads.length:=by have:decide ((i:Int)<((p.threads.map Thread.cells).length:Int))=false:=hit; have:=of_decide_eq_false this; omega
 subst hit
 rw [List.drop_length] at hQ
 replace hQ:Q=some gs:=by rw [hQ]; show some (gs++[])=some gs; rw [List.append_nil]
 replace hU:R=(⟨p.shared,p.locks,gs⟩,0):=by rw [hU,hQ]; rfl
 subst hU
 conv=>whnf
 refine ⟨fun _ => ?_,fun h=>absurd rfl h⟩
 conv=>whnf
 exact ⟨⟨⟨.inl rfl,.inl rfl,⟨rfl,(by rw [List.length_map]; exact Nat.le_refl _),(by show Tr.lst 4 56 _=Tr.lst 4 56 (List.take _ _); rw [List.take_of_length_le (by rw [List.length_map]; exact Nat.le_refl _)])⟩,trivial⟩,.inl rfl,trivial⟩,trivial⟩
end Go.Proofs.YthboippafkcoiaaGreatDoor.am
namespace Go.Proofs.YthboippafkcoiaaGreatDoor.am
open Go Go.Proofs
set_option linter.all false
theorem least_pos : ∀ (l:List Int) (a:Int),0<a→0<leastW l a
 | [],a,h=>h
 | r::l,a,h=>by
  show 0<leastW l (bif decide (r > 0) && ((a == 0) || decide (r<a)) then r else a)
  refine least_pos l _ ?_
  cases hr:decide (r > 0) with
  | false=>exact h
  | true =>
   have:=of_decide_eq_true hr
   rw [Bool.true_and]
   cases ((a == 0) || decide (r<a)) with
   | true=>exact this
   | false=>exact h
theorem least_none : ∀ (l:List Int),decide (leastW l 0 > 0)=false → ∀ r ∈ l,r≤0
 | [],_,r,hr=>by cases hr
 | q::l,h,r,hr=>by
  have h:decide (leastW l (bif decide (q > 0) && (((0:Int) == 0) || decide (q<0)) then q else 0) > 0)=false:=h
  cases hq:decide (q > 0) with
  | true =>
   rw [hq] at h
   have h2:=of_decide_eq_false h
   exact absurd (least_pos l q (of_decide_eq_true hq)) h2
  | false =>
   rw [hq] at h
   rcases List.mem_cons.1 hr with rfl | hr
   ·have:=of_decide_eq_false hq; omega
   ·exact least_none l h r hr
theorem when_no {k:Int} {b:Bool} (hk:0<k) (h:whenI k b≤0):b=false:=by
 unfold whenI at h
 cases b with
 | false=>rfl
 | true=>rw [cond_true] at h; omega
theorem parts_wf {kind op word:Int} {name:ByteArray} {kids:List Expr} {at_:Int} (h:partsB (.mk kind op word name kids at_)=true):(kind == 1 || kind == 2 || (bif two op then decide (2≤kids.length) else decide (1≤kids.length)))=true∧(kind=1∨kind=2∨kind=3∨kind=4)∧(kind=3→two op=false)∧(kind=4→two op=true):=by
 unfold partsB at h
 dsimp only at h
 cases h1:(kind == 1) with
 | true =>
  have:=eq_of_beq h1
  exact ⟨rfl,.inl this,fun e=>by omega,fun e=>by omega⟩
 | false =>
 rw [h1,cond_false] at h
 cases h2:(kind == 2) with
 | true =>
  have:=eq_of_beq h2
  exact ⟨rfl,.inr (.inl this),fun e=>by omega,fun e=>by omega⟩
 | false =>
 rw [h2,cond_false] at h
 cases h3:(kind == 3) with
 | true =>
  rw [h3,cond_true] at h
  simp only [Bool.and_eq_true,beq_iff_eq,Bool.or_eq_true] at h
  have e3:=eq_of_beq h3
  have hl:=h.1.2
  rw [erows_len] at hl
  have ht:two op=false:=by
   rcases h.2 with rfl | rfl <;> rfl
  refine ⟨?_,.inr (.inr (.inl e3)),fun _=>ht,fun e=>by omega⟩
  rw [ht]
  simp only [Bool.false_or,cond_false,decide_eq_true_eq]
  omega
 | false =>
 rw [h3,cond_false] at h
 cases h4:(kind == 4) with
 | false=>rw [h4] at h; cases h
 | true =>
  rw [h4,cond_true] at h
  simp only [Bool.and_eq_true,beq_iff_eq] at h
  have e4:=eq_of_beq h4
  have hl:=h.1.2
  rw [erows_len] at hl
  refine ⟨?_,.inr (.inr (.inr e4)),fun e=>by omega,fun _=>h.2⟩
  rw [h.2]
  simp only [Bool.false_or,cond_true,decide_eq_true_eq]
  omega
mutual
def fitE:Expr→Bool
 | .mk kind op _ _ kids _=>(kind == 1 || kind == 2 || (kind == 3 && !two op) || (kind == 4 && two op)) && fitEs kids
def fitEs:List Expr→Bool
 | []=>true
 | e::l=>fitE e && fitEs l
end
mutual
theorem exprW_wf (top locals:MI) : ∀ (e:Expr) (deep:Int),exprW top locals e deep=none→wfE e=true∧fitE e=true
 | .mk kind op word name kids at_,deep,h=>by
  have hk:=exprsW_wf top locals kids (deep+1)
  unfold exprW at h
  cases hb:decide (leastW (exprRules top locals kind op word name kids at_ deep) 0 > 0) with
  | true=>rw [hb] at h; cases h
  | false =>
   rw [hb,cond_false] at h
   have hp:=when_no (by decide) (least_none _ hb (whenI 4 (!partsB (.mk kind op word name kids at_))) (by unfold exprRules; simp))
   rw [Bool.not_eq_false'] at hp
   obtain ⟨p1,p2,p3,p4⟩:=parts_wf hp
   obtain ⟨k1,k2⟩:=hk h
   refine ⟨by unfold wfE; rw [p1,k1]; rfl,?_⟩
   unfold fitE
   rw [k2,Bool.and_true]
   rcases p2 with rfl | rfl | rfl | rfl
   ·rfl
   ·rfl
   ·rw [p3 rfl]; rfl
   ·rw [p4 rfl]; rfl
theorem exprsW_wf (top locals:MI) : ∀ (l:List Expr) (deep:Int),exprsW top locals l deep=none→wfEs l=true∧fitEs l=true
 | [],_,_=>⟨by unfold wfEs; rfl,by unfold fitEs; rfl⟩
 | e::l,deep,h=>by
  unfold exprsW at h
  cases he:exprW top locals e deep with
  | some f=>rw [he] at h; cases h
  | none =>
   rw [he] at h
   obtain ⟨a1,a2⟩:=exprW_wf top locals e deep he
   obtain ⟨b1,b2⟩:=exprsW_wf top locals l deep h
   exact ⟨by unfold wfEs; rw [a1,b1]; rfl,by unfold fitEs; rw [a2,b2]; rfl⟩
end
theorem fields_wf {kind:Int} {name other:ByteArray} {e:List Expr} {body els:List Stmt} {at_:Int} (h:fieldsB (.mk kind name other e body els at_)=true):(decide (1≤kind) && decide (kind≤7))=true∧(kind == 5 || kind == 7 || decide (1≤e.length))=true∧(kind=1∨kind=2∨kind=6∨kind=7→body=[]∧els=[])∧(kind=4∨kind=5→els=[])∧(kind=5∨kind=7→e=[])∧e.length≤1:=by
 have nil : ∀ l:List Stmt,(!decide (((Stmt.rows l).length:Int) > 0))=true→l=[]:=fun l q=>by
  rw [Bool.not_eq_true'] at q
  have:=of_decide_eq_false q
  rw [srows_len] at this
  exact List.eq_nil_of_length_eq_zero (by omega)
 have one:(((Expr.rows e).length:Int) == 1)=true→e.length=1:=fun q=>by
  have:=eq_of_beq q
  rw [erows_len] at this
  omega
 have zer:(((Expr.rows e).length:Int) == 0)=true→e=[]:=fun q=>by
  have:=eq_of_beq q
  rw [erows_len] at this
  exact List.eq_nil_of_length_eq_zero (by omega)
 unfold fieldsB at h
 dsimp only at h
 cases h1:(kind == 1) with
 | true =>
  rw [h1,cond_true] at h
  obtain rfl:=eq_of_beq h1
  simp only [Bool.and_eq_true] at h
  have l1:=one h.1.1.2
  exact ⟨rfl,by rw [l1]; rfl,fun _=>⟨nil _ h.1.2,nil _ h.2⟩,fun q=>by omega,fun q=>by omega,by omega⟩
 | false =>
 rw [h1,cond_false] at h
 cases h2:(kind == 2) with
 | true =>
  rw [h2,cond_true] at h
  obtain rfl:=eq_of_beq h2
  simp only [Bool.and_eq_true] at h
  have l1:=one h.1.1
  exact ⟨rfl,by rw [l1]; rfl,fun _=>⟨nil _ h.1.2,nil _ h.2⟩,fun q=>by omega,fun q=>by omega,by omega⟩
 | false =>
 rw [h2,cond_false] at h
 cases h3:(kind == 3) with
 | true =>
  rw [h3,cond_true] at h
  obtain rfl:=eq_of_beq h3
  simp only [Bool.and_eq_true] at h
  have l1:=one h.2
  exact ⟨rfl,by rw [l1]; rfl,fun q=>by omega,fun q=>by omega,fun q=>by omega,by omega⟩
 | false =>
 rw [h3,cond_false] at h
 cases h4:(kind == 4) with
 | true =>
  rw [h4,cond_true] at h
  obtain rfl:=eq_of_beq h4
  simp only [Bool.and_eq_true] at h
  have l1:=one h.1.2
  exact ⟨rfl,by rw [l1]; rfl,fun q=>by omega,fun _=>nil _ h.2,fun q=>by omega,by omega⟩
 | false =>
 rw [h4,cond_false] at h
 cases h5:(kind == 5) with
 | true =>
  rw [h5,cond_true] at h
  obtain rfl:=eq_of_beq h5
  simp only [Bool.and_eq_true] at h
  have l0:=zer h.1.2
  exact ⟨rfl,rfl,fun q=>by omega,fun _=>nil _ h.2,fun _=>l0,by rw [l0]; exact Nat.zero_le _⟩
 | false =>
 rw [h5,cond_false] at h
 cases h6:(kind == 6) with
 | true =>
  rw [h6,cond_true] at h
  obtain rfl:=eq_of_beq h6
  simp only [Bool.and_eq_true] at h
  have l1:=one h.1.1.2
  exact ⟨rfl,by rw [l1]; rfl,fun _=>⟨nil _ h.1.2,nil _ h.2⟩,fun q=>by omega,fun q=>by omega,by omega⟩
 | false =>
 rw [h6,cond_false] at h
 cases h7:(kind == 7) with
 | false=>rw [h7] at h; cases h
 | true =>
  rw [h7,cond_true] at h
  obtain rfl:=eq_of_beq h7
  simp only [Bool.and_eq_true] at h
  have l0:=zer h.1.1.2
  exact ⟨rfl,rfl,fun _=>⟨nil _ h.1.2,nil _ h.2⟩,fun q=>by omega,fun _=>l0,by rw [l0]; exact Nat.zero_le _⟩
mutual
def fitS:Stmt→Bool
 | .mk _ _ _ e body els _=>fitEs e && (fitSs body && fitSs els)
def fitSs:List Stmt→Bool
 | []=>true
 | x::r=>fitS x && fitSs r
end
mutual
theorem stmtW_wf (top locals:MI) : ∀ (x:Stmt) (deep:Int),stmtW top locals x deep=none→wfS x=true∧fitS x=true
 | .mk kind name other e body els at_,deep,h=>by
  have hb1:=blockW_wf top locals body (deep+1)
  have hb2:=blockW_wf top locals els (deep+1)
  unfold stmtW at h
  cases hb:decide (leastW (stmtRules top locals kind name other e body els at_ deep) 0 > 0) with
  | true=>rw [hb] at h; cases h
  | false =>
   rw [hb,cond_false] at h
   have hp:=when_no (by decide) (least_none _ hb (whenI 4 (!fieldsB (.mk kind name other e body els at_))) (by unfold stmtRules; cases kind == 1 <;> cases kind == 2 <;> cases kind == 5 <;> simp))
   rw [Bool.not_eq_false'] at hp
   obtain ⟨f1,f2,_⟩:=fields_wf hp
   cases he:exprsW top locals e 1 with
   | some f=>rw [he] at h; cases h
   | none =>
    rw [he] at h
    cases hbd:blockW top locals body (deep+1) with
    | some f=>simp only [hbd] at h; cases h
    | none =>
     simp only [hbd] at h
     obtain ⟨e1,e2⟩:=exprsW_wf top locals e 1 he
     obtain ⟨b1,b2⟩:=hb1 hbd
     obtain ⟨c1,c2⟩:=hb2 h
     exact ⟨by unfold wfS; rw [f1,f2,e1,b1,c1]; rfl,by unfold fitS; rw [e2,b2,c2]; rfl⟩
theorem blockW_wf (top locals:MI) : ∀ (l:List Stmt) (deep:Int),blockW top locals l deep=none→wfSs l=true∧fitSs l=true
 | [],_,_=>⟨by unfold wfSs; rfl,by unfold fitSs; rfl⟩
 | x::r,deep,h=>by
  unfold blockW at h
  cases hx:stmtW top locals x deep with
  | some f=>rw [hx] at h; cases h
  | none =>
   rw [hx] at h
   obtain ⟨a1,a2⟩:=stmtW_wf top locals x deep hx
   obtain ⟨b1,b2⟩:=blockW_wf top locals r deep h
   exact ⟨by unfold wfSs; rw [a1,b1]; rfl,by unfold fitSs; rw [a2,b2]; rfl⟩
end
theorem thsW_wf (p:Prg) (top:MI) : ∀ (l:List Thread) (i:Nat) (m:MI),thsW p top l i m=none → ∀ th ∈ l,threadW p top th=none
 | [],_,_,_,th,h=>by cases h
 | t::r,i,m,h,th,hm=>by
  unfold thsW at h
  cases hb:decide (leastW (thRules m i t) 0 > 0) with
  | true=>rw [hb] at h; cases h
  | false =>
   rw [hb,cond_false] at h
   cases ht:threadW p top t with
   | some f=>rw [ht] at h; cases h
   | none =>
    rw [ht] at h
    rcases List.mem_cons.1 hm with rfl | hm
    ·exact ht
    ·exact thsW_wf p top r _ _ h th hm
theorem check_wf {p:Prg} (h:(checkW p).1=0) : ∀ th ∈ p.threads,wfSs th.body=true∧fitSs th.body=true:=by
 intro th hth
 unfold checkW at h
 cases hf:firstW p with
 | some f=>rw [hf] at h; exact absurd (show (50:Int)=0 from h) (by decide)
 | none =>
  unfold firstW at hf
  split at hf
  ·cases hf
  ·split at hf
   ·cases hf
   ·have:=thsW_wf p _ _ _ _ hf th hth
    unfold threadW at this
    split at this
    ·cases this
    ·exact blockW_wf _ _ _ _ this
end Go.Proofs.YthboippafkcoiaaGreatDoor.am
namespace Go.Proofs.YthboippafkcoiaaGreatDoor.am
open Go Go.Proofs
set_option linter.all false
def encI (o:Bool × Nat):Int:=match o.1 with
 | true => -(o.2:Int) - 1
 | false=>(o.2:Int)
def encR (o:Bool × Nat):List Tr:=[ti (encI o)]
abbrev rwB (c:LowC) (sl:Int) (N M:Nat) (ov:Bool) (hn ho:Nat):Blk := .cells 96 [.tr (declsT c.p.shared),.tr (declsT c.p.locks),.tr (threadsT c.p.threads),.tr (ti (c.t:Nat)),.tr (ts c.name),.tr (ti c.loc),.tr (ti sl),.sl hn N,.sl ho M,.tr (tb ov)]
abbrev endB (l:List (Bool × Nat)):Blk := .vec 3 1 8 (l.map encR)
abbrev sR (c:LowC) (s:LowS) (hn ho:Nat):Blk:=rwB c s.slots s.nodes.length s.opens.length s.over hn ho
abbrev stIR (c:LowC) (s:LowS):List Blk:=[sR c s 1 2,ndsB s.nodes,endB s.opens]
abbrev stOR (c:LowC) (s:LowS):List (Option Blk):=[some (sR c s 3 4),none,none,some (ndsB s.nodes),some (endB s.opens)]
theorem enc_get {l:List (Bool × Nat)} {i:Nat} {row:List Tr} (h:(l.map encR)[i]? = some row) : ∃ d,l[i]? = some d∧row=encR d:=by
 rw [List.getElem?_map,Option.map_eq_some_iff] at h
 obtain ⟨d,h1,rfl⟩:=h
 exact ⟨d,h1,rfl⟩
set_option maxRecDepth 100000 in
theorem k_slotR (c:LowC) (s:LowS):K 143 [.ptr 0 0] (stIR c s) (.ret (.tr (ti (slotI s)))) [some (sR c (slotS s) 1 2),some (ndsB s.nodes),some (endB s.opens)]:=by
 refine Ctr.of hT hmix Tryz.func143 rfl (fun _ _=>by kernel_rfl) rfl fun hok => ?_
 clear hok
 conv=>whnf
 exact ⟨.inl rfl,⟨rfl,.inl rfl,.inl rfl,.inl rfl,.inl rfl,.inl rfl,.inl rfl,.inl rfl,⟨rfl,rfl⟩,⟨rfl,rfl⟩,.inl rfl,trivial⟩,⟨rfl,rfl,rfl,rfl⟩,⟨rfl,rfl,rfl,rfl⟩,trivial⟩
set_option maxRecDepth 100000 in
set_option maxHeartbeats 2000000 in
theorem k_fillR (c:LowC) (sl:Int) (ov:Bool) (to_:Int) (L:List Nd) (os:List (Bool × Nat)) (hop : ∀ o ∈ os,o.2<L.length) (hM:os.length≤1000000) (hN:L.length≤1000000):K 95 [.ptr 0 0,.sl 2 os.length,.tr (ti to_)] [rwB c sl L.length os.length ov 1 2,ndsB L,endB os] (.ret (.tup [])) [some (rwB c sl L.length os.length ov 1 2),some (ndsB (leadN to_ os L)),some (endB os)]:=by
 refine Ctr.of hT hmix Tryz.func95 rfl (fun _ _=>by kernel_rfl) rfl fun hok => ?_
 clear hok
 conv=>whnf
 refine LoopL.by (fun i:Nat=>⟨[(0,.ptr 0 0),(1,.sl 2 os.length),(2,.tr (ti to_)),(6,.tr (ti (i:Nat)))],[(0,rwB c sl L.length os.length ov 1 2),(1,ndsB (leadN to_ (os.take i) L)),(2,endB os)],20⟩) (fun i=>i≤os.length) (fun i=>os.length - i) 0 [0,1,2] []
  (Sub.mk' rfl ⟨⟨rfl,rfl⟩,⟨rfl,rfl⟩,.inl rfl,.inl rfl,trivial⟩ ⟨⟨rfl,.inl rfl,.inl rfl,.inl rfl,.inl rfl,.inl rfl,.inl rfl,.inl rfl,⟨rfl,rfl⟩,⟨rfl,rfl⟩,.inl rfl,trivial⟩,⟨rfl,rfl,rfl,rfl⟩,⟨rfl,rfl,rfl,rfl⟩,trivial⟩ rfl rfl) (Nat.zero_le _) ?_
 rintro i hi -
 conv=>whnf
 refine csplit (fun hit => ?_) (fun hit => ?_)
 ·replace hit:i<os.length:=by have:decide ((i:Int)<(os.length:Int))=true:=hit; have:=of_decide_eq_true this; omega
  obtain ⟨o,ho⟩ : ∃ o,os[i]? = some o:=⟨_,List.getElem?_eq_getElem hit⟩
  have hol:=hop o (List.mem_of_getElem? ho)
  have hLl:=leadN_len to_ (os.take i) L
  have hnx:leadN to_ (os.take (i+1)) L=fillN to_ (leadN to_ (os.take i) L) o:=by rw [take_snoc ho,leadN_snoc]
  generalize leadN to_ (os.take i) L=L1 at hLl hnx
  rw [← hLl]
  obtain ⟨b,k⟩:=o
  simp only at hol
  obtain ⟨n,hn⟩ : ∃ n,L1[k]? = some n:=⟨_,List.getElem?_eq_getElem (by omega)⟩
  conv=>whnf
  refine ⟨rfl,(show (0:Int)≤i by omega),(show (i:Int)<(os.length:Int) by omega),?_⟩
  conv=>whnf
  refine ⟨rfl,(by rw [List.length_map,Int.toNat_natCast]; exact hit),fun row hrow => ?_⟩
  obtain ⟨d,hd,rfl⟩:=enc_get hrow
  rw [Int.toNat_natCast] at hd
  have hdo:=Option.some.inj (ho.symm.trans hd)
  subst hdo
  clear hrow hd
  refine ⟨(show 0<1 by decide),fun t ht => ?_⟩
  cases ht
  conv=>whnf
  cases b with
  | true =>
   have hlt:decide (encI (true,k)<0)=true:=decide_eq_true (by show -(k:Int) - 1<0; omega)
   have hz:IntKind.i64.wrap (IntKind.i64.wrap (0 - encI (true,k)) - 1)=(k:Int):=by
    show IntKind.i64.wrap (IntKind.i64.wrap (0 - (-(k:Int) - 1)) - 1)=(k:Int)
    rw [w64 (n:=0 - (-(k:Int) - 1)) (by omega) (by omega),w64 (by omega) (by omega)]
    omega
   have hf:fillN to_ L1 (true,k)=L1.set k { n with els:=to_ }:=by unfold fillN; simp only [hn]; rfl
   rw [hlt]
   conv=>whnf
   refine ⟨rfl,(show (0:Int)≤i by omega),(show (i:Int)<(os.length:Int) by omega),?_⟩
   conv=>whnf
   refine ⟨rfl,(by rw [List.length_map,Int.toNat_natCast]; exact hit),fun row hrow => ?_⟩
   obtain ⟨d,hd,rfl⟩:=enc_get hrow
   rw [Int.toNat_natCast] at hd
   have hdo:=Option.some.inj (ho.symm.trans hd)
   subst hdo
   clear hrow hd
   refine ⟨(show 0<1 by decide),fun t ht => ?_⟩
   cases ht
   conv=>whnf
   rw [hz]
   refine ⟨rfl,(show (0:Int)≤k by omega),(show (k:Int)<(L1.length:Int) by omega),?_⟩
   conv=>whnf
   refine ⟨rfl,rfl,(by show k<(L1.map Nd.cells).length; rw [List.length_map]; omega),fun row hrow => ?_⟩
   obtain ⟨d,hd,rfl⟩:=nd_get hrow
   have hdn:n=d:=Option.some.inj (hn.symm.trans hd)
   subst hdn
   clear hrow hd
   refine ⟨(show 11+1≤13 by decide),?_⟩
   conv=>whnf
   refine ⟨by kernel_rfl,fun _ => ?_⟩
   conv=>whnf
   exact ⟨i+1,[0,1,2],[],Sub.mk' rfl ⟨⟨rfl,rfl⟩,⟨rfl,rfl⟩,.inl rfl,.inl (ti_succ hit (by omega)),trivial⟩ ⟨⟨rfl,.inl rfl,.inl rfl,.inl rfl,.inl rfl,.inl rfl,.inl rfl,.inl rfl,⟨rfl,rfl⟩,⟨rfl,rfl⟩,.inl rfl,trivial⟩,⟨rfl,rfl,rfl,by rw [hnx,hf,List.map_set]; rfl⟩,⟨rfl,rfl,rfl,rfl⟩,trivial⟩ rfl rfl,hit,by show os.length - (i+1)<os.length - i; omega⟩
  | false =>
   have hlt:decide (encI (false,k)<0)=false:=decide_eq_false (by show ¬ (k:Int)<0; omega)
   have hf:fillN to_ L1 (false,k)=L1.set k { n with next:=to_ }:=by unfold fillN; simp only [hn]; rfl
   rw [hlt]
   conv=>whnf
   refine ⟨rfl,(show (0:Int)≤i by omega),(show (i:Int)<(os.length:Int) by omega),?_⟩
   conv=>whnf
   refine ⟨rfl,(by rw [List.length_map,Int.toNat_natCast]; exact hit),fun row hrow => ?_⟩
   obtain ⟨d,hd,rfl⟩:=enc_get hrow
   rw [Int.toNat_natCast] at hd
   have hdo:=Option.some.inj (ho.symm.trans hd)
   subst hdo
   clear hrow hd
   refine ⟨(show 0<1 by decide),fun t ht => ?_⟩
   cases ht
   conv=>whnf
   refine ⟨rfl,(show (0:Int)≤k by omega),(show (k:Int)<(L1.length:Int) by omega),?_⟩
   conv=>whnf
   refine ⟨rfl,rfl,(by show k<(L1.map Nd.cells).length; rw [List.length_map]; omega),fun row hrow => ?_⟩
   obtain ⟨d,hd,rfl⟩:=nd_get hrow
   have hdn:n=d:=Option.some.inj (hn.symm.trans hd)
   subst hdn
   clear hrow hd
   refine ⟨(show 10+1≤13 by decide),?_⟩
   conv=>whnf
   refine ⟨by kernel_rfl,fun _ => ?_⟩
   conv=>whnf
   exact ⟨i+1,[0,1,2],[],Sub.mk' rfl ⟨⟨rfl,rfl⟩,⟨rfl,rfl⟩,.inl rfl,.inl (ti_succ hit (by omega)),trivial⟩ ⟨⟨rfl,.inl rfl,.inl rfl,.inl rfl,.inl rfl,.inl rfl,.inl rfl,.inl rfl,⟨rfl,rfl⟩,⟨rfl,rfl⟩,.inl rfl,trivial⟩,⟨rfl,rfl,rfl,by rw [hnx,hf,List.map_set]; rfl⟩,⟨rfl,rfl,rfl,rfl⟩,trivial⟩ rfl rfl,hit,by show os.length - (i+1)<os.length - i; omega⟩
 replace hit:i=os.length:=by have:decide ((i:Int)<(os.length:Int))=false:=hit; have:=of_decide_eq_false this; omega
 subst hit
 rw [List.take_length]
 conv=>whnf
 refine ⟨fun _ => ?_,fun h=>absurd rfl h⟩
 conv=>whnf
 exact ⟨trivial,⟨rfl,.inl rfl,.inl rfl,.inl rfl,.inl rfl,.inl rfl,.inl rfl,.inl rfl,⟨rfl,rfl⟩,⟨rfl,rfl⟩,.inl rfl,trivial⟩,⟨rfl,rfl,rfl,rfl⟩,⟨rfl,rfl,rfl,rfl⟩,trivial⟩
set_option maxRecDepth 100000 in
set_option maxHeartbeats 1000000 in
theorem k_putR (c:LowC) (n:Nd) (s:LowS) (h:OkA s):K 45 [.ptr 0 0,n.av] (stIR c s) (.ret (.tr (ti (putI s)))) (stOR c (putS n s)):=by
 have hP:putS n s=bif decide ((s.nodes.length:Int) ≥ 4096) then { s with over:=true } else { s with nodes:=leadN s.nodes.length s.opens s.nodes++[{ n with origin:=s.nodes.length }],opens:=[(false,s.nodes.length)] }:=rfl
 have hI:putI s=bif decide ((s.nodes.length:Int) ≥ 4096) then (0:Int) else ((s.nodes.length:Nat):Int):=rfl
 have hld:=k_fillR c s.slots s.over s.nodes.length s.nodes s.opens h.inn h.ok.few (by have:=h.cap; omega)
 have hLl:=leadN_len s.nodes.length s.opens s.nodes
 generalize putS n s=S at hP ⊢
 generalize putI s=R at hI ⊢
 obtain ⟨sl,L,os,ov⟩:=s
 simp only at hP hI hld hLl
 generalize leadN L.length os L=L1 at hP hld hLl
 refine Ctr.mv [8] [0,3,4] 5 hT hmix Tryz.func45 rfl (fun _ _=>by kernel_rfl) rfl (fun hok => ?_)
 clear hok
 conv=>whnf
 cases e0:decide (((L.length:Nat):Int) ≥ 4096) with
 | true =>
  rw [e0,cond_true] at hP hI
  subst hP hI
  conv=>whnf
  exact ⟨[0,1,2,3,4],rfl,rfl,.inl rfl,⟨rfl,.inl rfl,.inl rfl,.inl rfl,.inl rfl,.inl rfl,.inl rfl,.inl rfl,⟨rfl,rfl⟩,⟨rfl,rfl⟩,.inl rfl,trivial⟩,⟨rfl,rfl,rfl,rfl⟩,⟨rfl,rfl,rfl,rfl⟩,trivial⟩
 | false =>
 rw [e0,cond_false] at hP hI
 subst hP hI
 have hm:=of_decide_eq_false e0
 conv=>whnf
 refine acall.au [0,3,4] [] (hld) ?_
 intro _
 conv=>whnf
 refine CutL.by (fun _:Unit=>⟨[(0,.ptr 0 0),(5,.tr (ti (L.length:Nat)))],[(0,rwB c sl (L.length+1) os.length ov 3 4),(3,ndsB (L1++[{ n with origin:=L.length }])),(4,endB os)],10⟩) (fun _=>True) ?_ ?_
 ·conv=>whnf
  refine ⟨rfl,rfl,rfl,(by rw [List.length_map]; omega),(show (L.length+1)*96≤150000000000000 by omega),fun q hq => ?_,?_⟩
  ·cases hq with
   | head=>exact Nat.ne_of_beq_eq_false rfl
   | tail _ h =>
    first
    | (cases h; done)
    | (cases h with
     | head=>exact Nat.ne_of_beq_eq_false rfl
     | tail _ h=>cases h)
  conv=>whnf
  refine ⟨by kernel_rfl,fun _ => ?_⟩
  conv=>whnf
  have hda:(L1.map Nd.cells).take L.length++[({ n with origin:=L.length }:Nd).cells]=(L1++[{ n with origin:=L.length }]).map Nd.cells:=by
   rw [List.take_of_length_le (by rw [List.length_map]; omega),List.map_append]; rfl
  exact ⟨(),[0,1,2,_,4],[],Sub.mk' rfl ⟨⟨rfl,rfl⟩,.inl rfl,trivial⟩ ⟨⟨rfl,.inl rfl,.inl rfl,.inl rfl,.inl rfl,.inl rfl,.inl rfl,.inl rfl,⟨rfl,rfl⟩,⟨rfl,rfl⟩,.inl rfl,trivial⟩,⟨rfl,rfl,rfl,hda⟩,⟨rfl,rfl,rfl,rfl⟩,trivial⟩ rfl rfl,trivial⟩
 rintro - - -
 conv=>whnf
 have hl2:(L1++[({ n with origin:=(L.length:Nat) }:Nd)]).length=L.length+1:=by rw [List.length_append,hLl]; rfl
 exact ⟨[0,1,2,3,_],rfl,rfl,.inl rfl,⟨rfl,.inl rfl,.inl rfl,.inl rfl,.inl rfl,.inl rfl,.inl rfl,.inl rfl,⟨rfl,hl2.symm⟩,⟨rfl,rfl⟩,.inl rfl,trivial⟩,⟨rfl,rfl,rfl,rfl⟩,⟨rfl,rfl,rfl,rfl⟩,trivial⟩
end Go.Proofs.YthboippafkcoiaaGreatDoor.am
namespace Go.Proofs.YthboippafkcoiaaGreatDoor.am
open Go Go.Proofs
set_option linter.all false
set_option maxRecDepth 100000 in
theorem k_rin (k:Int):K 144 [.tr (ti k)] [] (.ret (vA (inV k))) []:=by
 refine Ctr.of hT hmix Tryz.func144 rfl (fun _ _=>by kernel_rfl) rfl fun hok => ?_
 clear hok
 conv=>whnf
 exact ⟨⟨.inl rfl,.inl rfl,.inl rfl,trivial⟩,trivial⟩
set_option maxRecDepth 100000 in
set_option maxHeartbeats 2000000 in
theorem k_exprR (c:LowC) : ∀ (n:Nat) (e:Expr) (s:LowS),SizeOf.sizeOf e<n→wfE e=true→fitE e=true→OkA s→K 140 [.ptr 0 0,e.av] (stIR c s) (.ret (vA (exprS c e s).2)) (stOR c (exprS c e s).1):=by
 intro n
 induction n with
 | zero=>intro e s h; omega
 | succ n ih =>
 intro e s hsz hwf hfit hS
 obtain ⟨kind,op,word,name,kids,at_⟩:=e
 simp only [Expr.mk.sizeOf_spec] at hsz
 have hloc:=k21 c.p (c.t:Nat) name
 have hsh:=k17 c.p name
 have hE:exprS c (.mk kind op word name kids at_) s=bif kind == 1 then (s,⟨false,0,word⟩)
  else bif kind == 2 then (bif decide (localI c.p c.t name ≥ 0) then (s,inV (localI c.p c.t name))
   else (putS { nd00 with kind:=2,thing:=findI c.p.shared name 0,slot:=slotI s } (slotS s),inV (slotI s)))
  else bif two op then (putS { nd00 with kind:=1,op:=op,a:=(kid0S c kids s).2,b:=(kid1S c kids (kid0S c kids s).1).2,slot:=slotI (kid1S c kids (kid0S c kids s).1).1 } (slotS (kid1S c kids (kid0S c kids s).1).1),inV (slotI (kid1S c kids (kid0S c kids s).1).1))
  else (putS { nd00 with kind:=1,op:=op,a:=(kid0S c kids s).2,slot:=slotI (kid0S c kids s).1 } (slotS (kid0S c kids s).1),inV (slotI (kid0S c kids s).1)):=by rw [exprS]
 generalize exprS c (.mk kind op word name kids at_) s=R at hE ⊢
 unfold wfE at hwf
 rw [Bool.and_eq_true] at hwf
 unfold fitE at hfit
 rw [Bool.and_eq_true] at hfit
 refine Ctr.mv [9,10,11,12,14,16] [0,3,4] 5 hT hmix Tryz.func140 rfl (fun _ _=>by kernel_rfl) rfl (fun hok => ?_)
 clear hok
 conv=>whnf
 refine CutL.by (fun _:Unit=>⟨[(0,.ptr 0 0),(3,.ptr 5 0),(4,.ptr 6 0)],[(0,sR c s 3 4),(3,ndsB s.nodes),(4,endB s.opens),(5,.cells 143 ((Expr.mk kind op word name kids at_).cells.map .tr)),(6,.cells 73 [.tr (tb false),.tr (ti 0),.tr (ti 0)])],20⟩) (fun _=>(kind == 1)=false∧(kind == 2)=false) ?_ ?_
 ·conv=>whnf
  cases h1:(kind == 1) with
  | true =>
   rw [h1,cond_true] at hE
   subst hE
   conv=>whnf
   exact ⟨[0,1,2,3,4],rfl,rfl,⟨.inl rfl,.inl rfl,.inl rfl,trivial⟩,⟨rfl,.inl rfl,.inl rfl,.inl rfl,.inl rfl,.inl rfl,.inl rfl,.inl rfl,⟨rfl,rfl⟩,⟨rfl,rfl⟩,.inl rfl,trivial⟩,⟨rfl,rfl,rfl,rfl⟩,⟨rfl,rfl,rfl,rfl⟩,trivial⟩
  | false =>
  rw [h1,cond_false] at hE
  conv=>whnf
  cases h2:(kind == 2) with
  | true =>
   rw [h2,cond_true] at hE
   generalize localI c.p (c.t:Nat) name=LI at hloc hE
   generalize findI c.p.shared name 0=FI at hsh hE
   conv=>whnf
   refine acall.pure _ (hloc) rfl rfl ?_
   conv=>whnf
   refine ⟨by kernel_rfl,fun _ => ?_⟩
   conv=>whnf
   cases h3:decide (LI ≥ 0) with
   | true =>
    rw [h3,cond_true] at hE
    subst hE
    conv=>whnf
    refine acall.pure _ (k_rin LI) rfl rfl fun _ => ?_
    conv=>whnf
    exact ⟨[0,1,2,3,4],rfl,rfl,⟨.inl rfl,.inl rfl,.inl rfl,trivial⟩,⟨rfl,.inl rfl,.inl rfl,.inl rfl,.inl rfl,.inl rfl,.inl rfl,.inl rfl,⟨rfl,rfl⟩,⟨rfl,rfl⟩,.inl rfl,trivial⟩,⟨rfl,rfl,rfl,rfl⟩,⟨rfl,rfl,rfl,rfl⟩,trivial⟩
   | false =>
   rw [h3,cond_false] at hE
   subst hE
   conv=>whnf
   refine CutL.by (fun _:Unit=>⟨[(0,.ptr 0 0),(3,.ptr 5 0),(4,.ptr 6 0),(6,.tr (ti (slotI s)))],[(0,sR c (slotS s) 3 4),(3,ndsB (slotS s).nodes),(4,endB (slotS s).opens),(5,.cells 143 ((Expr.mk kind op word name kids at_).cells.map .tr)),(6,.cells 73 [.tr (tb false),.tr (ti 0),.tr (ti 0)])],20⟩) (fun _=>True) ?_ ?_
   ·conv=>whnf
    refine acall.au [0,3,4] [] (k_slotR c s) ?_
    intro _
    conv=>whnf
    exact ⟨(),[0,1,2,3,4,5,6],[],Sub.mk' rfl ⟨⟨rfl,rfl⟩,⟨rfl,rfl⟩,⟨rfl,rfl⟩,.inl rfl,trivial⟩ ⟨⟨rfl,.inl rfl,.inl rfl,.inl rfl,.inl rfl,.inl rfl,.inl rfl,.inl rfl,⟨rfl,rfl⟩,⟨rfl,rfl⟩,.inl rfl,trivial⟩,⟨rfl,rfl,rfl,rfl⟩,⟨rfl,rfl,rfl,rfl⟩,⟨rfl,.inl rfl,.inl rfl,.inl rfl,.inl rfl,.inl rfl,.inl rfl,trivial⟩,⟨rfl,.inl rfl,.inl rfl,.inl rfl,trivial⟩,trivial⟩ rfl rfl,trivial⟩
   rintro - - -
   have hp:=k_putR c { nd00 with kind:=2,thing:=FI,slot:=slotI s } (slotS s) (hS.relE (slotS_rel s))
   generalize putS { nd00 with kind:=2,thing:=FI,slot:=slotI s } (slotS s)=S2 at hp ⊢
   conv=>whnf
   refine CutL.by (fun _:Unit=>⟨[(0,.ptr 0 0),(3,.ptr 5 0),(4,.ptr 6 0),(6,.tr (ti (slotI s)))],[(0,sR c (S2) 3 4),(3,ndsB (S2).nodes),(4,endB (S2).opens),(5,.cells 143 ((Expr.mk kind op word name kids at_).cells.map .tr)),(6,.cells 73 [.tr (tb false),.tr (ti 0),.tr (ti 0)])],20⟩) (fun _=>True) ?_ ?_
   ·conv=>whnf
    refine acall.pure _ (hsh) rfl rfl ?_
    conv=>whnf
    refine acall.new [0,3,4] [] _ _ _ _ (hp) rfl rfl rfl rfl aut aut rfl rfl ?_
    conv=>whnf
    refine ⟨by kernel_rfl,fun _ => ?_⟩
    conv=>whnf
    exact ⟨(),[0,1,2,_,_,5,6],[],Sub.mk' rfl ⟨⟨rfl,rfl⟩,⟨rfl,rfl⟩,⟨rfl,rfl⟩,.inl rfl,trivial⟩ ⟨⟨rfl,.inl rfl,.inl rfl,.inl rfl,.inl rfl,.inl rfl,.inl rfl,.inl rfl,⟨rfl,rfl⟩,⟨rfl,rfl⟩,.inl rfl,trivial⟩,⟨rfl,rfl,rfl,rfl⟩,⟨rfl,rfl,rfl,rfl⟩,⟨rfl,.inl rfl,.inl rfl,.inl rfl,.inl rfl,.inl rfl,.inl rfl,trivial⟩,⟨rfl,.inl rfl,.inl rfl,.inl rfl,trivial⟩,trivial⟩ rfl rfl,trivial⟩
   rintro - - -
   conv=>whnf
   refine acall.pure _ (k_rin (slotI s)) rfl rfl fun _ => ?_
   conv=>whnf
   exact ⟨[0,1,2,3,4],rfl,rfl,⟨.inl rfl,.inl rfl,.inl rfl,trivial⟩,⟨rfl,.inl rfl,.inl rfl,.inl rfl,.inl rfl,.inl rfl,.inl rfl,.inl rfl,⟨rfl,rfl⟩,⟨rfl,rfl⟩,.inl rfl,trivial⟩,⟨rfl,rfl,rfl,rfl⟩,⟨rfl,rfl,rfl,rfl⟩,trivial⟩
  | false =>
   conv=>whnf
   exact ⟨(),[0,1,2,3,4,5,6],[],Sub.mk' rfl ⟨⟨rfl,rfl⟩,⟨rfl,rfl⟩,⟨rfl,rfl⟩,trivial⟩ ⟨⟨rfl,.inl rfl,.inl rfl,.inl rfl,.inl rfl,.inl rfl,.inl rfl,.inl rfl,⟨rfl,rfl⟩,⟨rfl,rfl⟩,.inl rfl,trivial⟩,⟨rfl,rfl,rfl,rfl⟩,⟨rfl,rfl,rfl,rfl⟩,⟨rfl,.inl rfl,.inl rfl,.inl rfl,.inl rfl,.inl rfl,.inl rfl,trivial⟩,⟨rfl,.inl rfl,.inl rfl,.inl rfl,trivial⟩,trivial⟩ rfl rfl,rfl,rfl⟩
 rintro - ⟨h1,h2⟩ -
 rw [h1,cond_false] at hE
 rw [h2,cond_false] at hE
 have hkl:1≤kids.length∧(two op=true→2≤kids.length):=by
  have:=hwf.1
  rw [h1,h2] at this
  cases ht:two op with
  | true=>rw [ht] at this; have:=of_decide_eq_true (show decide (2≤kids.length)=true by simpa using this); exact ⟨by omega,fun _=>this⟩
  | false=>rw [ht] at this; have:=of_decide_eq_true (show decide (1≤kids.length)=true by simpa using this); exact ⟨this,fun h=>by cases h⟩
 obtain ⟨k0,kr,rfl⟩ : ∃ k0 kr,kids=k0::kr:=by
  cases kids with
  | nil=>exact absurd hkl.1 (by simp)
  | cons a r=>exact ⟨a,r,rfl⟩
 have hw0:wfE k0=true∧wfEs kr=true:=by have:=hwf.2; unfold wfEs at this; rw [Bool.and_eq_true] at this; exact this
 simp only [List.cons.sizeOf_spec] at hsz
 have hf0:fitE k0=true∧fitEs kr=true:=by have:=hfit.2; unfold fitEs at this; rw [Bool.and_eq_true] at this; exact this
 have hv0:=ih k0 s (by omega) hw0.1 hf0.1 hS
 have hA:kid0S c (k0::kr) s=exprS c k0 s:=by rw [kid0S]
 have hSA:=hS.relE (exprS_rel c k0 s)
 have hB : ∀ s,kid1S c (k0::kr) s=kid0S c kr s:=fun s=>by rw [kid1S]
 rw [hA] at hE
 simp only [hB] at hE
 generalize exprS c k0 s=A at hE hv0 hSA
 have hk4:(kind == 4)=two op:=by
  have q:=hfit.1
  rw [h1,h2] at q
  cases ht:two op <;> cases h3:(kind == 3) <;> cases h4:(kind == 4) <;> rw [ht,h3,h4] at q <;> first | rfl | exact absurd q (by decide) | (exfalso; have a:=eq_of_beq h3; have b:=eq_of_beq h4; omega)
 clear hA hB
 conv=>whnf
 refine CutL.by (fun _:Unit=>⟨[(0,.ptr 0 0),(3,.ptr 5 0),(4,.ptr 6 0),(7,.ptr 7 0)],[(0,sR c (A.1) 3 4),(3,ndsB (A.1).nodes),(4,endB (A.1).opens),(5,.cells 143 ((Expr.mk kind op word name (k0::kr) at_).cells.map .tr)),(6,.cells 73 [.tr (tb false),.tr (ti 0),.tr (ti 0)]),(7,.cells 75 (({ nd00 with kind:=1,op:=op,a:=A.2 }:Nd).cells.map .tr))],20⟩) (fun _=>True) ?_ ?_
 ·obtain ⟨q1,q2,q3,q4,q5,q6⟩:=k0
  conv=>whnf
  refine ⟨rfl,Int.le_refl 0,(show (0:Int)<((Expr.rows (Expr.mk q1 q2 q3 q4 q5 q6::kr)).length:Int) by rw [erows_len,List.length_cons]; omega),fun row hrow => ?_⟩
  obtain rfl:Expr.cells (.mk q1 q2 q3 q4 q5 q6)=row:=Option.some.inj hrow
  clear hrow
  conv=>whnf
  refine acall.new [0,3,4] [] _ _ _ _ (hv0) rfl rfl rfl rfl aut aut rfl rfl ?_
  conv=>whnf
  refine ⟨by kernel_rfl,fun _ => ?_⟩
  conv=>whnf
  exact ⟨(),[0,1,2,_,_,5,6,_],[],Sub.mk' rfl ⟨⟨rfl,rfl⟩,⟨rfl,rfl⟩,⟨rfl,rfl⟩,⟨rfl,rfl⟩,trivial⟩ ⟨⟨rfl,.inl rfl,.inl rfl,.inl rfl,.inl rfl,.inl rfl,.inl rfl,.inl rfl,⟨rfl,rfl⟩,⟨rfl,rfl⟩,.inl rfl,trivial⟩,⟨rfl,rfl,rfl,rfl⟩,⟨rfl,rfl,rfl,rfl⟩,⟨rfl,.inl rfl,.inl rfl,.inl rfl,.inl rfl,.inl rfl,.inl rfl,trivial⟩,⟨rfl,.inl rfl,.inl rfl,.inl rfl,trivial⟩,⟨rfl,.inl rfl,.inl rfl,.inl rfl,.inl rfl,.inl rfl,.inl rfl,.inl rfl,.inl rfl,.inl rfl,.inl rfl,.inl rfl,.inl rfl,.inl rfl,trivial⟩,trivial⟩ rfl rfl,trivial⟩
 rintro - - -
 conv=>whnf
 refine CutL.by (fun _:Unit=>⟨[(0,.ptr 0 0),(3,.ptr 5 0),(4,.ptr 6 0),(7,.ptr 7 0)],[(0,sR c (bif two op then (kid0S c kr A.1).1 else A.1) 3 4),(3,ndsB (bif two op then (kid0S c kr A.1).1 else A.1).nodes),(4,endB (bif two op then (kid0S c kr A.1).1 else A.1).opens),(5,.cells 143 ((Expr.mk kind op word name (k0::kr) at_).cells.map .tr)),(6,.cells 73 [.tr (tb false),.tr (ti 0),.tr (ti 0)]),(7,.cells 75 (({ nd00 with kind:=1,op:=op,a:=A.2,b:=bif two op then (kid0S c kr A.1).2 else v00 }:Nd).cells.map .tr))],20⟩) (fun _=>True) ?_ ?_
 ·conv=>whnf
  rw [hk4]
  cases ht:two op with
  | false =>
   conv=>whnf
   exact ⟨(),[0,1,2,3,4,5,6,7],[],Sub.mk' rfl ⟨⟨rfl,rfl⟩,⟨rfl,rfl⟩,⟨rfl,rfl⟩,⟨rfl,rfl⟩,trivial⟩ ⟨⟨rfl,.inl rfl,.inl rfl,.inl rfl,.inl rfl,.inl rfl,.inl rfl,.inl rfl,⟨rfl,rfl⟩,⟨rfl,rfl⟩,.inl rfl,trivial⟩,⟨rfl,rfl,rfl,rfl⟩,⟨rfl,rfl,rfl,rfl⟩,⟨rfl,.inl rfl,.inl rfl,.inl rfl,.inl rfl,.inl rfl,.inl rfl,trivial⟩,⟨rfl,.inl rfl,.inl rfl,.inl rfl,trivial⟩,⟨rfl,.inl rfl,.inl rfl,.inl rfl,.inl rfl,.inl rfl,.inl rfl,.inl rfl,.inl rfl,.inl rfl,.inl rfl,.inl rfl,.inl rfl,.inl rfl,trivial⟩,trivial⟩ rfl rfl,trivial⟩
  | true =>
  obtain ⟨k1,kr,rfl⟩ : ∃ k0 kr',kr=k0::kr':=by
   have:=hkl.2 ht
   cases kr with
   | nil=>simp at this
   | cons a r=>exact ⟨a,r,rfl⟩
  have hw1:wfE k1=true:=by have:=hw0.2; unfold wfEs at this; rw [Bool.and_eq_true] at this; exact this.1
  simp only [List.cons.sizeOf_spec] at hsz
  have hf1:fitE k1=true:=by have:=hf0.2; unfold fitEs at this; rw [Bool.and_eq_true] at this; exact this.1
  have hv1:=ih k1 A.1 (by omega) hw1 hf1 hSA
  have hA1:kid0S c (k1::kr) A.1=exprS c k1 A.1:=by rw [kid0S]
  rw [hA1]
  generalize exprS c k1 A.1=B at hv1 ⊢
  obtain ⟨q1,q2,q3,q4,q5,q6⟩:=k1
  conv=>whnf
  refine ⟨rfl,(show (0:Int)≤1 by decide),(show (1:Int)<((Expr.rows (k0::Expr.mk q1 q2 q3 q4 q5 q6::kr)).length:Int) by rw [erows_len,List.length_cons,List.length_cons]; omega),fun row hrow => ?_⟩
  obtain rfl:Expr.cells (.mk q1 q2 q3 q4 q5 q6)=row:=Option.some.inj hrow
  clear hrow
  conv=>whnf
  refine acall.new [0,3,4] [] _ _ _ _ (hv1) rfl rfl rfl rfl aut aut rfl rfl ?_
  conv=>whnf
  intro _
  conv=>whnf
  exact ⟨(),[0,1,2,_,_,5,6,7],[],Sub.mk' rfl ⟨⟨rfl,rfl⟩,⟨rfl,rfl⟩,⟨rfl,rfl⟩,⟨rfl,rfl⟩,trivial⟩ ⟨⟨rfl,.inl rfl,.inl rfl,.inl rfl,.inl rfl,.inl rfl,.inl rfl,.inl rfl,⟨rfl,rfl⟩,⟨rfl,rfl⟩,.inl rfl,trivial⟩,⟨rfl,rfl,rfl,rfl⟩,⟨rfl,rfl,rfl,rfl⟩,⟨rfl,.inl rfl,.inl rfl,.inl rfl,.inl rfl,.inl rfl,.inl rfl,trivial⟩,⟨rfl,.inl rfl,.inl rfl,.inl rfl,trivial⟩,⟨rfl,.inl rfl,.inl rfl,.inl rfl,.inl rfl,.inl rfl,.inl rfl,.inl rfl,.inl rfl,.inl rfl,.inl rfl,.inl rfl,.inl rfl,.inl rfl,trivial⟩,trivial⟩ rfl rfl,trivial⟩
 rintro - - -
 have hS2:OkA (bif two op then (kid0S c kr A.1).1 else A.1):=by
  cases two op with
  | true=>exact hSA.relE (kid0S_rel c kr _)
  | false=>exact hSA
 have hR:R=(putS { nd00 with kind:=1,op:=op,a:=A.2,b:=bif two op then (kid0S c kr A.1).2 else v00,slot:=slotI (bif two op then (kid0S c kr A.1).1 else A.1) } (slotS (bif two op then (kid0S c kr A.1).1 else A.1)),inV (slotI (bif two op then (kid0S c kr A.1).1 else A.1))):=by
  rw [hE]
  cases two op <;> rfl
 generalize (bif two op then (kid0S c kr A.1).1 else A.1)=S1 at hR hS2 ⊢
 generalize (bif two op then (kid0S c kr A.1).2 else v00)=B2 at hR ⊢
 clear hE hv0
 subst hR
 have hp:=k_putR c { nd00 with kind:=1,op:=op,a:=A.2,b:=B2,slot:=slotI S1 } (slotS S1) (hS2.relE (slotS_rel S1))
 generalize putS { nd00 with kind:=1,op:=op,a:=A.2,b:=B2,slot:=slotI S1 } (slotS S1)=S3 at hp ⊢
 conv=>whnf
 refine acall.au [0,3,4] [] (k_slotR c S1) ?_
 intro _
 conv=>whnf
 refine CutL.by (fun _:Unit=>⟨[(0,.ptr 0 0),(3,.ptr 5 0),(4,.ptr 6 0),(7,.ptr 7 0)],[(0,sR c (S3) 3 4),(3,ndsB (S3).nodes),(4,endB (S3).opens),(5,.cells 143 ((Expr.mk kind op word name (k0::kr) at_).cells.map .tr)),(6,.cells 73 [.tr (tb false),.tr (ti 0),.tr (ti 0)]),(7,.cells 75 (({ nd00 with kind:=1,op:=op,a:=A.2,b:=B2,slot:=slotI S1 }:Nd).cells.map .tr))],20⟩) (fun _=>True) ?_ ?_
 ·conv=>whnf
  refine acall.new [0,3,4] [] _ _ _ _ (hp) rfl rfl rfl rfl aut aut rfl rfl ?_
  conv=>whnf
  intro _
  conv=>whnf
  exact ⟨(),[0,1,2,_,_,5,6,7],[],Sub.mk' rfl ⟨⟨rfl,rfl⟩,⟨rfl,rfl⟩,⟨rfl,rfl⟩,⟨rfl,rfl⟩,trivial⟩ ⟨⟨rfl,.inl rfl,.inl rfl,.inl rfl,.inl rfl,.inl rfl,.inl rfl,.inl rfl,⟨rfl,rfl⟩,⟨rfl,rfl⟩,.inl rfl,trivial⟩,⟨rfl,rfl,rfl,rfl⟩,⟨rfl,rfl,rfl,rfl⟩,⟨rfl,.inl rfl,.inl rfl,.inl rfl,.inl rfl,.inl rfl,.inl rfl,trivial⟩,⟨rfl,.inl rfl,.inl rfl,.inl rfl,trivial⟩,⟨rfl,.inl rfl,.inl rfl,.inl rfl,.inl rfl,.inl rfl,.inl rfl,.inl rfl,.inl rfl,.inl rfl,.inl rfl,.inl rfl,.inl rfl,.inl rfl,trivial⟩,trivial⟩ rfl rfl,trivial⟩
 rintro - - -
 conv=>whnf
 refine acall.pure _ (k_rin (slotI S1)) rfl rfl fun _ => ?_
 conv=>whnf
 exact ⟨[0,1,2,3,4],rfl,rfl,⟨.inl rfl,.inl rfl,.inl rfl,trivial⟩,⟨rfl,.inl rfl,.inl rfl,.inl rfl,.inl rfl,.inl rfl,.inl rfl,.inl rfl,⟨rfl,rfl⟩,⟨rfl,rfl⟩,.inl rfl,trivial⟩,⟨rfl,rfl,rfl,rfl⟩,⟨rfl,rfl,rfl,rfl⟩,trivial⟩
end Go.Proofs.YthboippafkcoiaaGreatDoor.am
namespace Go.Proofs.YthboippafkcoiaaGreatDoor.am
open Go Go.Proofs
set_option linter.all false
mutual
def stmtR (c:LowC):Stmt→LowS→LowS
 | .mk kind name other e body els _,s =>
  bif kind == 1 then giveS c name (kid0S c e s).2 (kid0S c e s).1
  else bif kind == 2 then swapS c name other (kid0S c e s).2 (kid0S c e s).1
  else bif kind == 3 then
   openS ((blockR c body (putS { nd00 with kind:=8,a:=(kid0S c e s).2 } (kid0S c e s).1)).opens++(blockR c els (openS [(true,(putI (kid0S c e s).1).toNat)] (blockR c body (putS { nd00 with kind:=8,a:=(kid0S c e s).2 } (kid0S c e s).1)))).opens)
    (blockR c els (openS [(true,(putI (kid0S c e s).1).toNat)] (blockR c body (putS { nd00 with kind:=8,a:=(kid0S c e s).2 } (kid0S c e s).1))))
  else bif kind == 4 then
   { blockR c body (putS { nd00 with kind:=8,a:=(kid0S c e s).2 } (kid0S c e s).1) with
    nodes:=bif (blockR c body (putS { nd00 with kind:=8,a:=(kid0S c e s).2 } (kid0S c e s).1)).over then (blockR c body (putS { nd00 with kind:=8,a:=(kid0S c e s).2 } (kid0S c e s).1)).nodes else leadN s.nodes.length (blockR c body (putS { nd00 with kind:=8,a:=(kid0S c e s).2 } (kid0S c e s).1)).opens (blockR c body (putS { nd00 with kind:=8,a:=(kid0S c e s).2 } (kid0S c e s).1)).nodes
    opens:=[(true,(putI (kid0S c e s).1).toNat)] }
  else bif kind == 5 then putS { nd00 with kind:=6,thing:=findI c.p.locks name 0 } (blockR c body (putS { nd00 with kind:=5,thing:=findI c.p.locks name 0 } s))
  else bif kind == 6 then putS { nd00 with kind:=7,a:=(kid0S c e s).2 } (kid0S c e s).1
  else s
def blockR (c:LowC):List Stmt→LowS→LowS
 | [],s=>s
 | x::r,s=>bif s.over then s else blockR c r (stmtR c x s)
end
theorem blockR_over (c:LowC) (l:List Stmt) {s:LowS} (h:s.over=true):blockR c l s=s:=by
 cases l with
 | nil=>rw [blockR]
 | cons x r=>rw [blockR,h]; rfl
theorem loopR_rel {s s1 s2 s3:LowS} (n:Nd) (h1:RelE s s1) (h2:s2=putS n s1) (h3:RelS s2 s3) (L:List Nd) (hl:L.length=s3.nodes.length):RelS s { s3 with nodes:=L,opens:=[(true,(putI s1).toNat)] }:=by
 have hp:=putS_rel n s1
 rw [← h2] at hp
 have hb:(putI s1).toNat<s3.nodes.length:=putI_in n (by rw [← h2]; exact h3)
 have hm:=h1.toS.trans (hp.toS.trans h3)
 refine ⟨?_,fun q => ?_,hm.over,?_,fun q => ?_⟩
 ·show s.nodes.length≤L.length
  rw [hl]; exact hm.nodes
 ·show L.length≤4096
  rw [hl]; exact hm.cap q
 ·show 1+s.nodes.length+ov s.over≤s.opens.length+(1 - s.opens.length)+L.length+ov s3.over
  rw [hl]
  have:=hm.over; have:=hm.nodes
  omega
 ·intro o ho
  have ho:o ∈ [(true,(putI s1).toNat)]:=ho
  rw [List.mem_singleton] at ho
  subst ho
  show _<L.length
  rw [hl]; exact hb
mutual
theorem stmtR_rel (c:LowC) : ∀ (x:Stmt) (s:LowS),s.over=false→RelS s (stmtR c x s)
 | .mk kind name other e body els _,s,ho=>by
  have h0:=kid0S_rel c e s
  have hb:=fun s=>blockR_rel c body s
  have hl:=fun s=>blockR_rel c els s
  unfold stmtR
  cases kind == 1 with
  | true=>exact (h0.trans (giveS_rel c _ _ _)).toS
  | false =>
  cases kind == 2 with
  | true=>exact (h0.trans (swapS_rel c _ _ _ _)).toS
  | false =>
  cases kind == 3 with
  | true=>exact cond_rel _ ho h0 rfl (hb _) (fun q=>blockR_over c body q) (hl _) (fun q=>blockR_over c els q)
  | false =>
  cases kind == 4 with
  | true =>
   refine loopR_rel _ h0 rfl (hb _) _ ?_
   cases (blockR c body (putS { nd00 with kind:=8,a:=(kid0S c e s).2 } (kid0S c e s).1)).over with
   | true=>rfl
   | false=>exact leadN_len _ _ _
  | false =>
  cases kind == 5 with
  | true=>exact (putS_rel _ _).toS.trans ((hb _).trans (putS_rel _ _).toS)
  | false =>
  cases kind == 6 with
  | true=>exact (h0.trans (putS_rel _ _)).toS
  | false=>exact .refl s
theorem blockR_rel (c:LowC) : ∀ (l:List Stmt) (s:LowS),RelS s (blockR c l s)
 | [],s=>by unfold blockR; exact .refl s
 | x::r,s=>by
  unfold blockR
  cases h:s.over with
  | true=>exact .refl s
  | false=>exact (stmtR_rel c x s h).trans (blockR_rel c r _)
end
def simS (s s':LowS):Prop:=s=s'∨(s.over=true∧s'.over=true)
theorem ov_keep {a b:Bool} (h:ov a≤ov b) (ha:a=true):b=true:=by
 subst ha
 cases b with
 | true=>rfl
 | false=>exact absurd h (by decide)
theorem putS_sim {s s':LowS} (n:Nd) (h:simS s s'):simS (putS n s) (putS n s'):=by
 rcases h with rfl | ⟨h1,h2⟩
 ·exact .inl rfl
 ·exact .inr ⟨ov_keep (putS_rel n s).over h1,ov_keep (putS_rel n s').over h2⟩
mutual
theorem stmt_sim (c:LowC) : ∀ (x:Stmt) (s:LowS),simS (stmtS c x s) (stmtR c x s)
 | .mk kind name other e body els _,s=>by
  have hb:=block_sim c body
  have hl:=block_sim c els
  unfold stmtS stmtR
  cases kind == 1 with
  | true=>exact .inl rfl
  | false =>
  cases kind == 2 with
  | true=>exact .inl rfl
  | false =>
  cases kind == 3 with
  | true =>
   simp only [cond_true,cond_false]
   have h3:=hb _ _ (.inl (rfl:putS { nd00 with kind:=8,a:=(kid0S c e s).2 } (kid0S c e s).1=_))
   generalize blockS c body (putS { nd00 with kind:=8,a:=(kid0S c e s).2 } (kid0S c e s).1)=S3 at h3 ⊢
   generalize blockR c body (putS { nd00 with kind:=8,a:=(kid0S c e s).2 } (kid0S c e s).1)=T3 at h3 ⊢
   generalize [(true,(putI (kid0S c e s).1).toNat)]=os
   have h4:simS (openS os S3) (openS os T3):=by
    rcases h3 with rfl | ⟨h1,h2⟩
    ·exact .inl rfl
    ·exact .inr ⟨h1,h2⟩
   have h5:=hl _ _ h4
   have o1:=(blockS_rel c els (openS os S3)).over
   have o2:=(blockR_rel c els (openS os T3)).over
   rcases h3 with rfl | ⟨h1,h2⟩
   ·rcases h5 with h5 | ⟨h1,h2⟩
    ·exact .inl (by rw [h5])
    ·exact .inr ⟨h1,h2⟩
   ·exact .inr ⟨ov_keep o1 h1,ov_keep o2 h2⟩
  | false =>
  cases kind == 4 with
  | true =>
   simp only [cond_true,cond_false]
   have h3:=hb _ _ (.inl (rfl:putS { nd00 with kind:=8,a:=(kid0S c e s).2 } (kid0S c e s).1=_))
   generalize blockS c body (putS { nd00 with kind:=8,a:=(kid0S c e s).2 } (kid0S c e s).1)=S3 at h3 ⊢
   generalize blockR c body (putS { nd00 with kind:=8,a:=(kid0S c e s).2 } (kid0S c e s).1)=T3 at h3 ⊢
   rcases h3 with rfl | ⟨h1,h2⟩
   ·cases h:S3.over with
    | true=>exact .inr ⟨h,rfl⟩
    | false=>exact .inl (by simp only [cond_false])
   ·rw [h1]
    exact .inr ⟨h1,h2⟩
  | false =>
  cases kind == 5 with
  | true=>exact putS_sim _ (hb _ _ (.inl rfl))
  | false =>
  cases kind == 6 with
  | true=>exact .inl rfl
  | false=>exact .inl rfl
theorem block_sim (c:LowC) : ∀ (l:List Stmt) (s s':LowS),simS s s'→simS (blockS c l s) (blockR c l s')
 | [],s,s',h=>by unfold blockS blockR; exact h
 | x::r,s,s',h=>by
  rcases h with rfl | ⟨h1,h2⟩
  ·unfold blockS blockR
   cases ho:s.over with
   | true=>exact .inl rfl
   | false=>exact block_sim c r _ _ (stmt_sim c x s)
  ·rw [blockS_over c _ h1,blockR_over c _ h2]
   exact .inr ⟨h1,h2⟩
end
def lowRs (p:Prg):Nat→List Thread→Option (List Gr)
 | _,[]=>some []
 | i,th::r=>bif (endS (blockR (thrC p i th) th.body (low0 th))).over then none else match lowRs p (i+1) r with
  | some l=>some ({ grS (thrC p i th) (endS (blockR (thrC p i th) th.body (low0 th))) with nodes:=(endS (blockR (thrC p i th) th.body (low0 th))).nodes }::l)
  | none=>none
theorem zeroLast_snoc (L:List Nd) (n:Nd) (h:n.next=0):zeroLast (L++[n])=L++[n]:=by
 unfold zeroLast
 have e:(L++[n]).length - 1=L.length:=by rw [List.length_append]; rfl
 rw [e,List.getElem?_append_right (Nat.le_refl _),Nat.sub_self]
 show (L++[n]).set L.length { n with next:=0 }=_
 rw [show ({ n with next:=0 }:Nd)=n by rw [← h]]
 refine List.ext_getElem? fun i => ?_
 rw [List.getElem?_set]
 split
 ·rename_i hi
  subst hi
  rw [if_pos (by rw [List.length_append]; exact Nat.lt_succ_self _),List.getElem?_append_right (Nat.le_refl _),Nat.sub_self]; rfl
 ·rfl
theorem endS_zero {s:LowS} (h:(endS s).over=false):zeroLast (endS s).nodes=(endS s).nodes:=by
 unfold endS at h ⊢
 cases ho:s.over with
 | true=>rw [ho,cond_true,ho] at h; cases h
 | false =>
  rw [ho,cond_false] at h
  rw [cond_false]
  cases hb:decide ((s.nodes.length:Int) ≥ 4096) with
  | true=>rw [putS_big _ hb] at h; cases h
  | false =>
   rw [putS_small _ hb]
   exact zeroLast_snoc _ _ rfl
theorem endS_sim {s s':LowS} (h:simS s s'):simS (endS s) (endS s'):=by
 rcases h with rfl | ⟨h1,h2⟩
 ·exact .inl rfl
 ·exact .inr ⟨by unfold endS; rw [h1]; exact h1,by unfold endS; rw [h2]; exact h2⟩
theorem low_same (p:Prg) : ∀ (l:List Thread) (i:Nat),lowTs p i l=lowRs p i l
 | [],_=>rfl
 | th::r,i=>by
  have hs:=endS_sim (block_sim (thrC p i th) th.body (low0 th) (low0 th) (.inl rfl))
  unfold lowTs lowRs
  rw [low_same p r (i+1)]
  rcases hs with hs | ⟨h1,h2⟩
  ·rw [← hs]
   cases ho:(endS (blockS (thrC p i th) th.body (low0 th))).over with
   | true=>rfl
   | false =>
    simp only [cond_false]
    cases lowRs p (i+1) r with
    | none=>rfl
    | some l =>
     show some _=some _
     unfold grS
     rw [endS_zero ho]
  ·rw [h1,h2]; rfl
end Go.Proofs.YthboippafkcoiaaGreatDoor.am
namespace Go.Proofs.YthboippafkcoiaaGreatDoor.am
open Go Go.Proofs
set_option linter.all false
def RBlk (c:LowC) (l:List Stmt):Prop := ∀ s,OkA s→K 44 [.ptr 0 0,.tr (stmtsT l)] (stIR c s) (.ret (.tup [])) (stOR c (blockR c l s))
theorem k_exR (c:LowC) (e:Expr) (s:LowS) (hw:wfE e=true) (hf:fitE e=true) (h:OkA s):K 140 [.ptr 0 0,e.av] (stIR c s) (.ret (vA (exprS c e s).2)) (stOR c (exprS c e s).1):=k_exprR c _ e s (Nat.lt_succ_self _) hw hf h
theorem putI_nat (s:LowS) : ∃ b:Nat,putI s=b∧(putI s).toNat=b∧b≤s.nodes.length:=by
 unfold putI
 cases decide ((s.nodes.length:Int) ≥ 4096) with
 | true=>exact ⟨0,rfl,rfl,Nat.zero_le _⟩
 | false=>exact ⟨_,rfl,Int.toNat_natCast _,Nat.le_refl _⟩
theorem neg_enc {b:Nat} (h:b≤1000000):IntKind.i64.wrap (IntKind.i64.wrap (0 - (b:Int)) - 1)=encI (true,b):=by
 show _ = -(b:Int) - 1
 rw [w64 (n:=0 - (b:Int)) (by omega) (by omega),w64 (by omega) (by omega)]
 omega
set_option maxRecDepth 100000 in
theorem k_storeR (c:LowC) (name:ByteArray) (v:Val) (s:LowS) (h:OkA s):K 141 [.ptr 0 0,.tr (ts name),vA v] (stIR c s) (.ret (.tup [])) (stOR c (giveS c name v s)):=by
 have hloc:=k21 c.p (c.t:Nat) name
 have hsh:=k17 c.p name
 have hE:giveS c name v s=bif decide (localI c.p c.t name ≥ 0) then putS { nd00 with kind:=1,slot:=localI c.p c.t name,a:=v } s else putS { nd00 with kind:=3,thing:=findI c.p.shared name 0,a:=v } s:=rfl
 generalize giveS c name v s=R at hE ⊢
 generalize localI c.p (c.t:Nat) name=LI at hloc hE
 generalize findI c.p.shared name 0=FI at hsh hE
 refine Ctr.mv [2] [0,3,4] 5 hT hmix Tryz.func141 rfl (fun _ _=>by kernel_rfl) rfl (fun hok => ?_)
 clear hok
 conv=>whnf
 refine CutL.by (fun _:Unit=>⟨[(0,.ptr 0 0),(1,.tr (ts name)),(5,.ptr 5 0),(6,.tr (ti LI))],[(0,sR c (s) 3 4),(3,ndsB (s).nodes),(4,endB (s).opens),(5,.cells 73 [.tr (tb v.s),.tr (ti v.k),.tr (ti v.w)])],20⟩) (fun _=>True) ?_ ?_
 ·conv=>whnf
  refine acall.pure _ (hloc) rfl rfl ?_
  conv=>whnf
  refine ⟨by kernel_rfl,fun _ => ?_⟩
  conv=>whnf
  exact ⟨(),[0,1,2,3,4,5],[],Sub.mk' rfl ⟨⟨rfl,rfl⟩,.inl rfl,⟨rfl,rfl⟩,.inl rfl,trivial⟩ ⟨⟨rfl,.inl rfl,.inl rfl,.inl rfl,.inl rfl,.inl rfl,.inl rfl,.inl rfl,⟨rfl,rfl⟩,⟨rfl,rfl⟩,.inl rfl,trivial⟩,⟨rfl,rfl,rfl,rfl⟩,⟨rfl,rfl,rfl,rfl⟩,⟨rfl,.inl rfl,.inl rfl,.inl rfl,trivial⟩,trivial⟩ rfl rfl,trivial⟩
 rintro - - -
 conv=>whnf
 cases h3:decide (LI ≥ 0) with
 | true =>
  rw [h3,cond_true] at hE
  have hp:=k_putR c { nd00 with kind:=1,slot:=LI,a:=v } s h
  rw [← hE] at hp
  clear hE
  conv=>whnf
  refine acall.new [0,3,4] [] _ _ _ _ (hp) rfl rfl rfl rfl aut aut rfl rfl ?_
  conv=>whnf
  intro _
  conv=>whnf
  exact ⟨[0,1,2,_,_],rfl,rfl,trivial,⟨rfl,.inl rfl,.inl rfl,.inl rfl,.inl rfl,.inl rfl,.inl rfl,.inl rfl,⟨rfl,rfl⟩,⟨rfl,rfl⟩,.inl rfl,trivial⟩,⟨rfl,rfl,rfl,rfl⟩,⟨rfl,rfl,rfl,rfl⟩,trivial⟩
 | false =>
  rw [h3,cond_false] at hE
  have hp:=k_putR c { nd00 with kind:=3,thing:=FI,a:=v } s h
  rw [← hE] at hp
  clear hE
  conv=>whnf
  refine acall.pure _ (hsh) rfl rfl ?_
  conv=>whnf
  refine acall.new [0,3,4] [] _ _ _ _ (hp) rfl rfl rfl rfl aut aut rfl rfl ?_
  conv=>whnf
  refine ⟨by kernel_rfl,fun _ => ?_⟩
  conv=>whnf
  exact ⟨[0,1,2,_,_],rfl,rfl,trivial,⟨rfl,.inl rfl,.inl rfl,.inl rfl,.inl rfl,.inl rfl,.inl rfl,.inl rfl,⟨rfl,rfl⟩,⟨rfl,rfl⟩,.inl rfl,trivial⟩,⟨rfl,rfl,rfl,rfl⟩,⟨rfl,rfl,rfl,rfl⟩,trivial⟩
set_option maxRecDepth 100000 in
set_option maxHeartbeats 2000000 in
theorem r_assign (c:LowC) (name other:ByteArray) (e:List Expr) (body els:List Stmt) (at_:Int) (s:LowS) (he:1≤e.length) (hw:wfEs e=true) (hf:fitEs e=true) (h:OkA s):K 94 [.ptr 0 0,(Stmt.mk 1 name other e body els at_).av] (stIR c s) (.ret (.tup [])) (stOR c (giveS c name (kid0S c e s).2 (kid0S c e s).1)):=by
 obtain ⟨e0,er,rfl⟩ : ∃ e0 er,e=e0::er:=by
  cases e with
  | nil=>exact absurd he (by simp)
  | cons a r=>exact ⟨a,r,rfl⟩
 have hw0:wfE e0=true:=by unfold wfEs at hw; rw [Bool.and_eq_true] at hw; exact hw.1
 have hk0:kid0S c (e0::er) s=exprS c e0 s:=by rw [kid0S]
 have hfe:fitE e0=true:=by unfold fitEs at hf; rw [Bool.and_eq_true] at hf; exact hf.1
 have hv:=k_exR c e0 s hw0 hfe h
 have hRel:=exprS_rel c e0 s
 rw [hk0]
 clear hk0
 generalize exprS c e0 s=A at hv hRel ⊢
 have hA:=h.relE hRel
 obtain ⟨q1,q2,q3,q4,q5,q6⟩:=e0
 have hg:=k_storeR c name A.2 A.1 hA
 generalize giveS c name A.2 A.1=R at hg ⊢
 refine Ctr.mv [4] [0,3,4] 5 hT hmix Tryz.func94 rfl (fun _ _=>by kernel_rfl) rfl (fun hok => ?_)
 clear hok
 conv=>whnf
 refine CutL.by (fun _:Unit=>⟨[(0,.ptr 0 0),(3,.ptr 5 0),(4,.ptr 6 0)],[(0,sR c (A.1) 3 4),(3,ndsB (A.1).nodes),(4,endB (A.1).opens),(5,.cells 105 ((Stmt.mk 1 name other (Expr.mk q1 q2 q3 q4 q5 q6::er) body els at_).cells.map .tr)),(6,.cells 73 [.tr (tb A.2.s),.tr (ti A.2.k),.tr (ti A.2.w)])],20⟩) (fun _=>True) ?_ ?_
 ·conv=>whnf
  refine ⟨rfl,Int.le_refl 0,(show (0:Int)<((Expr.rows (Expr.mk q1 q2 q3 q4 q5 q6::er)).length:Int) by rw [erows_len,List.length_cons]; omega),fun row hrow => ?_⟩
  obtain rfl:Expr.cells (.mk q1 q2 q3 q4 q5 q6)=row:=Option.some.inj hrow
  clear hrow
  conv=>whnf
  refine acall.new [0,3,4] [] _ _ _ _ (hv) rfl rfl rfl rfl aut aut rfl rfl ?_
  conv=>whnf
  intro _
  conv=>whnf
  exact ⟨(),[0,1,2,_,_,5,_],[],Sub.mk' rfl ⟨⟨rfl,rfl⟩,⟨rfl,rfl⟩,⟨rfl,rfl⟩,trivial⟩ ⟨⟨rfl,.inl rfl,.inl rfl,.inl rfl,.inl rfl,.inl rfl,.inl rfl,.inl rfl,⟨rfl,rfl⟩,⟨rfl,rfl⟩,.inl rfl,trivial⟩,⟨rfl,rfl,rfl,rfl⟩,⟨rfl,rfl,rfl,rfl⟩,⟨rfl,.inl rfl,.inl rfl,.inl rfl,.inl rfl,.inl rfl,.inl rfl,.inl rfl,trivial⟩,⟨rfl,.inl rfl,.inl rfl,.inl rfl,trivial⟩,trivial⟩ rfl rfl,trivial⟩
 rintro - - -
 conv=>whnf
 refine acall.new [0,3,4] [] _ _ _ _ (hg) rfl rfl rfl rfl aut aut rfl rfl ?_
 conv=>whnf
 intro _
 conv=>whnf
 exact ⟨[0,1,2,_,_],rfl,rfl,trivial,⟨rfl,.inl rfl,.inl rfl,.inl rfl,.inl rfl,.inl rfl,.inl rfl,.inl rfl,⟨rfl,rfl⟩,⟨rfl,rfl⟩,.inl rfl,trivial⟩,⟨rfl,rfl,rfl,rfl⟩,⟨rfl,rfl,rfl,rfl⟩,trivial⟩
set_option maxRecDepth 100000 in
set_option maxHeartbeats 2000000 in
theorem r_print (c:LowC) (name other:ByteArray) (e:List Expr) (body els:List Stmt) (at_:Int) (s:LowS) (he:1≤e.length) (hw:wfEs e=true) (hf:fitEs e=true) (h:OkA s):K 94 [.ptr 0 0,(Stmt.mk 6 name other e body els at_).av] (stIR c s) (.ret (.tup [])) (stOR c (putS { nd00 with kind:=7,a:=(kid0S c e s).2 } (kid0S c e s).1)):=by
 obtain ⟨e0,er,rfl⟩ : ∃ e0 er,e=e0::er:=by
  cases e with
  | nil=>exact absurd he (by simp)
  | cons a r=>exact ⟨a,r,rfl⟩
 have hw0:wfE e0=true:=by unfold wfEs at hw; rw [Bool.and_eq_true] at hw; exact hw.1
 have hk0:kid0S c (e0::er) s=exprS c e0 s:=by rw [kid0S]
 have hfe:fitE e0=true:=by unfold fitEs at hf; rw [Bool.and_eq_true] at hf; exact hf.1
 have hv:=k_exR c e0 s hw0 hfe h
 have hRel:=exprS_rel c e0 s
 rw [hk0]
 clear hk0
 generalize exprS c e0 s=A at hv hRel ⊢
 have hA:=h.relE hRel
 obtain ⟨q1,q2,q3,q4,q5,q6⟩:=e0
 have hg:=k_putR c { nd00 with kind:=7,a:=A.2 } A.1 hA
 generalize putS { nd00 with kind:=7,a:=A.2 } A.1=R at hg ⊢
 refine Ctr.mv [16] [0,3,4] 5 hT hmix Tryz.func94 rfl (fun _ _=>by kernel_rfl) rfl (fun hok => ?_)
 clear hok
 conv=>whnf
 refine CutL.by (fun _:Unit=>⟨[(0,.ptr 0 0),(3,.ptr 5 0),(8,.ptr 6 0)],[(0,sR c (A.1) 3 4),(3,ndsB (A.1).nodes),(4,endB (A.1).opens),(5,.cells 105 ((Stmt.mk 6 name other (Expr.mk q1 q2 q3 q4 q5 q6::er) body els at_).cells.map .tr)),(6,.cells 73 [.tr (tb A.2.s),.tr (ti A.2.k),.tr (ti A.2.w)])],20⟩) (fun _=>True) ?_ ?_
 ·conv=>whnf
  refine ⟨rfl,Int.le_refl 0,(show (0:Int)<((Expr.rows (Expr.mk q1 q2 q3 q4 q5 q6::er)).length:Int) by rw [erows_len,List.length_cons]; omega),fun row hrow => ?_⟩
  obtain rfl:Expr.cells (.mk q1 q2 q3 q4 q5 q6)=row:=Option.some.inj hrow
  clear hrow
  conv=>whnf
  refine acall.new [0,3,4] [] _ _ _ _ (hv) rfl rfl rfl rfl aut aut rfl rfl ?_
  conv=>whnf
  intro _
  conv=>whnf
  exact ⟨(),[0,1,2,_,_,5,_],[],Sub.mk' rfl ⟨⟨rfl,rfl⟩,⟨rfl,rfl⟩,⟨rfl,rfl⟩,trivial⟩ ⟨⟨rfl,.inl rfl,.inl rfl,.inl rfl,.inl rfl,.inl rfl,.inl rfl,.inl rfl,⟨rfl,rfl⟩,⟨rfl,rfl⟩,.inl rfl,trivial⟩,⟨rfl,rfl,rfl,rfl⟩,⟨rfl,rfl,rfl,rfl⟩,⟨rfl,.inl rfl,.inl rfl,.inl rfl,.inl rfl,.inl rfl,.inl rfl,.inl rfl,trivial⟩,⟨rfl,.inl rfl,.inl rfl,.inl rfl,trivial⟩,trivial⟩ rfl rfl,trivial⟩
 rintro - - -
 conv=>whnf
 refine acall.new [0,3,4] [] _ _ _ _ (hg) rfl rfl rfl rfl aut aut rfl rfl ?_
 conv=>whnf
 intro _
 conv=>whnf
 exact ⟨[0,1,2,_,_],rfl,rfl,trivial,⟨rfl,.inl rfl,.inl rfl,.inl rfl,.inl rfl,.inl rfl,.inl rfl,.inl rfl,⟨rfl,rfl⟩,⟨rfl,rfl⟩,.inl rfl,trivial⟩,⟨rfl,rfl,rfl,rfl⟩,⟨rfl,rfl,rfl,rfl⟩,trivial⟩
set_option maxRecDepth 100000 in
set_option maxHeartbeats 2000000 in
theorem r_skip (c:LowC) (name other:ByteArray) (e:List Expr) (body els:List Stmt) (at_:Int) (s:LowS):K 94 [.ptr 0 0,(Stmt.mk 7 name other e body els at_).av] (stIR c s) (.ret (.tup [])) (stOR c (s)):=by
 refine Ctr.mv [] [0,3,4] 5 hT hmix Tryz.func94 rfl (fun _ _=>by kernel_rfl) rfl (fun hok => ?_)
 clear hok
 conv=>whnf
 exact ⟨[0,1,2,3,4],rfl,rfl,trivial,⟨rfl,.inl rfl,.inl rfl,.inl rfl,.inl rfl,.inl rfl,.inl rfl,.inl rfl,⟨rfl,rfl⟩,⟨rfl,rfl⟩,.inl rfl,trivial⟩,⟨rfl,rfl,rfl,rfl⟩,⟨rfl,rfl,rfl,rfl⟩,trivial⟩
set_option maxRecDepth 100000 in
set_option maxHeartbeats 2000000 in
theorem r_lock (c:LowC) (name other:ByteArray) (e:List Expr) (body els:List Stmt) (at_:Int) (s:LowS) (h:OkA s) (hB:RBlk c body):K 94 [.ptr 0 0,(Stmt.mk 5 name other e body els at_).av] (stIR c s) (.ret (.tup [])) (stOR c (putS { nd00 with kind:=6,thing:=findI c.p.locks name 0 } (blockR c body (putS { nd00 with kind:=5,thing:=findI c.p.locks name 0 } s)))):=by
 have hlk:=k19 c.p name
 generalize findI c.p.locks name 0=LI at hlk ⊢
 have hp:=k_putR c { nd00 with kind:=5,thing:=LI } s h
 have h2:=h.relE (putS_rel { nd00 with kind:=5,thing:=LI } s)
 generalize putS { nd00 with kind:=5,thing:=LI } s=S2 at hp h2 ⊢
 have hb:=hB S2 h2
 have h3:=h2.rel (blockR_rel c body S2)
 generalize blockR c body S2=S3 at hb h3 ⊢
 have hp2:=k_putR c { nd00 with kind:=6,thing:=LI } S3 h3
 generalize putS { nd00 with kind:=6,thing:=LI } S3=R at hp2 ⊢
 refine Ctr.mv [19,20,21] [0,3,4] 5 hT hmix Tryz.func94 rfl (fun _ _=>by kernel_rfl) rfl (fun hok => ?_)
 clear hok
 conv=>whnf
 refine CutL.by (fun _:Unit=>⟨[(0,.ptr 0 0),(3,.ptr 5 0),(9,.tr (ti LI))],[(0,sR c (s) 3 4),(3,ndsB (s).nodes),(4,endB (s).opens),(5,.cells 105 ((Stmt.mk 5 name other e body els at_).cells.map .tr))],20⟩) (fun _=>True) ?_ ?_
 ·conv=>whnf
  refine acall.pure _ (hlk) rfl rfl ?_
  conv=>whnf
  refine ⟨by kernel_rfl,fun _ => ?_⟩
  conv=>whnf
  exact ⟨(),[0,1,2,3,4,5],[],Sub.mk' rfl ⟨⟨rfl,rfl⟩,⟨rfl,rfl⟩,.inl rfl,trivial⟩ ⟨⟨rfl,.inl rfl,.inl rfl,.inl rfl,.inl rfl,.inl rfl,.inl rfl,.inl rfl,⟨rfl,rfl⟩,⟨rfl,rfl⟩,.inl rfl,trivial⟩,⟨rfl,rfl,rfl,rfl⟩,⟨rfl,rfl,rfl,rfl⟩,⟨rfl,.inl rfl,.inl rfl,.inl rfl,.inl rfl,.inl rfl,.inl rfl,.inl rfl,trivial⟩,trivial⟩ rfl rfl,trivial⟩
 rintro - - -
 conv=>whnf
 refine CutL.by (fun _:Unit=>⟨[(0,.ptr 0 0),(3,.ptr 5 0),(9,.tr (ti LI))],[(0,sR c (S2) 3 4),(3,ndsB (S2).nodes),(4,endB (S2).opens),(5,.cells 105 ((Stmt.mk 5 name other e body els at_).cells.map .tr))],20⟩) (fun _=>True) ?_ ?_
 ·conv=>whnf
  refine acall.new [0,3,4] [] _ _ _ _ (hp) rfl rfl rfl rfl aut aut rfl rfl ?_
  conv=>whnf
  intro _
  conv=>whnf
  exact ⟨(),[0,1,2,_,_,5],[],Sub.mk' rfl ⟨⟨rfl,rfl⟩,⟨rfl,rfl⟩,.inl rfl,trivial⟩ ⟨⟨rfl,.inl rfl,.inl rfl,.inl rfl,.inl rfl,.inl rfl,.inl rfl,.inl rfl,⟨rfl,rfl⟩,⟨rfl,rfl⟩,.inl rfl,trivial⟩,⟨rfl,rfl,rfl,rfl⟩,⟨rfl,rfl,rfl,rfl⟩,⟨rfl,.inl rfl,.inl rfl,.inl rfl,.inl rfl,.inl rfl,.inl rfl,.inl rfl,trivial⟩,trivial⟩ rfl rfl,trivial⟩
 rintro - - -
 conv=>whnf
 refine CutL.by (fun _:Unit=>⟨[(0,.ptr 0 0),(9,.tr (ti LI))],[(0,sR c (S3) 3 4),(3,ndsB (S3).nodes),(4,endB (S3).opens)],20⟩) (fun _=>True) ?_ ?_
 ·conv=>whnf
  refine acall.new [0,3,4] [] _ _ _ _ (hb) rfl rfl rfl rfl aut aut rfl rfl ?_
  conv=>whnf
  intro _
  conv=>whnf
  exact ⟨(),[0,1,2,_,_],[],Sub.mk' rfl ⟨⟨rfl,rfl⟩,.inl rfl,trivial⟩ ⟨⟨rfl,.inl rfl,.inl rfl,.inl rfl,.inl rfl,.inl rfl,.inl rfl,.inl rfl,⟨rfl,rfl⟩,⟨rfl,rfl⟩,.inl rfl,trivial⟩,⟨rfl,rfl,rfl,rfl⟩,⟨rfl,rfl,rfl,rfl⟩,trivial⟩ rfl rfl,trivial⟩
 rintro - - -
 conv=>whnf
 refine acall.new [0,3,4] [] _ _ _ _ (hp2) rfl rfl rfl rfl aut aut rfl rfl ?_
 conv=>whnf
 intro _
 conv=>whnf
 exact ⟨[0,1,2,_,_],rfl,rfl,trivial,⟨rfl,.inl rfl,.inl rfl,.inl rfl,.inl rfl,.inl rfl,.inl rfl,.inl rfl,⟨rfl,rfl⟩,⟨rfl,rfl⟩,.inl rfl,trivial⟩,⟨rfl,rfl,rfl,rfl⟩,⟨rfl,rfl,rfl,rfl⟩,trivial⟩
set_option maxRecDepth 100000 in
set_option maxHeartbeats 2000000 in
theorem r_swap (c:LowC) (name other:ByteArray) (e:List Expr) (body els:List Stmt) (at_:Int) (s:LowS) (he:1≤e.length) (hw:wfEs e=true) (hf:fitEs e=true) (h:OkA s):K 94 [.ptr 0 0,(Stmt.mk 2 name other e body els at_).av] (stIR c s) (.ret (.tup [])) (stOR c (swapS c name other (kid0S c e s).2 (kid0S c e s).1)):=by
 obtain ⟨e0,er,rfl⟩ : ∃ e0 er,e=e0::er:=by
  cases e with
  | nil=>exact absurd he (by simp)
  | cons a r=>exact ⟨a,r,rfl⟩
 have hw0:wfE e0=true:=by unfold wfEs at hw; rw [Bool.and_eq_true] at hw; exact hw.1
 have hk0:kid0S c (e0::er) s=exprS c e0 s:=by rw [kid0S]
 have hfe:fitE e0=true:=by unfold fitEs at hf; rw [Bool.and_eq_true] at hf; exact hf.1
 have hv:=k_exR c e0 s hw0 hfe h
 have hRel:=exprS_rel c e0 s
 rw [hk0]
 clear hk0
 generalize exprS c e0 s=A at hv hRel ⊢
 have hA:=h.relE hRel
 obtain ⟨q1,q2,q3,q4,q5,q6⟩:=e0
 have hloc:=k21 c.p (c.t:Nat) name
 have hsh:=k17 c.p other
 have hE:swapS c name other A.2 A.1=bif decide (localI c.p c.t name ≥ 0) then putS { nd00 with kind:=4,a:=A.2,thing:=findI c.p.shared other 0,slot:=localI c.p c.t name } A.1
  else giveS c name (inV (slotI A.1)) (putS { nd00 with kind:=4,a:=A.2,thing:=findI c.p.shared other 0,slot:=slotI A.1 } (slotS A.1)):=rfl
 generalize swapS c name other A.2 A.1=R at hE ⊢
 generalize localI c.p (c.t:Nat) name=LI at hloc hE
 generalize findI c.p.shared other 0=FI at hsh hE
 refine Ctr.mv [7,8,9,11,12,13] [0,3,4] 5 hT hmix Tryz.func94 rfl (fun _ _=>by kernel_rfl) rfl (fun hok => ?_)
 clear hok
 conv=>whnf
 refine CutL.by (fun _:Unit=>⟨[(0,.ptr 0 0),(3,.ptr 5 0),(5,.ptr 6 0)],[(0,sR c (A.1) 3 4),(3,ndsB (A.1).nodes),(4,endB (A.1).opens),(5,.cells 105 ((Stmt.mk 2 name other (Expr.mk q1 q2 q3 q4 q5 q6::er) body els at_).cells.map .tr)),(6,.cells 73 [.tr (tb A.2.s),.tr (ti A.2.k),.tr (ti A.2.w)])],20⟩) (fun _=>True) ?_ ?_
 ·conv=>whnf
  refine ⟨rfl,Int.le_refl 0,(show (0:Int)<((Expr.rows (Expr.mk q1 q2 q3 q4 q5 q6::er)).length:Int) by rw [erows_len,List.length_cons]; omega),fun row hrow => ?_⟩
  obtain rfl:Expr.cells (.mk q1 q2 q3 q4 q5 q6)=row:=Option.some.inj hrow
  clear hrow
  conv=>whnf
  refine acall.new [0,3,4] [] _ _ _ _ (hv) rfl rfl rfl rfl aut aut rfl rfl ?_
  conv=>whnf
  intro _
  conv=>whnf
  exact ⟨(),[0,1,2,_,_,5,_],[],Sub.mk' rfl ⟨⟨rfl,rfl⟩,⟨rfl,rfl⟩,⟨rfl,rfl⟩,trivial⟩ ⟨⟨rfl,.inl rfl,.inl rfl,.inl rfl,.inl rfl,.inl rfl,.inl rfl,.inl rfl,⟨rfl,rfl⟩,⟨rfl,rfl⟩,.inl rfl,trivial⟩,⟨rfl,rfl,rfl,rfl⟩,⟨rfl,rfl,rfl,rfl⟩,⟨rfl,.inl rfl,.inl rfl,.inl rfl,.inl rfl,.inl rfl,.inl rfl,.inl rfl,trivial⟩,⟨rfl,.inl rfl,.inl rfl,.inl rfl,trivial⟩,trivial⟩ rfl rfl,trivial⟩
 rintro - - -
 conv=>whnf
 refine CutL.by (fun _:Unit=>⟨[(0,.ptr 0 0),(3,.ptr 5 0),(5,.ptr 6 0),(6,.tr (ti FI))],[(0,sR c (A.1) 3 4),(3,ndsB (A.1).nodes),(4,endB (A.1).opens),(5,.cells 105 ((Stmt.mk 2 name other (Expr.mk q1 q2 q3 q4 q5 q6::er) body els at_).cells.map .tr)),(6,.cells 73 [.tr (tb A.2.s),.tr (ti A.2.k),.tr (ti A.2.w)])],20⟩) (fun _=>True) ?_ ?_
 ·conv=>whnf
  refine acall.pure _ (hsh) rfl rfl ?_
  conv=>whnf
  refine ⟨by kernel_rfl,fun _ => ?_⟩
  conv=>whnf
  exact ⟨(),[0,1,2,3,4,5,6],[],Sub.mk' rfl ⟨⟨rfl,rfl⟩,⟨rfl,rfl⟩,⟨rfl,rfl⟩,.inl rfl,trivial⟩ ⟨⟨rfl,.inl rfl,.inl rfl,.inl rfl,.inl rfl,.inl rfl,.inl rfl,.inl rfl,⟨rfl,rfl⟩,⟨rfl,rfl⟩,.inl rfl,trivial⟩,⟨rfl,rfl,rfl,rfl⟩,⟨rfl,rfl,rfl,rfl⟩,⟨rfl,.inl rfl,.inl rfl,.inl rfl,.inl rfl,.inl rfl,.inl rfl,.inl rfl,trivial⟩,⟨rfl,.inl rfl,.inl rfl,.inl rfl,trivial⟩,trivial⟩ rfl rfl,trivial⟩
 rintro - - -
 conv=>whnf
 refine CutL.by (fun _:Unit=>⟨[(0,.ptr 0 0),(3,.ptr 5 0),(5,.ptr 6 0),(6,.tr (ti FI)),(7,.tr (ti LI))],[(0,sR c (A.1) 3 4),(3,ndsB (A.1).nodes),(4,endB (A.1).opens),(5,.cells 105 ((Stmt.mk 2 name other (Expr.mk q1 q2 q3 q4 q5 q6::er) body els at_).cells.map .tr)),(6,.cells 73 [.tr (tb A.2.s),.tr (ti A.2.k),.tr (ti A.2.w)])],20⟩) (fun _=>True) ?_ ?_
 ·conv=>whnf
  refine acall.pure _ (hloc) rfl rfl ?_
  conv=>whnf
  refine ⟨by kernel_rfl,fun _ => ?_⟩
  conv=>whnf
  exact ⟨(),[0,1,2,3,4,5,6],[],Sub.mk' rfl ⟨⟨rfl,rfl⟩,⟨rfl,rfl⟩,⟨rfl,rfl⟩,.inl rfl,.inl rfl,trivial⟩ ⟨⟨rfl,.inl rfl,.inl rfl,.inl rfl,.inl rfl,.inl rfl,.inl rfl,.inl rfl,⟨rfl,rfl⟩,⟨rfl,rfl⟩,.inl rfl,trivial⟩,⟨rfl,rfl,rfl,rfl⟩,⟨rfl,rfl,rfl,rfl⟩,⟨rfl,.inl rfl,.inl rfl,.inl rfl,.inl rfl,.inl rfl,.inl rfl,.inl rfl,trivial⟩,⟨rfl,.inl rfl,.inl rfl,.inl rfl,trivial⟩,trivial⟩ rfl rfl,trivial⟩
 rintro - - -
 conv=>whnf
 refine CutL.by (fun _:Unit=>⟨[(0,.ptr 0 0),(3,.ptr 5 0),(5,.ptr 6 0),(6,.tr (ti FI))],[(0,sR c (A.1) 3 4),(3,ndsB (A.1).nodes),(4,endB (A.1).opens),(5,.cells 105 ((Stmt.mk 2 name other (Expr.mk q1 q2 q3 q4 q5 q6::er) body els at_).cells.map .tr)),(6,.cells 73 [.tr (tb A.2.s),.tr (ti A.2.k),.tr (ti A.2.w)])],20⟩) (fun _=>decide (LI ≥ 0)=false) ?_ ?_
 ·conv=>whnf
  cases h3:decide (LI ≥ 0) with
  | true =>
   rw [h3,cond_true] at hE
   have hp:=k_putR c { nd00 with kind:=4,a:=A.2,thing:=FI,slot:=LI } A.1 hA
   rw [← hE] at hp
   clear hE
   conv=>whnf
   refine acall.new [0,3,4] [] _ _ _ _ (hp) rfl rfl rfl rfl aut aut rfl rfl ?_
   conv=>whnf
   intro _
   conv=>whnf
   exact ⟨[0,1,2,_,_],rfl,rfl,trivial,⟨rfl,.inl rfl,.inl rfl,.inl rfl,.inl rfl,.inl rfl,.inl rfl,.inl rfl,⟨rfl,rfl⟩,⟨rfl,rfl⟩,.inl rfl,trivial⟩,⟨rfl,rfl,rfl,rfl⟩,⟨rfl,rfl,rfl,rfl⟩,trivial⟩
  | false =>
   conv=>whnf
   exact ⟨(),[0,1,2,3,4,5,6],[],Sub.mk' rfl ⟨⟨rfl,rfl⟩,⟨rfl,rfl⟩,⟨rfl,rfl⟩,.inl rfl,trivial⟩ ⟨⟨rfl,.inl rfl,.inl rfl,.inl rfl,.inl rfl,.inl rfl,.inl rfl,.inl rfl,⟨rfl,rfl⟩,⟨rfl,rfl⟩,.inl rfl,trivial⟩,⟨rfl,rfl,rfl,rfl⟩,⟨rfl,rfl,rfl,rfl⟩,⟨rfl,.inl rfl,.inl rfl,.inl rfl,.inl rfl,.inl rfl,.inl rfl,.inl rfl,trivial⟩,⟨rfl,.inl rfl,.inl rfl,.inl rfl,trivial⟩,trivial⟩ rfl rfl,rfl⟩
 rintro - h3 -
 rw [h3,cond_false] at hE
 have hA1:=hA.relE (slotS_rel A.1)
 have hp:=k_putR c { nd00 with kind:=4,a:=A.2,thing:=FI,slot:=slotI A.1 } (slotS A.1) hA1
 have hA2:=hA1.relE (putS_rel { nd00 with kind:=4,a:=A.2,thing:=FI,slot:=slotI A.1 } (slotS A.1))
 generalize putS { nd00 with kind:=4,a:=A.2,thing:=FI,slot:=slotI A.1 } (slotS A.1)=S2 at hE hp hA2
 have hg:=k_storeR c name (inV (slotI A.1)) S2 hA2
 rw [← hE] at hg
 clear hE
 conv=>whnf
 refine CutL.by (fun _:Unit=>⟨[(0,.ptr 0 0),(3,.ptr 5 0),(5,.ptr 6 0),(6,.tr (ti FI)),(7,.tr (ti (slotI A.1)))],[(0,sR c (slotS A.1) 3 4),(3,ndsB (slotS A.1).nodes),(4,endB (slotS A.1).opens),(5,.cells 105 ((Stmt.mk 2 name other (Expr.mk q1 q2 q3 q4 q5 q6::er) body els at_).cells.map .tr)),(6,.cells 73 [.tr (tb A.2.s),.tr (ti A.2.k),.tr (ti A.2.w)])],20⟩) (fun _=>True) ?_ ?_
 ·conv=>whnf
  refine acall.au [0,3,4] [] (k_slotR c A.1) ?_
  intro _
  conv=>whnf
  exact ⟨(),[0,1,2,3,4,5,6],[],Sub.mk' rfl ⟨⟨rfl,rfl⟩,⟨rfl,rfl⟩,⟨rfl,rfl⟩,.inl rfl,.inl rfl,trivial⟩ ⟨⟨rfl,.inl rfl,.inl rfl,.inl rfl,.inl rfl,.inl rfl,.inl rfl,.inl rfl,⟨rfl,rfl⟩,⟨rfl,rfl⟩,.inl rfl,trivial⟩,⟨rfl,rfl,rfl,rfl⟩,⟨rfl,rfl,rfl,rfl⟩,⟨rfl,.inl rfl,.inl rfl,.inl rfl,.inl rfl,.inl rfl,.inl rfl,.inl rfl,trivial⟩,⟨rfl,.inl rfl,.inl rfl,.inl rfl,trivial⟩,trivial⟩ rfl rfl,trivial⟩
 rintro - - -
 conv=>whnf
 refine CutL.by (fun _:Unit=>⟨[(0,.ptr 0 0),(3,.ptr 5 0),(7,.tr (ti (slotI A.1)))],[(0,sR c (S2) 3 4),(3,ndsB (S2).nodes),(4,endB (S2).opens),(5,.cells 105 ((Stmt.mk 2 name other (Expr.mk q1 q2 q3 q4 q5 q6::er) body els at_).cells.map .tr))],20⟩) (fun _=>True) ?_ ?_
 ·conv=>whnf
  refine acall.new [0,3,4] [] _ _ _ _ (hp) rfl rfl rfl rfl aut aut rfl rfl ?_
  conv=>whnf
  intro _
  conv=>whnf
  exact ⟨(),[0,1,2,_,_,5],[],Sub.mk' rfl ⟨⟨rfl,rfl⟩,⟨rfl,rfl⟩,.inl rfl,trivial⟩ ⟨⟨rfl,.inl rfl,.inl rfl,.inl rfl,.inl rfl,.inl rfl,.inl rfl,.inl rfl,⟨rfl,rfl⟩,⟨rfl,rfl⟩,.inl rfl,trivial⟩,⟨rfl,rfl,rfl,rfl⟩,⟨rfl,rfl,rfl,rfl⟩,⟨rfl,.inl rfl,.inl rfl,.inl rfl,.inl rfl,.inl rfl,.inl rfl,.inl rfl,trivial⟩,trivial⟩ rfl rfl,trivial⟩
 rintro - - -
 conv=>whnf
 refine acall.pure _ (k_rin (slotI A.1)) rfl rfl ?_
 conv=>whnf
 refine acall.new [0,3,4] [] _ _ _ _ (hg) rfl rfl rfl rfl aut aut rfl rfl ?_
 conv=>whnf
 refine ⟨by kernel_rfl,fun _ => ?_⟩
 conv=>whnf
 exact ⟨[0,1,2,_,_],rfl,rfl,trivial,⟨rfl,.inl rfl,.inl rfl,.inl rfl,.inl rfl,.inl rfl,.inl rfl,.inl rfl,⟨rfl,rfl⟩,⟨rfl,rfl⟩,.inl rfl,trivial⟩,⟨rfl,rfl,rfl,rfl⟩,⟨rfl,rfl,rfl,rfl⟩,trivial⟩
end Go.Proofs.YthboippafkcoiaaGreatDoor.am
namespace Go.Proofs.YthboippafkcoiaaGreatDoor.am
open Go Go.Proofs
set_option linter.all false
theorem ints_src {m:Mem} {h e n:Nat} {rows:List (List Tr)} (hm:m h=some (.vec e 1 8 rows)) (hn:n=rows.length):srcRows 1 m (.sl h n)=some (rows,[(h,.vec e 1 8 rows)]):=by
 subst hn
 show (match m h with | some (.vec e n' B rows')=>bif Nat.beq 1 n' && Nat.ble rows.length rows'.length then some (rows'.take rows.length,[(h,Blk.vec e n' B rows')]) else none | _=>none)=_
 rw [hm]
 simp only [Nat.beq_refl,Bool.true_and]
 rw [show Nat.ble rows.length rows.length=true from Nat.ble_eq_true_of_le (Nat.le_refl _),List.take_of_length_le (Nat.le_refl _)]
 rfl
set_option maxRecDepth 100000 in
set_option maxHeartbeats 2000000 in
theorem r_cond (c:LowC) (name other:ByteArray) (e:List Expr) (body els:List Stmt) (at_:Int) (s:LowS) (he:1≤e.length) (hw:wfEs e=true) (hf:fitEs e=true) (h:OkA s) (ho:s.over=false) (hB:RBlk c body) (hL:RBlk c els):K 94 [.ptr 0 0,(Stmt.mk 3 name other e body els at_).av] (stIR c s) (.ret (.tup [])) (stOR c (openS ((blockR c body (putS { nd00 with kind:=8,a:=(kid0S c e s).2 } (kid0S c e s).1)).opens++(blockR c els (openS [(true,(putI (kid0S c e s).1).toNat)] (blockR c body (putS { nd00 with kind:=8,a:=(kid0S c e s).2 } (kid0S c e s).1)))).opens) (blockR c els (openS [(true,(putI (kid0S c e s).1).toNat)] (blockR c body (putS { nd00 with kind:=8,a:=(kid0S c e s).2 } (kid0S c e s).1)))))):=by
 obtain ⟨e0,er,rfl⟩ : ∃ e0 er,e=e0::er:=by
  cases e with
  | nil=>exact absurd he (by simp)
  | cons a r=>exact ⟨a,r,rfl⟩
 have hw0:wfE e0=true:=by unfold wfEs at hw; rw [Bool.and_eq_true] at hw; exact hw.1
 have hk0:kid0S c (e0::er) s=exprS c e0 s:=by rw [kid0S]
 have hfe:fitE e0=true:=by unfold fitEs at hf; rw [Bool.and_eq_true] at hf; exact hf.1
 have hv:=k_exR c e0 s hw0 hfe h
 have hRel:=exprS_rel c e0 s
 rw [hk0]
 clear hk0
 generalize exprS c e0 s=A at hv hRel ⊢
 have hA:=h.relE hRel
 obtain ⟨q1,q2,q3,q4,q5,q6⟩:=e0
 have hp:=k_putR c { nd00 with kind:=8,a:=A.2 } A.1 hA
 have hpr:=putS_rel { nd00 with kind:=8,a:=A.2 } A.1
 obtain ⟨b,hb1,hb2,hb3⟩:=putI_nat A.1
 have hbm:b≤1000000:=by have:=hA.cap; omega
 have hz:=neg_enc hbm
 have hcr:=fun s2 s3 s5 h2 h3 h3o h5 h5o=>cond_rel (s:=s) (s1:=A.1) (s2:=s2) (s3:=s3) (s5:=s5) { nd00 with kind:=8,a:=A.2 } ho hRel h2 h3 h3o h5 h5o
 have hpin:=fun s3 h3=>putI_in (s:=A.1) (s3:=s3) { nd00 with kind:=8,a:=A.2 } h3
 rw [hb2] at hcr hpin ⊢
 rw [hb1] at hp
 obtain ⟨S2,hS2⟩ : ∃ S2,S2=putS { nd00 with kind:=8,a:=A.2 } A.1:=⟨_,rfl⟩
 rw [← hS2] at hp hpr hpin ⊢
 have hcr:=fun s3 s5 h3 h3o h5 h5o=>hcr S2 s3 s5 hS2 h3 h3o h5 h5o
 have h2:=hA.relE hpr
 have hbk:=hB S2 h2
 have hr3:=blockR_rel c body S2
 have h3:=h2.rel hr3
 have hcr:=fun s5 h5 h5o=>hcr (blockR c body S2) s5 hr3 (fun q=>blockR_over c body q) h5 h5o
 have hpin:=hpin (blockR c body S2) hr3
 clear hS2 hpr
 generalize blockR c body S2=S3 at hbk h3 hcr hpin ⊢
 have h4:OkA (openS [(true,b)] S3):=⟨fun o ho=>by
   have ho:o ∈ [(true,b)]:=ho
   rw [List.mem_singleton] at ho
   subst ho
   exact hpin,h3.cap,by show 1≤1+S3.nodes.length+ov S3.over; omega⟩
 have hlk:=hL (openS [(true,b)] S3) h4
 have hr5:=blockR_rel c els (openS [(true,b)] S3)
 have h5:=h4.rel hr5
 have hcr:=h.rel (hcr (blockR c els (openS [(true,b)] S3)) hr5 (fun q=>blockR_over c els q))
 generalize blockR c els (openS [(true,b)] S3)=S5 at hlk h5 hcr ⊢
 have hfew:S3.opens.length+S5.opens.length≤1000000:=by
  have:=hcr.ok.few
  have this:(S3.opens++S5.opens).length≤1000000:=this
  rwa [List.length_append] at this
 clear hB hL hr3 hr5 h4 hcr
 refine Ctr.mv [24,25,26,28,29] [0,3,4] 5 hT hmix Tryz.func94 rfl (fun _ _=>by kernel_rfl) rfl (fun hok => ?_)
 clear hok
 conv=>whnf
 refine CutL.by (fun _:Unit=>⟨[(0,.ptr 0 0),(3,.ptr 5 0),(10,.ptr 6 0)],[(0,sR c (A.1) 3 4),(3,ndsB (A.1).nodes),(4,endB (A.1).opens),(5,.cells 105 ((Stmt.mk 3 name other (Expr.mk q1 q2 q3 q4 q5 q6::er) body els at_).cells.map .tr)),(6,.cells 73 [.tr (tb A.2.s),.tr (ti A.2.k),.tr (ti A.2.w)])],20⟩) (fun _=>True) ?_ ?_
 ·conv=>whnf
  refine ⟨rfl,Int.le_refl 0,(show (0:Int)<((Expr.rows (Expr.mk q1 q2 q3 q4 q5 q6::er)).length:Int) by rw [erows_len,List.length_cons]; omega),fun row hrow => ?_⟩
  obtain rfl:Expr.cells (.mk q1 q2 q3 q4 q5 q6)=row:=Option.some.inj hrow
  clear hrow
  conv=>whnf
  refine acall.new [0,3,4] [] _ _ _ _ (hv) rfl rfl rfl rfl aut aut rfl rfl ?_
  conv=>whnf
  intro _
  conv=>whnf
  exact ⟨(),[0,1,2,_,_,5,_],[],Sub.mk' rfl ⟨⟨rfl,rfl⟩,⟨rfl,rfl⟩,⟨rfl,rfl⟩,trivial⟩ ⟨⟨rfl,.inl rfl,.inl rfl,.inl rfl,.inl rfl,.inl rfl,.inl rfl,.inl rfl,⟨rfl,rfl⟩,⟨rfl,rfl⟩,.inl rfl,trivial⟩,⟨rfl,rfl,rfl,rfl⟩,⟨rfl,rfl,rfl,rfl⟩,⟨rfl,.inl rfl,.inl rfl,.inl rfl,.inl rfl,.inl rfl,.inl rfl,.inl rfl,trivial⟩,⟨rfl,.inl rfl,.inl rfl,.inl rfl,trivial⟩,trivial⟩ rfl rfl,trivial⟩
 rintro - - -
 conv=>whnf
 refine CutL.by (fun _:Unit=>⟨[(0,.ptr 0 0),(3,.ptr 5 0),(11,.tr (ti (b:Nat)))],[(0,sR c (S2) 3 4),(3,ndsB (S2).nodes),(4,endB (S2).opens),(5,.cells 105 ((Stmt.mk 3 name other (Expr.mk q1 q2 q3 q4 q5 q6::er) body els at_).cells.map .tr))],20⟩) (fun _=>True) ?_ ?_
 ·conv=>whnf
  refine acall.new [0,3,4] [] _ _ _ _ (hp) rfl rfl rfl rfl aut aut rfl rfl ?_
  conv=>whnf
  intro _
  conv=>whnf
  exact ⟨(),[0,1,2,_,_,5],[],Sub.mk' rfl ⟨⟨rfl,rfl⟩,⟨rfl,rfl⟩,.inl rfl,trivial⟩ ⟨⟨rfl,.inl rfl,.inl rfl,.inl rfl,.inl rfl,.inl rfl,.inl rfl,.inl rfl,⟨rfl,rfl⟩,⟨rfl,rfl⟩,.inl rfl,trivial⟩,⟨rfl,rfl,rfl,rfl⟩,⟨rfl,rfl,rfl,rfl⟩,⟨rfl,.inl rfl,.inl rfl,.inl rfl,.inl rfl,.inl rfl,.inl rfl,.inl rfl,trivial⟩,trivial⟩ rfl rfl,trivial⟩
 rintro - - -
 conv=>whnf
 refine CutL.by (fun _:Unit=>⟨[(0,.ptr 0 0),(3,.ptr 5 0),(11,.tr (ti (b:Nat)))],[(0,sR c (S3) 3 4),(3,ndsB (S3).nodes),(4,endB (S3).opens),(5,.cells 105 ((Stmt.mk 3 name other (Expr.mk q1 q2 q3 q4 q5 q6::er) body els at_).cells.map .tr))],20⟩) (fun _=>True) ?_ ?_
 ·conv=>whnf
  refine acall.new [0,3,4] [] _ _ _ _ (hbk) rfl rfl rfl rfl aut aut rfl rfl ?_
  conv=>whnf
  intro _
  conv=>whnf
  exact ⟨(),[0,1,2,_,_,5],[],Sub.mk' rfl ⟨⟨rfl,rfl⟩,⟨rfl,rfl⟩,.inl rfl,trivial⟩ ⟨⟨rfl,.inl rfl,.inl rfl,.inl rfl,.inl rfl,.inl rfl,.inl rfl,.inl rfl,⟨rfl,rfl⟩,⟨rfl,rfl⟩,.inl rfl,trivial⟩,⟨rfl,rfl,rfl,rfl⟩,⟨rfl,rfl,rfl,rfl⟩,⟨rfl,.inl rfl,.inl rfl,.inl rfl,.inl rfl,.inl rfl,.inl rfl,.inl rfl,trivial⟩,trivial⟩ rfl rfl,trivial⟩
 rintro - - -
 conv=>whnf
 refine CutL.by (fun _:Unit=>⟨[(0,.ptr 0 0),(3,.ptr 5 0),(12,.sl 6 S3.opens.length)],[(0,sR c (openS [(true,b)] S3) 3 4),(3,ndsB (openS [(true,b)] S3).nodes),(4,endB (openS [(true,b)] S3).opens),(5,.cells 105 ((Stmt.mk 3 name other (Expr.mk q1 q2 q3 q4 q5 q6::er) body els at_).cells.map .tr)),(6,endB S3.opens)],20⟩) (fun _=>True) ?_ ?_
 ·conv=>whnf
  exact ⟨(),[0,1,2,3,_,5,4],[],Sub.mk' rfl ⟨⟨rfl,rfl⟩,⟨rfl,rfl⟩,⟨rfl,rfl⟩,trivial⟩ ⟨⟨rfl,.inl rfl,.inl rfl,.inl rfl,.inl rfl,.inl rfl,.inl rfl,.inl rfl,⟨rfl,rfl⟩,⟨rfl,rfl⟩,.inl rfl,trivial⟩,⟨rfl,rfl,rfl,rfl⟩,⟨rfl,rfl,rfl,by rw [hz]; rfl⟩,⟨rfl,.inl rfl,.inl rfl,.inl rfl,.inl rfl,.inl rfl,.inl rfl,.inl rfl,trivial⟩,⟨rfl,rfl,rfl,rfl⟩,trivial⟩ rfl rfl,trivial⟩
 rintro - - -
 conv=>whnf
 refine CutL.by (fun _:Unit=>⟨[(0,.ptr 0 0),(12,.sl 6 S3.opens.length)],[(0,sR c (S5) 3 4),(3,ndsB (S5).nodes),(4,endB (S5).opens),(6,endB S3.opens)],20⟩) (fun _=>True) ?_ ?_
 ·conv=>whnf
  refine acall.new [0,3,4] [] _ _ _ _ (hlk) rfl rfl rfl rfl aut aut rfl rfl ?_
  conv=>whnf
  intro _
  conv=>whnf
  exact ⟨(),[0,1,2,_,_,5,6],[],Sub.mk' rfl ⟨⟨rfl,rfl⟩,⟨rfl,rfl⟩,trivial⟩ ⟨⟨rfl,.inl rfl,.inl rfl,.inl rfl,.inl rfl,.inl rfl,.inl rfl,.inl rfl,⟨rfl,rfl⟩,⟨rfl,rfl⟩,.inl rfl,trivial⟩,⟨rfl,rfl,rfl,rfl⟩,⟨rfl,rfl,rfl,rfl⟩,⟨rfl,rfl,rfl,rfl⟩,trivial⟩ rfl rfl,trivial⟩
 rintro - - -
 conv=>whnf
 rw [ints_src (h:=6) (e := 3) (rows:=S3.opens.map encR) ?hm (List.length_map ..).symm]
 case hm=>rfl
 conv=>whnf
 refine ⟨rfl,rfl,rfl,Nat.zero_le _,(by show (0+(S3.opens.map encR).length)*8≤_; rw [List.length_map]; omega),fun q hq => ?_,?_⟩
 ·cases hq with
  | head=>exact Nat.ne_of_beq_eq_false rfl
  | tail _ h=>cases h
 conv=>whnf
 rw [ints_src (h:=4) (e := 3) (rows:=S5.opens.map encR) ?hm2 (List.length_map ..).symm]
 case hm2=>rfl
 conv=>whnf
 refine ⟨rfl,rfl,rfl,(by show 0+(S3.opens.map encR).length≤(List.take 0 []++S3.opens.map encR).length; simp),(by show (0+(S3.opens.map encR).length+(S5.opens.map encR).length)*8≤_; rw [List.length_map,List.length_map]; omega),fun q hq => ?_,?_⟩
 ·cases hq with
  | head=>exact Nat.ne_of_beq_eq_false rfl
  | tail _ h=>cases h
 conv=>whnf
 refine ⟨by kernel_rfl,fun _ => ?_⟩
 conv=>whnf
 exact ⟨[0,1,2,3,_],rfl,rfl,trivial,⟨rfl,.inl rfl,.inl rfl,.inl rfl,.inl rfl,.inl rfl,.inl rfl,.inl rfl,⟨rfl,rfl⟩,⟨rfl,(by show 0+(S3.opens.map encR).length+(S5.opens.map encR).length=(S3.opens++S5.opens).length; rw [List.length_map,List.length_map,List.length_append]; omega)⟩,.inl rfl,trivial⟩,⟨rfl,rfl,rfl,rfl⟩,⟨rfl,rfl,rfl,(by show List.take (0+(S3.opens.map encR).length) (List.take 0 []++S3.opens.map encR)++S5.opens.map encR=(S3.opens++S5.opens).map encR; rw [Nat.zero_add,List.take_zero,List.nil_append,List.take_length,List.map_append])⟩,trivial⟩
set_option maxRecDepth 100000 in
set_option maxHeartbeats 2000000 in
theorem r_loop (c:LowC) (name other:ByteArray) (e:List Expr) (body els:List Stmt) (at_:Int) (s:LowS) (he:1≤e.length) (hw:wfEs e=true) (hf:fitEs e=true) (h:OkA s) (hB:RBlk c body):K 94 [.ptr 0 0,(Stmt.mk 4 name other e body els at_).av] (stIR c s) (.ret (.tup [])) (stOR c ({ (blockR c body (putS { nd00 with kind:=8,a:=(kid0S c e s).2 } (kid0S c e s).1)) with nodes:=bif (blockR c body (putS { nd00 with kind:=8,a:=(kid0S c e s).2 } (kid0S c e s).1)).over then (blockR c body (putS { nd00 with kind:=8,a:=(kid0S c e s).2 } (kid0S c e s).1)).nodes else leadN s.nodes.length (blockR c body (putS { nd00 with kind:=8,a:=(kid0S c e s).2 } (kid0S c e s).1)).opens (blockR c body (putS { nd00 with kind:=8,a:=(kid0S c e s).2 } (kid0S c e s).1)).nodes,opens:=[(true,(putI (kid0S c e s).1).toNat)] })):=by
 obtain ⟨e0,er,rfl⟩ : ∃ e0 er,e=e0::er:=by
  cases e with
  | nil=>exact absurd he (by simp)
  | cons a r=>exact ⟨a,r,rfl⟩
 have hw0:wfE e0=true:=by unfold wfEs at hw; rw [Bool.and_eq_true] at hw; exact hw.1
 have hk0:kid0S c (e0::er) s=exprS c e0 s:=by rw [kid0S]
 have hfe:fitE e0=true:=by unfold fitEs at hf; rw [Bool.and_eq_true] at hf; exact hf.1
 have hv:=k_exR c e0 s hw0 hfe h
 have hRel:=exprS_rel c e0 s
 rw [hk0]
 clear hk0
 generalize exprS c e0 s=A at hv hRel ⊢
 have hA:=h.relE hRel
 obtain ⟨q1,q2,q3,q4,q5,q6⟩:=e0
 have hp:=k_putR c { nd00 with kind:=8,a:=A.2 } A.1 hA
 have hpr:=putS_rel { nd00 with kind:=8,a:=A.2 } A.1
 obtain ⟨b,hb1,hb2,hb3⟩:=putI_nat A.1
 have hbm:b≤1000000:=by have:=hA.cap; omega
 have hz:=neg_enc hbm
 rw [hb2]
 rw [hb1] at hp
 generalize putS { nd00 with kind:=8,a:=A.2 } A.1=S2 at hp hpr ⊢
 have h2:=hA.relE hpr
 have hbk:=hB S2 h2
 have h3:=h2.rel (blockR_rel c body S2)
 generalize blockR c body S2=S3 at hbk h3 ⊢
 have hLl:=leadN_len s.nodes.length S3.opens S3.nodes
 have hld:=k_fillR c S3.slots S3.over s.nodes.length S3.nodes S3.opens h3.inn h3.ok.few (by have:=h3.cap; omega)
 generalize leadN s.nodes.length S3.opens S3.nodes=L3 at hLl hld ⊢
 clear hB
 refine Ctr.mv [32,33,34,35,37] [0,3,4] 5 hT hmix Tryz.func94 rfl (fun _ _=>by kernel_rfl) rfl (fun hok => ?_)
 clear hok
 conv=>whnf
 refine CutL.by (fun _:Unit=>⟨[(0,.ptr 0 0),(3,.ptr 5 0),(13,.tr (ti (s.nodes.length:Nat)))],[(0,sR c (s) 3 4),(3,ndsB (s).nodes),(4,endB (s).opens),(5,.cells 105 ((Stmt.mk 4 name other (Expr.mk q1 q2 q3 q4 q5 q6::er) body els at_).cells.map .tr))],20⟩) (fun _=>True) ?_ ?_
 ·conv=>whnf
  exact ⟨(),[0,1,2,3,4,5],[],Sub.mk' rfl ⟨⟨rfl,rfl⟩,⟨rfl,rfl⟩,.inl rfl,trivial⟩ ⟨⟨rfl,.inl rfl,.inl rfl,.inl rfl,.inl rfl,.inl rfl,.inl rfl,.inl rfl,⟨rfl,rfl⟩,⟨rfl,rfl⟩,.inl rfl,trivial⟩,⟨rfl,rfl,rfl,rfl⟩,⟨rfl,rfl,rfl,rfl⟩,⟨rfl,.inl rfl,.inl rfl,.inl rfl,.inl rfl,.inl rfl,.inl rfl,.inl rfl,trivial⟩,trivial⟩ rfl rfl,trivial⟩
 rintro - - -
 conv=>whnf
 refine CutL.by (fun _:Unit=>⟨[(0,.ptr 0 0),(3,.ptr 5 0),(14,.ptr 6 0),(13,.tr (ti (s.nodes.length:Nat)))],[(0,sR c (A.1) 3 4),(3,ndsB (A.1).nodes),(4,endB (A.1).opens),(5,.cells 105 ((Stmt.mk 4 name other (Expr.mk q1 q2 q3 q4 q5 q6::er) body els at_).cells.map .tr)),(6,.cells 73 [.tr (tb A.2.s),.tr (ti A.2.k),.tr (ti A.2.w)])],20⟩) (fun _=>True) ?_ ?_
 ·conv=>whnf
  refine ⟨rfl,Int.le_refl 0,(show (0:Int)<((Expr.rows (Expr.mk q1 q2 q3 q4 q5 q6::er)).length:Int) by rw [erows_len,List.length_cons]; omega),fun row hrow => ?_⟩
  obtain rfl:Expr.cells (.mk q1 q2 q3 q4 q5 q6)=row:=Option.some.inj hrow
  clear hrow
  conv=>whnf
  refine acall.new [0,3,4] [] _ _ _ _ (hv) rfl rfl rfl rfl aut aut rfl rfl ?_
  conv=>whnf
  intro _
  conv=>whnf
  exact ⟨(),[0,1,2,_,_,5,_],[],Sub.mk' rfl ⟨⟨rfl,rfl⟩,⟨rfl,rfl⟩,⟨rfl,rfl⟩,.inl rfl,trivial⟩ ⟨⟨rfl,.inl rfl,.inl rfl,.inl rfl,.inl rfl,.inl rfl,.inl rfl,.inl rfl,⟨rfl,rfl⟩,⟨rfl,rfl⟩,.inl rfl,trivial⟩,⟨rfl,rfl,rfl,rfl⟩,⟨rfl,rfl,rfl,rfl⟩,⟨rfl,.inl rfl,.inl rfl,.inl rfl,.inl rfl,.inl rfl,.inl rfl,.inl rfl,trivial⟩,⟨rfl,.inl rfl,.inl rfl,.inl rfl,trivial⟩,trivial⟩ rfl rfl,trivial⟩
 rintro - - -
 conv=>whnf
 refine CutL.by (fun _:Unit=>⟨[(0,.ptr 0 0),(3,.ptr 5 0),(13,.tr (ti (s.nodes.length:Nat))),(15,.tr (ti (b:Nat)))],[(0,sR c (S2) 3 4),(3,ndsB (S2).nodes),(4,endB (S2).opens),(5,.cells 105 ((Stmt.mk 4 name other (Expr.mk q1 q2 q3 q4 q5 q6::er) body els at_).cells.map .tr))],20⟩) (fun _=>True) ?_ ?_
 ·conv=>whnf
  refine acall.new [0,3,4] [] _ _ _ _ (hp) rfl rfl rfl rfl aut aut rfl rfl ?_
  conv=>whnf
  intro _
  conv=>whnf
  exact ⟨(),[0,1,2,_,_,5],[],Sub.mk' rfl ⟨⟨rfl,rfl⟩,⟨rfl,rfl⟩,.inl rfl,.inl rfl,trivial⟩ ⟨⟨rfl,.inl rfl,.inl rfl,.inl rfl,.inl rfl,.inl rfl,.inl rfl,.inl rfl,⟨rfl,rfl⟩,⟨rfl,rfl⟩,.inl rfl,trivial⟩,⟨rfl,rfl,rfl,rfl⟩,⟨rfl,rfl,rfl,rfl⟩,⟨rfl,.inl rfl,.inl rfl,.inl rfl,.inl rfl,.inl rfl,.inl rfl,.inl rfl,trivial⟩,trivial⟩ rfl rfl,trivial⟩
 rintro - - -
 conv=>whnf
 refine CutL.by (fun _:Unit=>⟨[(0,.ptr 0 0),(13,.tr (ti (s.nodes.length:Nat))),(15,.tr (ti (b:Nat)))],[(0,sR c (S3) 3 4),(3,ndsB (S3).nodes),(4,endB (S3).opens)],20⟩) (fun _=>True) ?_ ?_
 ·conv=>whnf
  refine acall.new [0,3,4] [] _ _ _ _ (hbk) rfl rfl rfl rfl aut aut rfl rfl ?_
  conv=>whnf
  intro _
  conv=>whnf
  exact ⟨(),[0,1,2,_,_],[],Sub.mk' rfl ⟨⟨rfl,rfl⟩,.inl rfl,.inl rfl,trivial⟩ ⟨⟨rfl,.inl rfl,.inl rfl,.inl rfl,.inl rfl,.inl rfl,.inl rfl,.inl rfl,⟨rfl,rfl⟩,⟨rfl,rfl⟩,.inl rfl,trivial⟩,⟨rfl,rfl,rfl,rfl⟩,⟨rfl,rfl,rfl,rfl⟩,trivial⟩ rfl rfl,trivial⟩
 rintro - - -
 obtain ⟨sl3,n3,o3,v3⟩:=S3
 simp only at hLl hld ⊢
 cases v3 with
 | true =>
  conv=>whnf
  refine CutL.by (fun _:Unit=>⟨[(0,.ptr 0 0),(15,.tr (ti (b:Nat)))],[(0,sR c ⟨sl3,n3,o3,true⟩ 3 4),(3,ndsB n3),(4,endB o3)],20⟩) (fun _=>True) ?_ ?_
  ·conv=>whnf
   exact ⟨(),[0,1,2,3,4],[],Sub.mk' rfl ⟨⟨rfl,rfl⟩,.inl rfl,trivial⟩ ⟨⟨rfl,.inl rfl,.inl rfl,.inl rfl,.inl rfl,.inl rfl,.inl rfl,.inl rfl,⟨rfl,rfl⟩,⟨rfl,rfl⟩,.inl rfl,trivial⟩,⟨rfl,rfl,rfl,rfl⟩,⟨rfl,rfl,rfl,rfl⟩,trivial⟩ rfl rfl,trivial⟩
  rintro - - -
  conv=>whnf
  exact ⟨[0,1,2,3,_],rfl,rfl,trivial,⟨rfl,.inl rfl,.inl rfl,.inl rfl,.inl rfl,.inl rfl,.inl rfl,.inl rfl,⟨rfl,rfl⟩,⟨rfl,rfl⟩,.inl rfl,trivial⟩,⟨rfl,rfl,rfl,rfl⟩,⟨rfl,rfl,rfl,by rw [hz]; rfl⟩,trivial⟩
 | false =>
  conv=>whnf
  refine CutL.by (fun _:Unit=>⟨[(0,.ptr 0 0),(15,.tr (ti (b:Nat)))],[(0,sR c ⟨sl3,n3,o3,false⟩ 3 4),(3,ndsB L3),(4,endB o3)],20⟩) (fun _=>True) ?_ ?_
  ·conv=>whnf
   refine acall.au [0,3,4] [] (hld) ?_
   intro _
   conv=>whnf
   exact ⟨(),[0,1,2,3,4],[],Sub.mk' rfl ⟨⟨rfl,rfl⟩,.inl rfl,trivial⟩ ⟨⟨rfl,.inl rfl,.inl rfl,.inl rfl,.inl rfl,.inl rfl,.inl rfl,.inl rfl,⟨rfl,rfl⟩,⟨rfl,rfl⟩,.inl rfl,trivial⟩,⟨rfl,rfl,rfl,rfl⟩,⟨rfl,rfl,rfl,rfl⟩,trivial⟩ rfl rfl,trivial⟩
  rintro - - -
  conv=>whnf
  exact ⟨[0,1,2,3,_],rfl,rfl,trivial,⟨rfl,.inl rfl,.inl rfl,.inl rfl,.inl rfl,.inl rfl,.inl rfl,.inl rfl,⟨rfl,hLl.symm⟩,⟨rfl,rfl⟩,.inl rfl,trivial⟩,⟨rfl,rfl,rfl,rfl⟩,⟨rfl,rfl,rfl,by rw [hz]; rfl⟩,trivial⟩
theorem blockR_at (c:LowC) {l:List Stmt} {i:Nat} {x:Stmt} {s:LowS} (h:l[i]? = some x):blockR c (l.drop i) s=bif s.over then s else blockR c (l.drop (i+1)) (stmtR c x s):=by
 rw [drop_cons h,blockR]
theorem fitSs_at : ∀ {l:List Stmt} {i:Nat} {x:Stmt},fitSs l=true→l[i]? = some x→fitS x=true
 | [],i,x,_,h=>by simp at h
 | y::r,0,x,hw,h=>by
  unfold fitSs at hw
  rw [Bool.and_eq_true] at hw
  simp at h
  subst h
  exact hw.1
 | y::r,i+1,x,hw,h=>by
  unfold fitSs at hw
  rw [Bool.and_eq_true] at hw
  exact fitSs_at hw.2 (by simpa using h)
set_option maxRecDepth 100000 in
set_option maxHeartbeats 4000000 in
theorem r_block (c:LowC) : ∀ (n:Nat) (l:List Stmt),SizeOf.sizeOf l<n→wfSs l=true→fitSs l=true→RBlk c l:=by
 intro n
 induction n with
 | zero=>intro l h; omega
 | succ n ih =>
 intro l hsz hwf hft s0 hS0
 obtain ⟨R,hR⟩ : ∃ R,R=blockR c l s0:=⟨_,rfl⟩
 rw [← hR]
 refine Ctr.mv [] [0,3,4] 5 hT hmix Tryz.func44 rfl (fun _ _=>by kernel_rfl) rfl (fun hok => ?_)
 have hll:=(hok.slot 1 rfl).tr.lst.2.1
 rw [srows_len] at hll
 clear hok
 conv=>whnf
 refine LoopL.by (fun x:Nat × LowS=>⟨[(0,.ptr 0 0),(1,.tr (stmtsT l)),(4,.tr (ti (x.1:Nat)))],[(0,sR c (x.2) 3 4),(3,ndsB (x.2).nodes),(4,endB (x.2).opens)],20⟩)
  (fun x=>x.1≤l.length∧R=blockR c (l.drop x.1) x.2∧OkA x.2) (fun x=>l.length - x.1) (0,s0) [0,1,2,3,4] []
  (Sub.mk' rfl ⟨⟨rfl,rfl⟩,.inl rfl,.inl rfl,trivial⟩ ⟨⟨rfl,.inl rfl,.inl rfl,.inl rfl,.inl rfl,.inl rfl,.inl rfl,.inl rfl,⟨rfl,rfl⟩,⟨rfl,rfl⟩,.inl rfl,trivial⟩,⟨rfl,rfl,rfl,rfl⟩,⟨rfl,rfl,rfl,rfl⟩,trivial⟩ rfl rfl) ⟨Nat.zero_le _,hR,hS0⟩ ?_
 clear hR hS0
 rintro ⟨i,s⟩ ⟨hi,hR,hS⟩ -
 simp only at hi hR hS
 conv=>whnf
 cases hit:decide ((i:Int)<((Stmt.rows l).length:Int)) with
 | false =>
  have hit2:l.length≤i:=by have:=of_decide_eq_false hit; rw [srows_len] at this; omega
  rw [List.drop_eq_nil_of_le hit2] at hR
  replace hR:R=s:=by rw [hR,blockR]
  subst hR
  conv=>whnf
  refine ⟨fun _ => ?_,fun h=>absurd rfl h⟩
  conv=>whnf
  exact ⟨[0,1,2,3,4],rfl,rfl,trivial,⟨rfl,.inl rfl,.inl rfl,.inl rfl,.inl rfl,.inl rfl,.inl rfl,.inl rfl,⟨rfl,rfl⟩,⟨rfl,rfl⟩,.inl rfl,trivial⟩,⟨rfl,rfl,rfl,rfl⟩,⟨rfl,rfl,rfl,rfl⟩,trivial⟩
 | true =>
 have hit2:i<l.length:=by have:=of_decide_eq_true hit; rw [srows_len] at this; omega
 obtain ⟨x,hx⟩ : ∃ x,l[i]? = some x:=⟨_,List.getElem?_eq_getElem hit2⟩
 rw [blockR_at c hx] at hR
 have hxs:=size_stmt hx
 have hxw:=wfSs_at hwf hx
 have hxf:=fitSs_at hft hx
 obtain ⟨sl,nn,oo,vv⟩:=s
 cases vv with
 | true =>
  replace hR:R=⟨sl,nn,oo,true⟩:=hR
  subst hR
  conv=>whnf
  refine ⟨fun _ => ?_,fun h=>absurd rfl h⟩
  conv=>whnf
  exact ⟨[0,1,2,3,4],rfl,rfl,trivial,⟨rfl,.inl rfl,.inl rfl,.inl rfl,.inl rfl,.inl rfl,.inl rfl,.inl rfl,⟨rfl,rfl⟩,⟨rfl,rfl⟩,.inl rfl,trivial⟩,⟨rfl,rfl,rfl,rfl⟩,⟨rfl,rfl,rfl,rfl⟩,trivial⟩
 | false =>
 replace hR:R=blockR c (l.drop (i+1)) (stmtR c x ⟨sl,nn,oo,false⟩):=hR
 obtain ⟨S,hSd⟩ : ∃ S:LowS,S=⟨sl,nn,oo,false⟩:=⟨_,rfl⟩
 have hov:S.over=false:=by rw [hSd]
 obtain ⟨kind,name,other,e,body,els,at_⟩:=x
 have hk:K 94 [.ptr 0 0,(Stmt.mk kind name other e body els at_).av] (stIR c S) (.ret (.tup [])) (stOR c (stmtR c (.mk kind name other e body els at_) S)):=by
  rw [← hSd] at hS
  clear hR
  unfold wfS at hxw
  simp only [Bool.and_eq_true,decide_eq_true_eq] at hxw
  obtain ⟨⟨⟨⟨⟨w1,w2⟩,w3⟩,w4⟩,w5⟩,w6⟩:=hxw
  unfold fitS at hxf
  simp only [Bool.and_eq_true] at hxf
  obtain ⟨f1,f2,f3⟩:=hxf
  simp only [Stmt.mk.sizeOf_spec] at hxs
  have hBd:RBlk c body:=ih body (by omega) w5 f2
  have hEl:RBlk c els:=ih els (by omega) w6 f3
  have hk7:kind=1∨kind=2∨kind=3∨kind=4∨kind=5∨kind=6∨kind=7:=by omega
  rw [stmtR]
  rcases hk7 with rfl | rfl | rfl | rfl | rfl | rfl | rfl
  ·exact r_assign c name other e body els at_ S (by simpa using w3) w4 f1 hS
  ·exact r_swap c name other e body els at_ S (by simpa using w3) w4 f1 hS
  ·exact r_cond c name other e body els at_ S (by simpa using w3) w4 f1 hS hov hBd hEl
  ·exact r_loop c name other e body els at_ S (by simpa using w3) w4 f1 hS hBd
  ·exact r_lock c name other e body els at_ S hS hBd
  ·exact r_print c name other e body els at_ S (by simpa using w3) w4 f1 hS
  ·exact r_skip c name other e body els at_ S
 rw [hSd] at hk
 have hnx:=hS.rel (stmtR_rel c (.mk kind name other e body els at_) ⟨sl,nn,oo,false⟩ rfl)
 generalize stmtR c (.mk kind name other e body els at_) ⟨sl,nn,oo,false⟩=S2 at hk hR hnx
 conv=>whnf
 refine ⟨rfl,(show (0:Int)≤i by omega),(show (i:Int)<((Stmt.rows l).length:Int) by rw [srows_len]; omega),fun row hrow => ?_⟩
 obtain ⟨d,hd,rfl⟩:=srows_get hrow
 have hde:=Option.some.inj (hx.symm.trans hd)
 subst hde
 clear hrow hd
 conv=>whnf
 refine acall.new [0,3,4] [] _ _ _ _ (hk) rfl rfl rfl rfl aut aut rfl rfl ?_
 conv=>whnf
 intro _
 conv=>whnf
 exact ⟨(i+1,S2),[0,1,2,_,_],[],Sub.mk' rfl ⟨⟨rfl,rfl⟩,.inl rfl,.inl (ti_succ hit2 hll),trivial⟩ ⟨⟨rfl,.inl rfl,.inl rfl,.inl rfl,.inl rfl,.inl rfl,.inl rfl,.inl rfl,⟨rfl,rfl⟩,⟨rfl,rfl⟩,.inl rfl,trivial⟩,⟨rfl,rfl,rfl,rfl⟩,⟨rfl,rfl,rfl,rfl⟩,trivial⟩ rfl rfl,⟨hit2,hR,hnx⟩,by show l.length - (i+1)<l.length - i; omega⟩
end Go.Proofs.YthboippafkcoiaaGreatDoor.am
namespace Go.Proofs.YthboippafkcoiaaGreatDoor.am
open Go Go.Proofs
set_option linter.all false
def grR (c:LowC) (s:LowS):Gr := { grS c s with nodes:=s.nodes }
abbrev rwT (c:LowC) (s:LowS) (ho:Nat):Blk := .cells 96 [.tr (declsT c.p.shared),.tr (declsT c.p.locks),.tr (threadsT c.p.threads),.tr (ti (c.t:Nat)),.tr (ts c.name),.tr (ti c.loc),.tr (ti s.slots),.tr (nodesT s.nodes),.sl ho s.opens.length,.tr (tb s.over)]
theorem lowRs_cons (p:Prg) (i:Nat) (th:Thread) (r:List Thread):lowRs p i (th::r)=bif (endS (blockR (thrC p i th) th.body (low0 th))).over then none else match lowRs p (i+1) r with
  | some l=>some (grR (thrC p i th) (endS (blockR (thrC p i th) th.body (low0 th)))::l)
  | none=>none:=rfl
set_option maxRecDepth 100000 in
set_option maxHeartbeats 4000000 in
theorem r_lower (p:Prg) (hw:(checkW p).1=0 → ∀ th ∈ p.threads,wfSs th.body=true∧fitSs th.body=true) (hch:K 43 [p.av] [] (.ret (.tup [.tr (ti (checkW p).1),Flt.av (checkW p).2])) []):K 11 [p.av] [] (.ret (.tup [(lowerU p).1.av,.tr (ti (lowerU p).2)])) []:=by
 have hU:lowerU p=bif (checkW p).1 != 0 then (⟨[],[],[]⟩,(checkW p).1) else outU p (lowRs p 0 p.threads):=by rw [← low_same]; rfl
 generalize lowerU p=R at hU ⊢
 generalize checkW p=C0 at hch hU hw
 obtain ⟨why,fa,fr⟩:=C0
 simp only at hU hw
 refine Ctr.cut [4,5,9,10,11,13,15] hT hmix Tryz.func11 rfl (fun _ _=>by kernel_rfl) rfl fun hok => ?_
 obtain ⟨hb1,_,_⟩:=((hok.slot 0 rfl).agg _ (.head _)).tr.lst
 obtain ⟨hb2,_,_⟩:=((hok.slot 0 rfl).agg _ (.tail _ (.head _))).tr.lst
 obtain ⟨hb3,hl3,hrw⟩:=((hok.slot 0 rfl).agg _ (.tail _ (.tail _ (.head _)))).tr.lst
 rw [List.length_map] at hl3
 have hlt:(p.threads.map Thread.cells).length=p.threads.length:=List.length_map ..
 clear hok hrw
 conv=>whnf
 refine acall.pure _ (hch) rfl rfl fun _ => ?_
 conv=>whnf
 refine CutL.by (fun _:Unit=>⟨[(1,.ptr 0 0),(2,.ptr 1 0)],[(0,.cells 25 [.tr (declsT p.shared),.tr (declsT p.locks),.tr (threadsT p.threads)]),(1,.cells 29 [nilA,nilA,nilA])],20⟩) (fun _=>(why != 0)=false) ?_ ?_
 ·conv=>whnf
  cases h1:(why != 0) with
  | true =>
   rw [h1,cond_true] at hU
   subst hU
   conv=>whnf
   exact ⟨⟨⟨.inr ⟨rfl,_,_,rfl⟩,.inr ⟨rfl,_,_,rfl⟩,.inr ⟨rfl,_,_,rfl⟩,trivial⟩,.inl rfl,trivial⟩,trivial⟩
  | false =>
   conv=>whnf
   exact ⟨(),[_,_],[],Sub.mk' rfl ⟨⟨rfl,rfl⟩,⟨rfl,rfl⟩,trivial⟩ ⟨⟨rfl,.inl rfl,.inl rfl,.inl rfl,trivial⟩,⟨rfl,.inl rfl,.inl rfl,.inl rfl,trivial⟩,trivial⟩ rfl rfl,rfl⟩
 rintro - h1 -
 rw [h1,cond_false] at hU
 replace hw:=hw (by rw [bne_eq_false_iff_eq] at h1; exact h1)
 clear hch
 obtain ⟨Q,hQ⟩ : ∃ Q,Q=lowRs p 0 p.threads:=⟨_,rfl⟩
 rw [← hQ] at hU
 conv=>whnf
 refine CutL.by (fun _:Unit=>⟨[(1,.ptr 0 0),(2,.ptr 1 0),(6,.ptr 2 0)],[(0,.cells 25 [.tr (declsT p.shared),.tr (declsT p.locks),.tr (threadsT p.threads)]),(1,.cells 29 [nilA,nilA,nilA]),(2,.cells 29 [.tr (declsT p.shared),.tr (declsT p.locks),.sl 3 (([]:List Gr)).length]),(3,.vec 50 4 56 ((([]:List Gr)).map Gr.cells))],20⟩) (fun _=>True) ?_ ?_
 ·conv=>whnf
  refine ⟨rfl,rfl,rfl,Nat.le_refl _,(by show (0+(p.shared.map Decl.cells).length)*32≤_; rw [Nat.zero_add]; exact hb1),fun q hq=>(by cases hq),?_⟩
  conv=>whnf
  refine ⟨rfl,rfl,rfl,Nat.le_refl _,(by show (0+(p.locks.map Decl.cells).length)*32≤_; rw [Nat.zero_add]; exact hb2),fun q hq=>(by cases hq),?_⟩
  conv=>whnf
  refine ⟨by kernel_rfl,fun _ => ?_⟩
  conv=>whnf
  exact ⟨(),[_,_,_],[3],Sub.mk' rfl ⟨⟨rfl,rfl⟩,⟨rfl,rfl⟩,⟨rfl,rfl⟩,trivial⟩ ⟨⟨rfl,.inl rfl,.inl rfl,.inl rfl,trivial⟩,⟨rfl,.inl rfl,.inl rfl,.inl rfl,trivial⟩,⟨rfl,⟨rfl,(by show 0+(p.shared.map Decl.cells).length≤(List.take 0 []++p.shared.map Decl.cells).length; simp),(by show Tr.lst 3 32 _=Tr.lst 3 32 (List.take (0+(p.shared.map Decl.cells).length) (List.take 0 []++p.shared.map Decl.cells)); rw [Nat.zero_add,List.take_zero,List.nil_append,List.take_length])⟩,⟨rfl,(by show 0+(p.locks.map Decl.cells).length≤(List.take 0 []++p.locks.map Decl.cells).length; simp),(by show Tr.lst 3 32 _=Tr.lst 3 32 (List.take (0+(p.locks.map Decl.cells).length) (List.take 0 []++p.locks.map Decl.cells)); rw [Nat.zero_add,List.take_zero,List.nil_append,List.take_length])⟩,⟨rfl,rfl,rfl,rfl⟩,trivial⟩,⟨rfl,_,_,_,rfl,by decide⟩,trivial⟩ rfl rfl,trivial⟩
 rintro - - -
 conv=>whnf
 refine LoopL.by (fun x:Nat × List Gr=>⟨[(1,.ptr 0 0),(2,.ptr 1 0),(6,.ptr 2 0),(7,.tr (ti (x.1:Nat)))],[(0,.cells 25 [.tr (declsT p.shared),.tr (declsT p.locks),.tr (threadsT p.threads)]),(1,.cells 29 [nilA,nilA,nilA]),(2,.cells 29 [.tr (declsT p.shared),.tr (declsT p.locks),.sl 3 (x.2).length]),(3,.vec 50 4 56 ((x.2).map Gr.cells))],20⟩)
  (fun x=>x.1≤p.threads.length∧Q=contG x.2 (lowRs p x.1 (p.threads.drop x.1))∧x.2.length=x.1) (fun x=>p.threads.length - x.1) (0,[]) [0,1,2,3] []
  (Sub.mk' rfl ⟨⟨rfl,rfl⟩,⟨rfl,rfl⟩,⟨rfl,rfl⟩,.inl rfl,trivial⟩ ⟨⟨rfl,.inl rfl,.inl rfl,.inl rfl,trivial⟩,⟨rfl,.inl rfl,.inl rfl,.inl rfl,trivial⟩,⟨rfl,.inl rfl,.inl rfl,⟨rfl,rfl⟩,trivial⟩,⟨rfl,rfl,rfl,rfl⟩,trivial⟩ rfl rfl) ⟨Nat.zero_le _,by rw [hQ]; show lowRs p 0 p.threads=contG [] (lowRs p 0 p.threads); cases lowRs p 0 p.threads <;> rfl,rfl⟩ ?_
 clear hQ
 rintro ⟨i,gs⟩ ⟨hi,hQ,hgs⟩ -
 simp only at hi hQ hgs
 conv=>whnf
 refine csplit (fun hit => ?_) (fun hit => ?_)
 ·replace hit:i<p.threads.length:=by have:decide ((i:Int)<((p.threads.map Thread.cells).length:Int))=true:=hit; have:=of_decide_eq_true this; omega
  obtain ⟨th,hth⟩ : ∃ th,p.threads[i]? = some th:=⟨_,List.getElem?_eq_getElem hit⟩
  have hwt:=hw th (List.mem_of_getElem? hth)
  rw [drop_cons hth,lowRs_cons] at hQ
  obtain ⟨C,hC⟩ : ∃ C,C=thrC p i th:=⟨_,rfl⟩
  rw [← hC] at hQ
  have hblk:=r_block C _ th.body (Nat.lt_succ_self _) hwt.1 hwt.2 (low0 th) (low0_ok th)
  have h1:=(low0_ok th).rel (blockR_rel C th.body (low0 th))
  conv=>whnf
  refine CutL.by (fun _:Unit=>⟨[(1,.ptr 0 0),(2,.ptr 1 0),(6,.ptr 2 0),(7,.tr (ti (i:Nat))),(8,.tr (ti ((th.locals.map Decl.cells).length:Nat)))],[(0,.cells 25 [.tr (declsT p.shared),.tr (declsT p.locks),.tr (threadsT p.threads)]),(1,.cells 29 [nilA,nilA,nilA]),(2,.cells 29 [.tr (declsT p.shared),.tr (declsT p.locks),.sl 3 (gs).length]),(3,.vec 50 4 56 ((gs).map Gr.cells))],20⟩) (fun _=>True) ?_ ?_
  ·conv=>whnf
   refine ⟨rfl,(show (0:Int)≤i by omega),(show (i:Int)<((p.threads.map Thread.cells).length:Int) by omega),fun row hrow => ?_⟩
   obtain ⟨d,hd,rfl⟩:=thr_get hrow
   have hde:=Option.some.inj (hth.symm.trans hd)
   subst hde
   clear hrow hd
   conv=>whnf
   exact ⟨(),[0,1,2,3],[],Sub.mk' rfl ⟨⟨rfl,rfl⟩,⟨rfl,rfl⟩,⟨rfl,rfl⟩,.inl rfl,.inl rfl,trivial⟩ ⟨⟨rfl,.inl rfl,.inl rfl,.inl rfl,trivial⟩,⟨rfl,.inl rfl,.inl rfl,.inl rfl,trivial⟩,⟨rfl,.inl rfl,.inl rfl,⟨rfl,rfl⟩,trivial⟩,⟨rfl,rfl,rfl,rfl⟩,trivial⟩ rfl rfl,trivial⟩
  rintro - - -
  conv=>whnf
  refine CutL.by (fun _:Unit=>⟨[(1,.ptr 0 0),(2,.ptr 1 0),(6,.ptr 2 0),(7,.tr (ti (i:Nat))),(9,.ptr 4 0)],[(0,.cells 25 [.tr (declsT p.shared),.tr (declsT p.locks),.tr (threadsT p.threads)]),(1,.cells 29 [nilA,nilA,nilA]),(2,.cells 29 [.tr (declsT p.shared),.tr (declsT p.locks),.sl 3 (gs).length]),(3,.vec 50 4 56 ((gs).map Gr.cells)),(4,sR C (low0 th) 5 6),(5,ndsB (low0 th).nodes),(6,endB (low0 th).opens)],20⟩) (fun _=>True) ?_ ?_
  ·conv=>whnf
   refine ⟨rfl,(show (0:Int)≤i by omega),(show (i:Int)<((p.threads.map Thread.cells).length:Int) by omega),fun row hrow => ?_⟩
   obtain ⟨d,hd,rfl⟩:=thr_get hrow
   have hde:=Option.some.inj (hth.symm.trans hd)
   subst hde
   clear hrow hd
   conv=>whnf
   refine ⟨by kernel_rfl,fun _ => ?_⟩
   conv=>whnf
   subst hC
   exact ⟨(),[0,1,2,3,_],[5,6],Sub.mk' rfl ⟨⟨rfl,rfl⟩,⟨rfl,rfl⟩,⟨rfl,rfl⟩,.inl rfl,⟨rfl,rfl⟩,trivial⟩ ⟨⟨rfl,.inl rfl,.inl rfl,.inl rfl,trivial⟩,⟨rfl,.inl rfl,.inl rfl,.inl rfl,trivial⟩,⟨rfl,.inl rfl,.inl rfl,⟨rfl,rfl⟩,trivial⟩,⟨rfl,rfl,rfl,rfl⟩,⟨rfl,.inl rfl,.inl rfl,.inl rfl,.inl rfl,.inl rfl,.inl rfl,.inl rfl,⟨rfl,rfl,rfl,rfl⟩,⟨rfl,rfl,rfl,rfl⟩,.inl rfl,trivial⟩,⟨rfl,_,_,_,rfl,by decide⟩,⟨rfl,_,_,_,rfl,by decide⟩,trivial⟩ rfl rfl,trivial⟩
  rintro - - -
  generalize blockR C th.body (low0 th)=S1 at hblk h1 hQ
  conv=>whnf
  refine CutL.by (fun _:Unit=>⟨[(1,.ptr 0 0),(2,.ptr 1 0),(6,.ptr 2 0),(7,.tr (ti (i:Nat))),(9,.ptr 4 0)],[(0,.cells 25 [.tr (declsT p.shared),.tr (declsT p.locks),.tr (threadsT p.threads)]),(1,.cells 29 [nilA,nilA,nilA]),(2,.cells 29 [.tr (declsT p.shared),.tr (declsT p.locks),.sl 3 (gs).length]),(3,.vec 50 4 56 ((gs).map Gr.cells)),(4,sR C (S1) 5 6),(5,ndsB (S1).nodes),(6,endB (S1).opens)],20⟩) (fun _=>True) ?_ ?_
  ·conv=>whnf
   refine ⟨rfl,(show (0:Int)≤i by omega),(show (i:Int)<((p.threads.map Thread.cells).length:Int) by omega),fun row hrow => ?_⟩
   obtain ⟨d,hd,rfl⟩:=thr_get hrow
   have hde:=Option.some.inj (hth.symm.trans hd)
   subst hde
   clear hrow hd
   conv=>whnf
   refine acall.new [4,5,6] [] _ _ _ _ (hblk) rfl rfl rfl rfl aut aut rfl rfl ?_
   conv=>whnf
   intro _
   conv=>whnf
   exact ⟨(),[0,1,2,3,4,_,_],[],Sub.mk' rfl ⟨⟨rfl,rfl⟩,⟨rfl,rfl⟩,⟨rfl,rfl⟩,.inl rfl,⟨rfl,rfl⟩,trivial⟩ ⟨⟨rfl,.inl rfl,.inl rfl,.inl rfl,trivial⟩,⟨rfl,.inl rfl,.inl rfl,.inl rfl,trivial⟩,⟨rfl,.inl rfl,.inl rfl,⟨rfl,rfl⟩,trivial⟩,⟨rfl,rfl,rfl,rfl⟩,⟨rfl,.inl rfl,.inl rfl,.inl rfl,.inl rfl,.inl rfl,.inl rfl,.inl rfl,⟨rfl,rfl⟩,⟨rfl,rfl⟩,.inl rfl,trivial⟩,⟨rfl,rfl,rfl,rfl⟩,⟨rfl,rfl,rfl,rfl⟩,trivial⟩ rfl rfl,trivial⟩
  rintro - - -
  have hp2:=k_putR C { nd00 with kind:=9 } S1 h1
  have h2:=h1.relE (endS_rel S1)
  have hE:endS S1=bif S1.over then S1 else putS { nd00 with kind:=9 } S1:=rfl
  generalize putS { nd00 with kind:=9 } S1=S2a at hp2 hE
  generalize endS S1=S2 at h2 hE hQ
  conv=>whnf
  refine CutL.by (fun _:Unit=>⟨[(1,.ptr 0 0),(2,.ptr 1 0),(6,.ptr 2 0),(7,.tr (ti (i:Nat))),(9,.ptr 4 0)],[(0,.cells 25 [.tr (declsT p.shared),.tr (declsT p.locks),.tr (threadsT p.threads)]),(1,.cells 29 [nilA,nilA,nilA]),(2,.cells 29 [.tr (declsT p.shared),.tr (declsT p.locks),.sl 3 (gs).length]),(3,.vec 50 4 56 ((gs).map Gr.cells)),(4,sR C (S2) 5 6),(5,ndsB (S2).nodes),(6,endB (S2).opens)],20⟩) (fun _=>True) ?_ ?_
  ·conv=>whnf
   obtain ⟨sl1,n1,o1,v1⟩:=S1
   cases v1 with
   | true =>
    replace hE:S2=⟨sl1,n1,o1,true⟩:=hE
    subst hE
    conv=>whnf
    exact ⟨(),[0,1,2,3,4,5,6],[],Sub.mk' rfl ⟨⟨rfl,rfl⟩,⟨rfl,rfl⟩,⟨rfl,rfl⟩,.inl rfl,⟨rfl,rfl⟩,trivial⟩ ⟨⟨rfl,.inl rfl,.inl rfl,.inl rfl,trivial⟩,⟨rfl,.inl rfl,.inl rfl,.inl rfl,trivial⟩,⟨rfl,.inl rfl,.inl rfl,⟨rfl,rfl⟩,trivial⟩,⟨rfl,rfl,rfl,rfl⟩,⟨rfl,.inl rfl,.inl rfl,.inl rfl,.inl rfl,.inl rfl,.inl rfl,.inl rfl,⟨rfl,rfl⟩,⟨rfl,rfl⟩,.inl rfl,trivial⟩,⟨rfl,rfl,rfl,rfl⟩,⟨rfl,rfl,rfl,rfl⟩,trivial⟩ rfl rfl,trivial⟩
   | false =>
    replace hE:S2=S2a:=hE
    subst hE
    conv=>whnf
    refine acall.new [4,5,6] [] _ _ _ _ (hp2) rfl rfl rfl rfl aut aut rfl rfl ?_
    conv=>whnf
    intro _
    conv=>whnf
    exact ⟨(),[0,1,2,3,4,_,_],[],Sub.mk' rfl ⟨⟨rfl,rfl⟩,⟨rfl,rfl⟩,⟨rfl,rfl⟩,.inl rfl,⟨rfl,rfl⟩,trivial⟩ ⟨⟨rfl,.inl rfl,.inl rfl,.inl rfl,trivial⟩,⟨rfl,.inl rfl,.inl rfl,.inl rfl,trivial⟩,⟨rfl,.inl rfl,.inl rfl,⟨rfl,rfl⟩,trivial⟩,⟨rfl,rfl,rfl,rfl⟩,⟨rfl,.inl rfl,.inl rfl,.inl rfl,.inl rfl,.inl rfl,.inl rfl,.inl rfl,⟨rfl,rfl⟩,⟨rfl,rfl⟩,.inl rfl,trivial⟩,⟨rfl,rfl,rfl,rfl⟩,⟨rfl,rfl,rfl,rfl⟩,trivial⟩ rfl rfl,trivial⟩
  rintro - - -
  clear hE hp2 h1 hblk
  obtain ⟨sl2,n2,o2,v2⟩:=S2
  simp only at hQ
  cases v2 with
  | true =>
   replace hQ:Q=none:=hQ
   replace hU:R=(⟨[],[],[]⟩,3):=by rw [hU,hQ]; rfl
   subst hU
   conv=>whnf
   refine CutL.by (fun _:Unit=>⟨[(1,.ptr 0 0)],[(0,.cells 25 [.tr (declsT p.shared),.tr (declsT p.locks),.tr (threadsT p.threads)])],20⟩) (fun _=>False) ?_ ?_
   ·conv=>whnf
    exact ⟨⟨⟨.inr ⟨rfl,_,_,rfl⟩,.inr ⟨rfl,_,_,rfl⟩,.inr ⟨rfl,_,_,rfl⟩,trivial⟩,.inl rfl,trivial⟩,trivial⟩
   rintro - hF
   exact hF.elim
  | false =>
  conv=>whnf
  refine CutL.by (fun _:Unit=>⟨[(1,.ptr 0 0),(2,.ptr 1 0),(6,.ptr 2 0),(7,.tr (ti (i:Nat))),(9,.ptr 4 0)],[(0,.cells 25 [.tr (declsT p.shared),.tr (declsT p.locks),.tr (threadsT p.threads)]),(1,.cells 29 [nilA,nilA,nilA]),(2,.cells 29 [.tr (declsT p.shared),.tr (declsT p.locks),.sl 3 (gs).length]),(3,.vec 50 4 56 ((gs).map Gr.cells)),(4,rwT C ⟨sl2,n2,o2,false⟩ 6),(6,endB o2)],20⟩) (fun _=>True) ?_ ?_
  ·conv=>whnf
   exact ⟨(),[0,1,2,3,4,1000000,6],[],Sub.mk' rfl ⟨⟨rfl,rfl⟩,⟨rfl,rfl⟩,⟨rfl,rfl⟩,.inl rfl,⟨rfl,rfl⟩,trivial⟩ ⟨⟨rfl,.inl rfl,.inl rfl,.inl rfl,trivial⟩,⟨rfl,.inl rfl,.inl rfl,.inl rfl,trivial⟩,⟨rfl,.inl rfl,.inl rfl,⟨rfl,rfl⟩,trivial⟩,⟨rfl,rfl,rfl,rfl⟩,⟨rfl,.inl rfl,.inl rfl,.inl rfl,.inl rfl,.inl rfl,.inl rfl,.inl rfl,⟨rfl,(by show n2.length≤(n2.map Nd.cells).length; rw [List.length_map]; exact Nat.le_refl _),(by show Tr.lst 13 96 _=Tr.lst 13 96 (List.take _ (n2.map Nd.cells)); rw [List.take_of_length_le (by rw [List.length_map]; exact Nat.le_refl _)])⟩,⟨rfl,rfl⟩,.inl rfl,trivial⟩,⟨rfl,rfl,rfl,rfl⟩,trivial⟩ rfl rfl,trivial⟩
  rintro - - -
  obtain ⟨G,hG⟩ : ∃ G,G=grR C ⟨sl2,n2,o2,false⟩:=⟨_,rfl⟩
  have hGc:G.cells=[ts C.name,ti C.loc,ti sl2,nodesT n2]:=by rw [hG]; rfl
  replace hQ:Q=contG (gs++[G]) (lowRs p (i+1) (p.threads.drop (i+1))):=by
   rw [hQ,hG]
   cases lowRs p (i+1) (p.threads.drop (i+1)) with
   | none=>rfl
   | some l=>show some (gs++(grR C _::l))=some ((gs++[grR C _])++l); rw [List.append_assoc]; rfl
  have hda:(gs.map Gr.cells).take gs.length++[[ts C.name,ti C.loc,ti sl2,nodesT n2]]=(gs++[G]).map Gr.cells:=by
   rw [List.take_of_length_le (by rw [List.length_map]; exact Nat.le_refl _),List.map_append,← hGc]; rfl
  have hglen:gs.length+1=(gs++[G]).length:=by rw [List.length_append]; rfl
  conv=>whnf
  refine ⟨rfl,rfl,rfl,(by rw [List.length_map]; exact Nat.le_refl _),(show (gs.length+1)*56≤150000000000000 by omega),fun q hq => ?_,?_⟩
  ·cases hq with
   | head=>exact Nat.ne_of_beq_eq_false rfl
   | tail _ h =>
    first
    | (cases h; done)
    | (cases h with
     | head=>exact Nat.ne_of_beq_eq_false rfl
     | tail _ h=>cases h)
  conv=>whnf
  refine ⟨by kernel_rfl,fun _ => ?_⟩
  conv=>whnf
  exact ⟨(i+1,gs++[G]),[0,1,2,_],[],Sub.mk' rfl ⟨⟨rfl,rfl⟩,⟨rfl,rfl⟩,⟨rfl,rfl⟩,.inl (ti_succ hit hl3),trivial⟩ ⟨⟨rfl,.inl rfl,.inl rfl,.inl rfl,trivial⟩,⟨rfl,.inl rfl,.inl rfl,.inl rfl,trivial⟩,⟨rfl,.inl rfl,.inl rfl,⟨rfl,hglen⟩,trivial⟩,⟨rfl,rfl,rfl,hda⟩,trivial⟩ rfl rfl,⟨hit,hQ,by show (gs++[G]).length=i+1; omega⟩,by show p.threads.length - (i+1)<p.threads.length - i; omega⟩
 replace hit:i=p.threads.length:=by have:decide ((i:Int)<((p.threads.map Thread.cells).length:Int))=false:=hit; have:=of_decide_eq_false this; omega
 subst hit
 rw [List.drop_length] at hQ
 replace hQ:Q=some gs:=by rw [hQ]; show some (gs++[])=some gs; rw [List.append_nil]
 replace hU:R=(⟨p.shared,p.locks,gs⟩,0):=by rw [hU,hQ]; rfl
 subst hU
 conv=>whnf
 refine ⟨fun _ => ?_,fun h=>absurd rfl h⟩
 conv=>whnf
 exact ⟨⟨⟨.inl rfl,.inl rfl,⟨rfl,(by rw [List.length_map]; exact Nat.le_refl _),(by show Tr.lst 4 56 _=Tr.lst 4 56 (List.take _ _); rw [List.take_of_length_le (by rw [List.length_map]; exact Nat.le_refl _)])⟩,trivial⟩,.inl rfl,trivial⟩,trivial⟩
end Go.Proofs.YthboippafkcoiaaGreatDoor.am
namespace Go.Proofs.YthboippafkcoiaaGreatDoor.am
open Go
def hasD (l:List Decl) (n:ByteArray):Bool:=l.any fun d=>seq d.name n
def hasT (l:List Thread) (n:ByteArray):Bool:=l.any fun d=>seq d.name n
theorem seq_comm (a b:ByteArray):seq a b=seq b a:=by
 unfold seq
 rw [Bool.eq_iff_iff]
 simp only [beq_iff_eq]
 exact ⟨Eq.symm,Eq.symm⟩
theorem findI_has : ∀ (l:List Decl) (n:ByteArray) (k:Nat),decide (findI l n k ≥ 0)=hasD l n
 | [],n,k=>rfl
 | d::l,n,k=>by
  unfold findI hasD
  rw [List.any_cons]
  by_cases h:seq d.name n=true
  ·rw [if_pos h,h,Bool.true_or]
   exact decide_eq_true (Int.natCast_nonneg k)
  ·rw [if_neg h]
   have:=findI_has l n (k+1)
   rw [this]
   have h:seq d.name n=false:=by simpa using h
   rw [h,Bool.false_or]
   rfl
theorem threadI_has : ∀ (l:List Thread) (n:ByteArray) (k:Nat),decide (threadI l n k ≥ 0)=hasT l n
 | [],n,k=>rfl
 | d::l,n,k=>by
  unfold threadI hasT
  rw [List.any_cons]
  by_cases h:seq d.name n=true
  ·rw [if_pos h,h,Bool.true_or]
   exact decide_eq_true (Int.natCast_nonneg k)
  ·rw [if_neg h]
   have:=threadI_has l n (k+1)
   rw [this]
   have h:seq d.name n=false:=by simpa using h
   rw [h,Bool.false_or]
   rfl
theorem threadI_lt : ∀ (l:List Thread) (n:ByteArray) (k i:Nat) (t:Thread),l[i]? = some t→seq t.name n=true→decide (threadI l n k<(k+i:Nat))=hasT (l.take i) n
 | [],n,k,i,t,h,_=>by simp at h
 | d::l,n,k,0,t,h,hn=>by
  simp at h; subst h
  unfold threadI
  rw [if_pos hn]
  simp [hasT]
 | d::l,n,k,i+1,t,h,hn=>by
  unfold threadI
  rw [List.take_succ_cons]
  unfold hasT
  rw [List.any_cons]
  by_cases hd:seq d.name n=true
  ·rw [if_pos hd,hd,Bool.true_or]
   exact decide_eq_true (by omega)
  ·rw [if_neg hd]
   have hd:seq d.name n=false:=by simpa using hd
   rw [hd,Bool.false_or]
   have:=threadI_lt l n (k+1) i t (by simpa using h) hn
   rw [show k+1+i=k+(i+1) by omega] at this
   exact this
theorem same_ks (a b:ByteArray):MK.same (.ks a) (.ks b)=seq a b:=rfl
def txt (M:MI):Prop := ∀ p ∈ M,∃ a,p.1 = .ks a
theorem same_comm (k q:MK):MK.same k q=MK.same q k:=by
 cases k <;> cases q <;> first | rfl | exact seq_comm _ _ | (show (_ == _)=(_ == _); rw [Bool.eq_iff_iff,beq_iff_eq,beq_iff_eq]; exact ⟨Eq.symm,Eq.symm⟩)
theorem get_cons (k:MK) (v:Int) (r:MI) (q:MK):mgetI ((k,v)::r) q=bif MK.same k q then v else mgetI r q:=by rw [same_comm]; rfl
theorem put_cons (k:MK) (v:Int) (r:MI) (q:MK) (x:Int):mputI ((k,v)::r) q x=bif MK.same k q then (q,x)::r else (k,v)::mputI r q x:=by rw [same_comm]; rfl
theorem put_nil (q:MK) (x:Int):mputI [] q x=[(q,x)]:=by rw [mputI]
theorem get_put : ∀ (M:MI) (a b:ByteArray) (x:Int),txt M→mgetI (mputI M (.ks a) x) (.ks b)=bif seq a b then x else mgetI M (.ks b)
 | [],a,b,x,_=>by
  rw [put_nil,get_cons,same_ks]
 | (k,v)::M,a,b,x,h=>by
  obtain ⟨c,hc⟩:=h (k,v) (by simp)
  simp only at hc
  subst hc
  have ih:=get_put M a b x (fun p hp=>h p (by simp [hp]))
  rw [put_cons,get_cons,same_ks,same_ks]
  cases hca:seq c a with
  | true =>
   rw [cond_true,get_cons,same_ks]
   cases hab:seq a b with
   | true=>rfl
   | false =>
    have hcb:seq c b=false:=by
     unfold seq at *
     have:c.toList=a.toList:=by simpa using hca
     rw [this]; exact hab
    rw [hcb]; rfl
  | false =>
   rw [cond_false,get_cons,same_ks,ih]
   cases hab:seq a b with
   | true =>
    have hcb:seq c b=false:=by
     unfold seq at *
     have:a.toList=b.toList:=by simpa using hab
     rw [← this]; exact hca
    rw [hcb]; rfl
   | false=>rfl
theorem txt_put : ∀ (M:MI) (a:ByteArray) (x:Int),txt M→txt (mputI M (.ks a) x)
 | [],a,x,_=>fun p hp=>by
  have:p=(.ks a,x):=by simpa [mputI] using hp
  exact ⟨a,by rw [this]⟩
 | (k,v)::M,a,x,h=>by
  intro p hp
  rw [put_cons] at hp
  cases hs:MK.same k (.ks a) with
  | true =>
   rw [hs] at hp
   rcases List.mem_cons.1 hp with rfl | hp
   ·exact ⟨a,rfl⟩
   ·exact h p (by simp [hp])
  | false =>
   rw [hs] at hp
   rcases List.mem_cons.1 hp with rfl | hp
   ·exact h _ (by simp)
   ·exact txt_put M a x (fun p hp=>h p (by simp [hp])) p hp
structure Is1 (M:MI) (f:ByteArray→Bool):Prop where
 txt:txt M
 get : ∀ n,mgetI M (.ks n)=bif f n then 1 else 0
theorem Is1.nil:Is1 [] fun _=>false:=⟨fun p hp=>by simp at hp,fun n=>rfl⟩
theorem Is1.put {M:MI} {f:ByteArray→Bool} (h:Is1 M f) (a:ByteArray):Is1 (mputI M (.ks a) 1) fun n=>f n || seq a n:=by
 refine ⟨txt_put M a 1 h.txt,fun n => ?_⟩
 rw [get_put M a n 1 h.txt,h.get]
 cases seq a n <;> cases f n <;> rfl
theorem Is1.ones {M:MI} {f:ByteArray→Bool} (h:Is1 M f) : ∀ (l:List Decl),Is1 (ones M l) fun n=>f n || hasD l n
 | []=>⟨h.txt,fun n=>by rw [show (am.ones M [])=M from rfl,h.get]; simp [hasD]⟩
 | d::l=>by
  have:=(h.put d.name).ones l
  refine ⟨this.txt,fun n => ?_⟩
  rw [show am.ones M (d::l)=am.ones (mputI M (.ks d.name) 1) l from rfl,this.get]
  simp only [hasD,List.any_cons,Bool.or_assoc]
theorem Is1.pos {M:MI} {f:ByteArray→Bool} (h:Is1 M f) (n:ByteArray):decide (mgetI M (.ks n) > 0)=f n:=by
 rw [h.get]; cases f n <;> rfl
theorem least4 (a b c d:Bool):leastW [whenI 1 a,whenI 2 b,whenI 3 c,whenI 4 d] 0=bif a then 1 else bif b then 2 else bif c then 3 else bif d then 4 else 0:=by
 cases a <;> cases b <;> cases c <;> cases d <;> rfl
theorem least3 (a b c:Bool):leastW [whenI 1 a,whenI 2 b,whenI 3 c] 0=bif a then 1 else bif b then 2 else bif c then 3 else 0:=by
 cases a <;> cases b <;> cases c <;> rfl
def Ag (o:Option Flt) (f:Flt):Prop:=match o with
 | some g=>f=g∧g.rule≠0
 | none=>f=⟨0,0⟩
theorem Ag.rule {o:Option Flt} {f:Flt} (h:Ag o f):(f.rule != 0)=o.isSome:=by
 cases o with
 | none=>have h:f=⟨0,0⟩:=h; rw [h]; rfl
 | some g=>obtain ⟨rfl,h⟩:=h; simpa using h
theorem pos_ne (a b c d:Bool):decide ((bif a then (1:Int) else bif b then 2 else bif c then 3 else bif d then 4 else 0) > 0)=((bif a then (1:Int) else bif b then 2 else bif c then 3 else bif d then 4 else 0) != 0):=by
 cases a <;> cases b <;> cases c <;> cases d <;> rfl
theorem tops_ag (p:Prg) (kind:Int) (most:Nat) (bad:Int→Bool) (hbad : ∀ w,bad w=wordI kind w) (rest:ByteArray→Bool) (hrest : ∀ pre name,twiceB p kind pre name=(rest name || hasD pre name)) :
  ∀ (l:List Decl) (i:Nat) (M:MI) (pre:List Decl),pre.length=i→i≤most→Is1 M (fun n=>rest n || hasD pre n)→Ag (topsW most bad l i M) (declsF p kind most pre l)
 | [],i,M,pre,_,_,_=>by unfold topsW declsF; rfl
 | d::l,i,M,pre,hp,hi,hM=>by
  have hlen:((pre.length:Int):Int)=i:=by rw [hp]
  have h3:((i:Int) == (most:Int))=decide ((i:Int) ≥ most):=by
   rw [Bool.eq_iff_iff]; simp only [beq_iff_eq,decide_eq_true_eq]; omega
  have hL:leastW (topRules M most bad i d) 0=declI p kind pre d pre.length most:=by
   unfold topRules
   rw [least4,hM.pos,h3,hbad]
   unfold declI
   rw [hrest,hlen]
  unfold topsW declsF
  rw [hL]
  have hpn:decide (declI p kind pre d pre.length most > 0)=(declI p kind pre d pre.length most != 0):=pos_ne ..
  rw [hpn]
  cases hc:declI p kind pre d pre.length most != 0 with
  | true=>exact ⟨rfl,by simpa using hc⟩
  | false =>
   show Ag (topsW most bad l (i+1) (mputI M (.ks d.name) 1)) (declsF p kind most (pre++[d]) l)
   have hlt : ¬ (i:Int) ≥ most:=by
    intro h
    have hh:decide ((i:Int) ≥ most)=true:=decide_eq_true h
    unfold declI at hc
    rw [hlen,hh] at hc
    revert hc
    cases nameB d.name <;> cases twiceB p kind pre d.name <;> intro hc <;> simp at hc
   refine tops_ag p kind most bad hbad rest hrest l (i+1) _ (pre++[d]) (by simp [hp]) (by omega) ?_
   have:=hM.put d.name
   refine ⟨this.txt,fun n => ?_⟩
   rw [this.get]
   simp [hasD,Bool.or_assoc]
theorem locs_ag (p:Prg) (above:MI) (hA:Is1 above fun n=>hasD p.shared n || hasD p.locks n) :
  ∀ (l:List Decl) (i:Nat) (M:MI) (pre:List Decl),pre.length=i→i≤64→Is1 M (hasD pre)→Ag (localsW above l i M) (declsF p 2 64 pre l)
 | [],i,M,pre,_,_,_=>by unfold localsW declsF; rfl
 | d::l,i,M,pre,hp,hi,hM=>by
  have hlen:((pre.length:Int):Int)=i:=by rw [hp]
  have h3:((i:Int) == 64)=decide ((i:Int) ≥ 64):=by
   rw [Bool.eq_iff_iff]; simp only [beq_iff_eq,decide_eq_true_eq]; omega
  have h2:decide (IntKind.i64.wrap (mgetI M (.ks d.name)+mgetI above (.ks d.name)) > 0)=twiceB p 2 pre d.name:=by
   unfold twiceB
   rw [findI_has,findI_has,findI_has,hM.get,hA.get]
   cases hasD pre d.name <;> cases hasD p.shared d.name <;> cases hasD p.locks d.name <;> rfl
  have h4:(d.word != 0)=wordI 2 d.word:=rfl
  have hL:leastW (localRules above M i d) 0=declI p 2 pre d pre.length 64:=by
   unfold localRules
   rw [least4,h2,h3,h4]
   unfold declI
   rw [hlen]
  unfold localsW declsF
  rw [hL]
  have hpn:decide (declI p 2 pre d pre.length 64 > 0)=(declI p 2 pre d pre.length 64 != 0):=pos_ne ..
  rw [hpn]
  cases hc:declI p 2 pre d pre.length 64 != 0 with
  | true=>exact ⟨rfl,by simpa using hc⟩
  | false =>
   show Ag (localsW above l (i+1) (mputI M (.ks d.name) 1)) (declsF p 2 64 (pre++[d]) l)
   have hlt : ¬ (i:Int) ≥ 64:=by
    intro h
    have hh:decide ((i:Int) ≥ 64)=true:=decide_eq_true h
    unfold declI at hc
    rw [hlen,hh] at hc
    revert hc
    cases nameB d.name <;> cases twiceB p 2 pre d.name <;> intro hc <;> simp at hc
   refine locs_ag p above hA l (i+1) _ (pre++[d]) (by simp [hp]) (by omega) ?_
   have:=hM.put d.name
   refine ⟨this.txt,fun n => ?_⟩
   rw [this.get]
   simp [hasD]
structure IsTop (M:MI) (f:ByteArray→Int):Prop where
 txt:txt M
 get : ∀ n,mgetI M (.ks n)=f n
theorem IsTop.put {M:MI} {f:ByteArray→Int} (h:IsTop M f) (a:ByteArray) (s:Int):IsTop (putTop M a s) fun n=>bif seq a n && f n == 0 then s else f n:=by
 unfold putTop
 cases hc:mgetI M (.ks a) == 0 with
 | true =>
  refine ⟨txt_put M a s h.txt,fun n => ?_⟩
  show mgetI (mputI M (.ks a) s) (.ks n)=_
  rw [get_put M a n s h.txt,h.get]
  cases hs:seq a n with
  | false=>rfl
  | true =>
   have:f n=f a:=by
    rw [← h.get n,← h.get a]
    have key : ∀ M:MI,mgetI M (.ks n)=mgetI M (.ks a):=by
     intro M
     induction M with
     | nil=>rfl
     | cons p M ih =>
      obtain ⟨k,v⟩:=p
      rw [get_cons,get_cons,ih]
      have:MK.same k (.ks n)=MK.same k (.ks a):=by
       cases k with
       | ks c=>show seq c n=seq c a; unfold seq at *; rw [show a.toList=n.toList by simpa using hs]
       | _=>rfl
      rw [this]
    exact key M
   rw [← h.get a,] at this
   rw [this,hc]; rfl
 | false =>
  refine ⟨h.txt,fun n => ?_⟩
  show mgetI M (.ks n)=_
  rw [h.get]
  cases hs:seq a n with
  | false=>rfl
  | true =>
   have:f n=f a:=by
    rw [← h.get n,← h.get a]
    have key : ∀ M:MI,mgetI M (.ks n)=mgetI M (.ks a):=by
     intro M
     induction M with
     | nil=>rfl
     | cons p M ih =>
      obtain ⟨k,v⟩:=p
      rw [get_cons,get_cons,ih]
      have:MK.same k (.ks n)=MK.same k (.ks a):=by
       cases k with
       | ks c=>show seq c n=seq c a; unfold seq at *; rw [show a.toList=n.toList by simpa using hs]
       | _=>rfl
      rw [this]
    exact key M
   rw [h.get a,← this] at hc
   rw [hc]; rfl
theorem IsTop.putAll {s:Int} (hs:s≠0) : ∀ (l:List Decl) {M:MI} {f:ByteArray→Int},IsTop M f→IsTop (putAll M l s) fun n=>bif hasD l n && f n == 0 then s else f n
 | [],M,f,h=>⟨h.txt,fun n=>h.get n⟩
 | d::l,M,f,h=>by
  have:=IsTop.putAll hs l (h.put d.name s)
  refine ⟨this.txt,fun n => ?_⟩
  rw [show am.putAll M (d::l) s=am.putAll (putTop M d.name s) l s from rfl,this.get]
  show (bif hasD l n && (bif seq d.name n && f n == 0 then s else f n) == 0 then s else (bif seq d.name n && f n == 0 then s else f n))=bif (seq d.name n || hasD l n) && f n == 0 then s else f n
  have hs':(s == 0)=false:=by simpa using hs
  cases seq d.name n <;> cases hasD l n <;> cases hf:f n == 0 <;> simp [hf,hs']
theorem IsTop.putThs : ∀ (l:List Thread) {M:MI} {f:ByteArray→Int},IsTop M f→IsTop (putThs M l) fun n=>bif hasT l n && f n == 0 then 3 else f n
 | [],M,f,h=>⟨h.txt,fun n=>h.get n⟩
 | d::l,M,f,h=>by
  have:=IsTop.putThs l (h.put d.name 3)
  refine ⟨this.txt,fun n => ?_⟩
  rw [show am.putThs M (d::l)=am.putThs (putTop M d.name 3) l from rfl,this.get]
  show (bif hasT l n && (bif seq d.name n && f n == 0 then 3 else f n) == 0 then 3 else (bif seq d.name n && f n == 0 then 3 else f n))=bif (seq d.name n || hasT l n) && f n == 0 then 3 else f n
  cases seq d.name n <;> cases hasT l n <;> cases hf:f n == 0 <;> simp [hf]
def sortI (p:Prg) (n:ByteArray):Int:=bif hasD p.shared n then 1 else bif hasD p.locks n then 2 else bif hasT p.threads n then 3 else 0
theorem top_is (p:Prg):IsTop (topOf p) (sortI p):=by
 have h0:IsTop [] fun _=>0:=⟨fun p hp=>by simp at hp,fun n=>rfl⟩
 have:=IsTop.putThs p.threads (IsTop.putAll (s:=2) (by decide) p.locks (IsTop.putAll (s:=1) (by decide) p.shared h0))
 refine ⟨this.txt,fun n=>(this.get n).trans ?_⟩
 unfold sortI
 cases hasD p.shared n <;> cases hasD p.locks n <;> cases hasT p.threads n <;> rfl
end Go.Proofs.YthboippafkcoiaaGreatDoor.am
namespace Go.Proofs.YthboippafkcoiaaGreatDoor.am
open Go
def R056 (v:Int):Prop:=v=0∨v=5∨v=6
theorem least_e (a d:Bool) {v:Int} (hv:R056 v):leastW [whenI 4 a,v,whenI 7 d] 0=bif a then 4 else (bif (v == 0) && d then 7 else v):=by
 rcases hv with rfl | rfl | rfl <;> cases a <;> cases d <;> rfl
theorem least_s0 (a d:Bool):leastW [whenI 4 a,whenI 7 d] 0=bif a then 4 else (bif ((0:Int) == 0) && d then 7 else 0):=by
 cases a <;> cases d <;> rfl
theorem least_s1 (a d:Bool) {v:Int} (hv:R056 v):leastW [whenI 4 a,whenI 7 d,v] 0=bif a then 4 else (bif (v == 0) && d then 7 else v):=by
 rcases hv with rfl | rfl | rfl <;> cases a <;> cases d <;> rfl
theorem least_s2 (a d:Bool) {v u:Int} (hv:R056 v) (hu:R056 u):leastW [whenI 4 a,whenI 7 d,v,u] 0=bif a then 4 else (bif (leastI v u == 0) && d then 7 else leastI v u):=by
 rcases hv with rfl | rfl | rfl <;> rcases hu with rfl | rfl | rfl <;> cases a <;> cases d <;> rfl
theorem leastI_056 {v u:Int} (hv:R056 v) (hu:R056 u):R056 (leastI v u):=by
 rcases hv with rfl | rfl | rfl <;> rcases hu with rfl | rfl | rfl <;> simp [R056,leastI]
theorem pos_dp (a d:Bool) {v:Int} (hv:R056 v):decide ((bif a then (4:Int) else (bif (v == 0) && d then 7 else v)) > 0)=((bif a then (4:Int) else (bif (v == 0) && d then 7 else v)) != 0):=by
 rcases hv with rfl | rfl | rfl <;> cases a <;> cases d <;> rfl
section
variable {p:Prg} {i:Nat} {th:Thread} {M:MI}
theorem local_has (hi:p.threads[i]? = some th) (n:ByteArray):decide (localI p i n ≥ 0)=hasD th.locals n:=by
 unfold localI
 rw [if_neg (by omega),show (i:Int).toNat=i by omega,hi]
 exact findI_has ..
theorem var056 (p:Prg) (i:Int) (n:ByteArray) (b:Bool):R056 (variableI p i n b):=by
 unfold variableI
 cases decide (localI p i n ≥ 0) <;> cases decide (findI p.shared n 0 ≥ 0) <;> cases (decide (findI p.locks n 0 ≥ 0) || decide (threadI p.threads n 0 ≥ 0)) <;> cases b <;> simp [R056]
theorem lock056 (p:Prg) (i:Int) (n:ByteArray):R056 (lockI p i n):=by
 unfold lockI
 cases decide (localI p i n ≥ 0) <;> cases decide (findI p.locks n 0 ≥ 0) <;> cases (decide (findI p.shared n 0 ≥ 0) || decide (threadI p.threads n 0 ≥ 0)) <;> simp [R056]
theorem var_eq (hi:p.threads[i]? = some th) (hM:Is1 M (hasD th.locals)) (n:ByteArray) (b:Bool):variableW (topOf p) M n b=variableI p i n b:=by
 unfold variableW variableI
 rw [hM.pos,local_has hi,findI_has,findI_has,threadI_has,(top_is p).get]
 unfold sortI
 cases hasD th.locals n <;> cases hasD p.shared n <;> cases hasD p.locks n <;> cases hasT p.threads n <;> cases b <;> rfl
theorem lock_eq (hi:p.threads[i]? = some th) (hM:Is1 M (hasD th.locals)) (hLS : ∀ n,hasD p.locks n=true→hasD p.shared n=false) (n:ByteArray):guardW (topOf p) M n=lockI p i n:=by
 unfold guardW lockI
 rw [hM.pos,local_has hi,findI_has,findI_has,threadI_has,(top_is p).get,hM.get]
 unfold sortI
 have:=hLS n
 revert this
 cases hasD th.locals n <;> cases hasD p.shared n <;> cases hasD p.locks n <;> cases hasT p.threads n <;> intro this <;> first | rfl | (exact absurd (this rfl) (by decide))
mutual
theorem expr_ag (hi:p.threads[i]? = some th) (hM:Is1 M (hasD th.locals)) : ∀ (e:Expr) (deep:Int),Ag (exprW (topOf p) M e deep) (exprF p i e deep)
 | .mk kind op word name kids at_,deep=>by
  have ih:=exprs_ag hi hM kids (deep+1)
  have hv:R056 (bif kind == 2 then variableI p i name false else 0):=by
   cases kind == 2
   ·exact .inl rfl
   ·exact var056 ..
  have hL:leastW (exprRules (topOf p) M kind op word name kids at_ deep) 0=bif !partsB (.mk kind op word name kids at_) then 4 else deepI (bif kind == 2 then variableI p i name false else 0) deep:=by
   unfold exprRules
   rw [var_eq hi hM]
   exact least_e _ _ hv
  unfold exprW exprF
  rw [hL]
  have hp:decide ((bif !partsB (.mk kind op word name kids at_) then 4 else deepI (bif kind == 2 then variableI p i name false else 0) deep) > 0)=((bif !partsB (.mk kind op word name kids at_) then 4 else deepI (bif kind == 2 then variableI p i name false else 0) deep) != 0):=pos_dp _ _ hv
  rw [hp]
  cases !partsB (.mk kind op word name kids at_) with
  | true=>exact ⟨rfl,show (4:Int)≠0 by decide⟩
  | false =>
   simp only [cond_false]
   cases hd:deepI (bif kind == 2 then variableI p i name false else 0) deep != 0 with
   | true=>exact ⟨rfl,by simpa using hd⟩
   | false=>exact ih
theorem exprs_ag (hi:p.threads[i]? = some th) (hM:Is1 M (hasD th.locals)) : ∀ (l:List Expr) (deep:Int),Ag (exprsW (topOf p) M l deep) (exprsF p i l deep)
 | [],deep=>by unfold exprsW exprsF; rfl
 | e::l,deep=>by
  have h1:=expr_ag hi hM e deep
  have h2:=exprs_ag hi hM l deep
  unfold exprsW exprsF
  rw [h1.rule]
  cases he:exprW (topOf p) M e deep with
  | some f=>rw [he] at h1; exact h1
  | none=>exact h2
end
mutual
theorem stmt_ag (hi:p.threads[i]? = some th) (hM:Is1 M (hasD th.locals)) (hLS : ∀ n,hasD p.locks n=true→hasD p.shared n=false) : ∀ (s:Stmt) (deep:Int),Ag (stmtW (topOf p) M s deep) (stmtF p i s deep)
 | .mk kind name other e body els at_,deep=>by
  have h1:=exprs_ag hi hM e 1
  have h2:=block_ag hi hM hLS body (deep+1)
  have h3:=block_ag hi hM hLS els (deep+1)
  have hv:R056 (namesI p i kind name other):=by
   unfold namesI
   cases kind == 1 with
   | true=>exact var056 ..
   | false =>
    simp only [cond_false]
    cases kind == 2 with
    | true=>exact leastI_056 (var056 ..) (var056 ..)
    | false =>
     simp only [cond_false]
     cases kind == 5 with
     | true=>exact lock056 ..
     | false=>exact .inl rfl
  have hL:leastW (stmtRules (topOf p) M kind name other e body els at_ deep) 0=bif !fieldsB (.mk kind name other e body els at_) then 4 else deepI (namesI p i kind name other) deep:=by
   unfold stmtRules namesI
   rw [var_eq hi hM,var_eq hi hM,lock_eq hi hM hLS]
   cases kind == 1 with
   | true=>exact least_s1 _ _ (var056 ..)
   | false =>
    simp only [cond_false]
    cases kind == 2 with
    | true=>exact least_s2 _ _ (var056 ..) (var056 ..)
    | false =>
     simp only [cond_false]
     cases kind == 5 with
     | true=>exact least_s1 _ _ (lock056 ..)
     | false=>exact least_s0 _ _
  unfold stmtW stmtF
  rw [hL]
  have hp:decide ((bif !fieldsB (.mk kind name other e body els at_) then 4 else deepI (namesI p i kind name other) deep) > 0)=((bif !fieldsB (.mk kind name other e body els at_) then 4 else deepI (namesI p i kind name other) deep) != 0):=pos_dp _ _ hv
  rw [hp]
  cases !fieldsB (.mk kind name other e body els at_) with
  | true=>exact ⟨rfl,show (4:Int)≠0 by decide⟩
  | false =>
   simp only [cond_false]
   cases hd:deepI (namesI p i kind name other) deep != 0 with
   | true=>exact ⟨rfl,by simpa using hd⟩
   | false =>
    simp only [cond_false]
    rw [h1.rule,h2.rule]
    cases he:exprsW (topOf p) M e 1 with
    | some f=>rw [he] at h1; exact h1
    | none =>
     cases hb:blockW (topOf p) M body (deep+1) with
     | some f=>rw [hb] at h2; exact h2
     | none=>exact h3
theorem block_ag (hi:p.threads[i]? = some th) (hM:Is1 M (hasD th.locals)) (hLS : ∀ n,hasD p.locks n=true→hasD p.shared n=false) : ∀ (l:List Stmt) (deep:Int),Ag (blockW (topOf p) M l deep) (stmtsF p i l deep)
 | [],deep=>by unfold blockW stmtsF; rfl
 | s::l,deep=>by
  have h1:=stmt_ag hi hM hLS s deep
  have h2:=block_ag hi hM hLS l deep
  unfold blockW stmtsF
  rw [h1.rule]
  cases he:stmtW (topOf p) M s deep with
  | some f=>rw [he] at h1; exact h1
  | none=>exact h2
end
end
theorem one_nil:Is1 [] (hasD []):=⟨fun p hp=>by simp at hp,fun n=>rfl⟩
theorem above_is (p:Prg):Is1 (aboveM p) fun n=>hasD p.shared n || hasD p.locks n:=by
 have:=(one_nil.ones p.shared).ones p.locks
 refine ⟨this.txt,fun n => ?_⟩
 rw [show aboveM p=ones (ones [] p.shared) p.locks from rfl,this.get]
 simp [hasD]
theorem ths_ag (p:Prg) (hLS : ∀ n,hasD p.locks n=true→hasD p.shared n=false) : ∀ (l:List Thread) (i:Nat) (M:MI),l=p.threads.drop i→i≤8→Is1 M (fun n=>hasD p.shared n || hasD p.locks n || hasT (p.threads.take i) n)→Ag (thsW p (topOf p) l i M) (threadsF p i l ⟨0,0⟩)
 | [],i,M,_,_,_=>by unfold thsW threadsF; rfl
 | t::l,i,M,hl,hi8,hM=>by
  have hlt:i<p.threads.length:=by
   rcases Nat.lt_or_ge i p.threads.length with h | h
   ·exact h
   ·rw [List.drop_of_length_le h] at hl; cases hl
  have hi:p.threads[i]? = some t:=by
   have:=congrArg List.head? hl
   rw [List.head?_cons,List.head?_drop] at this
   exact this.symm
  have hl':l=p.threads.drop (i+1):=by
   have:=congrArg List.tail hl
   rw [List.tail_cons,List.tail_drop] at this
   exact this
  have h3:((i:Int) == 8)=decide ((i:Int) ≥ 8):=by
   rw [Bool.eq_iff_iff]; simp only [beq_iff_eq,decide_eq_true_eq]; omega
  have hd:decide (threadI p.threads t.name 0<i)=hasT (p.threads.take i) t.name:=by
   have:=threadI_lt p.threads t.name 0 i t hi (by unfold seq; simp)
   rw [Nat.zero_add] at this; exact this
  have h2:(decide (findI p.shared t.name 0 ≥ 0) || decide (findI p.locks t.name 0 ≥ 0) || decide (threadI p.threads t.name 0<i))=decide (mgetI M (.ks t.name) > 0):=by
   rw [hM.pos,findI_has,findI_has,hd]
  have hlo:=locs_ag p (aboveM p) (above_is p) t.locals 0 [] [] rfl (by omega) one_nil
  have hM1:Is1 (ones [] t.locals) (hasD t.locals):=by
   have:=one_nil.ones t.locals
   refine ⟨this.txt,fun n => ?_⟩
   rw [this.get]; simp [hasD]
  have hbl:=block_ag hi hM1 hLS t.body 1
  unfold thsW threadsF thRules
  rw [least3,h2,h3]
  cases hn : !nameB t.name with
  | true=>exact ⟨rfl,show (1:Int)≠0 by decide⟩
  | false =>
  cases hs:decide (mgetI M (.ks t.name) > 0) with
  | true=>exact ⟨rfl,show (2:Int)≠0 by decide⟩
  | false =>
  cases h8:decide ((i:Int) ≥ 8) with
  | true=>exact ⟨rfl,show (3:Int)≠0 by decide⟩
  | false =>
  have h8:=of_decide_eq_false h8
  show Ag (match threadW p (topOf p) t with | some f=>some f | none=>thsW p (topOf p) l (i+1) (mputI M (.ks t.name) 1)) (threadsF p (i+1) l (bif (declsF p 2 64 [] t.locals).rule == 0 then stmtsF p i t.body 1 else declsF p 2 64 [] t.locals))
  have hth:Ag (threadW p (topOf p) t) (bif (declsF p 2 64 [] t.locals).rule == 0 then stmtsF p i t.body 1 else declsF p 2 64 [] t.locals):=by
   unfold threadW
   have hr:=hlo.rule
   cases ho:localsW (aboveM p) t.locals 0 [] with
   | some f =>
    rw [ho] at hlo hr
    have:((declsF p 2 64 [] t.locals).rule == 0)=false:=by simpa using hr
    rw [this]; exact hlo
   | none =>
    rw [ho] at hr
    have:((declsF p 2 64 [] t.locals).rule == 0)=true:=by simpa using hr
    rw [this]; exact hbl
  have ih:=ths_ag p hLS l (i+1) (mputI M (.ks t.name) 1) hl' (by omega) (by
   have:=hM.put t.name
   refine ⟨this.txt,fun n => ?_⟩
   rw [this.get,take_snoc hi]
   simp [hasT,Bool.or_assoc])
  generalize (bif (declsF p 2 64 [] t.locals).rule == 0 then stmtsF p i t.body 1 else declsF p 2 64 [] t.locals)=f at *
  cases ho:threadW p (topOf p) t with
  | some g =>
   rw [ho] at hth
   obtain ⟨rfl,hg⟩:=hth
   have key : ∀ (l:List Thread) (i:Nat),threadsF p i l f=f:=by
    intro l
    cases l with
    | nil=>intro i; unfold threadsF; rfl
    | cons t l=>intro i; unfold threadsF; rw [show (f.rule != 0)=true by simpa using hg]; rfl
   rw [key]
   exact ⟨rfl,hg⟩
  | none =>
   rw [ho] at hth
   have hth:f=⟨0,0⟩:=hth
   rw [hth]
   exact ih
theorem first_ag (p:Prg):Ag (firstW p) (firstF p):=by
 have h1:=tops_ag p 0 64 minW (fun w=>by unfold minW wordI; cases (w == -9223372036854775808) <;> rfl) (fun _=>false) (fun pre name=>by unfold twiceB; rw [findI_has]; simp) p.shared 0 [] [] rfl (by omega) ⟨fun p hp=>by simp at hp,fun n=>rfl⟩
 have h2:=tops_ag p 1 16 anyW (fun w=>by unfold anyW wordI; rfl) (fun n=>hasD p.shared n) (fun pre name=>by unfold twiceB; rw [findI_has,findI_has]; simp [Bool.or_comm]) p.locks 0 (ones [] p.shared) [] rfl (by omega) (by
  have:=one_nil.ones p.shared
  refine ⟨this.txt,fun n => ?_⟩
  rw [this.get]; simp [hasD])
 unfold firstW firstF
 have r1:=h1.rule
 cases ho:topsW 64 minW p.shared 0 [] with
 | some f =>
  rw [show ((64:Nat):Int)=64 from rfl,ho] at h1 r1
  have:((declsF p 0 64 [] p.shared).rule == 0)=false:=by simpa using r1
  rw [this]
  obtain ⟨h1,hf⟩:=h1
  have h1:declsF p 0 64 [] p.shared=f:=h1
  rw [cond_false,h1]
  refine ⟨?_,hf⟩
  cases p.threads with
  | nil=>unfold threadsF; rfl
  | cons t l=>unfold threadsF; rw [show (f.rule != 0)=true by simpa using hf]; rfl
 | none =>
  rw [show ((64:Nat):Int)=64 from rfl,ho] at h1 r1
  have:((declsF p 0 64 [] p.shared).rule == 0)=true:=by simpa using r1
  rw [this,cond_true]
  have r2:=h2.rule
  cases ho2:topsW 16 anyW p.locks 0 (ones [] p.shared) with
  | some f =>
   rw [show ((16:Nat):Int)=16 from rfl,ho2] at h2
   obtain ⟨h2,hf⟩:=h2
   have h2:declsF p 1 16 [] p.locks=f:=h2
   rw [h2]
   refine ⟨?_,hf⟩
   cases p.threads with
   | nil=>unfold threadsF; rfl
   | cons t l=>unfold threadsF; rw [show (f.rule != 0)=true by simpa using hf]; rfl
  | none =>
   rw [show ((16:Nat):Int)=16 from rfl,ho2] at h2
   have h2:declsF p 1 16 [] p.locks=⟨0,0⟩:=h2
   rw [h2]
   refine ths_ag p ?_ p.threads 0 _ (by rw [List.drop_zero]) (by omega) ?_
   ·
    have key : ∀ (l:List Decl) (i:Nat) (M:MI) (pre:List Decl),Is1 M (fun n=>hasD p.shared n || hasD pre n)→topsW 16 anyW l i M=none → ∀ d ∈ l,hasD p.shared d.name=false:=by
     intro l
     induction l with
     | nil=>intro i M pre _ _ d hd; simp at hd
     | cons x l ih =>
      intro i M pre hM h d hd
      have hL:leastW (topRules M 16 anyW i x) 0=bif !nameB x.name then 1 else bif (hasD p.shared x.name || hasD pre x.name) then 2 else bif ((i:Int) == 16) then 3 else bif anyW x.word then 4 else 0:=by
       unfold topRules; rw [least4,hM.pos]
      unfold topsW at h
      cases hb:decide (leastW (topRules M 16 anyW i x) 0 > 0) with
      | true=>rw [hb] at h; cases h
      | false =>
      rw [hb] at h
      have hn:topsW 16 anyW l (i+1) (mputI M (.ks x.name) 1)=none:=h
      have hsx:hasD p.shared x.name=false:=by
       cases hs:hasD p.shared x.name with
       | false=>rfl
       | true =>
        rw [hL,hs,Bool.true_or] at hb
        have hb:=of_decide_eq_false hb
        exfalso
        apply hb
        cases nameB x.name
        ·show (1:Int) > 0; decide
        ·show (2:Int) > 0; decide
      rcases List.mem_cons.1 hd with rfl | hd
      ·exact hsx
      ·exact ih (i+1) _ (pre++[x]) (by
        have:=hM.put x.name
        refine ⟨this.txt,fun n => ?_⟩
        rw [this.get]; simp [hasD,Bool.or_assoc]) hn d hd
    intro n hn
    unfold hasD at hn
    obtain ⟨d,hd,hdn⟩:=List.any_eq_true.1 hn
    have:=key p.locks 0 _ [] (by
     have:=one_nil.ones p.shared
     refine ⟨this.txt,fun n => ?_⟩
     rw [this.get]; simp [hasD]) ho2 d hd
    have e : ∀ x:ByteArray,seq x d.name=seq x n:=fun x=>by
     unfold seq at *
     rw [show d.name.toList=n.toList by simpa using hdn]
    unfold hasD at this ⊢
    simpa [e] using this
   ·have:=(one_nil.ones p.shared).ones p.locks
    refine ⟨this.txt,fun n => ?_⟩
    rw [this.get]; simp [hasD,hasT]
theorem check_eq (p:Prg):checkW p=checkF p:=by
 have h:=first_ag p
 have hr:=h.rule
 unfold checkW checkF
 cases ho:firstW p with
 | some f =>
  rw [ho] at h hr
  rw [hr]
  obtain ⟨rfl,_⟩:=h
  rfl
 | none =>
  rw [ho] at hr
  rw [hr]; rfl
end Go.Proofs.YthboippafkcoiaaGreatDoor.am
namespace Go.Proofs.YthboippafkcoiaaGreatDoor.ws
open Go Go.RowKit Go.Lib
theorem maskN (a:Nat) (ha:a<18446744073709551616):bits .and .u64 (a:Int) 4294967295=((a % 4294967296:Nat):Int):=by
 have h:=bits_and_u64_nat a 4294967295 ha (by omega)
 have e:a &&& 4294967295=a % 4294967296:=Nat.and_two_pow_sub_one_eq_mod a 32
 rw [e] at h
 exact h
theorem divN (a:Nat):(a:Int) / 4294967296=((a / 4294967296:Nat):Int):=by omega
theorem mulN (a b:Nat):(a:Int)*(b:Int)=((a*b:Nat):Int):=(Int.natCast_mul a b).symm
theorem addN (a b:Nat):(a:Int)+(b:Int)=((a+b:Nat):Int):=(Int.natCast_add a b).symm
theorem wrapN (a:Nat) (ha:a<18446744073709551616):IntKind.u64.wrap (a:Int)=(a:Int):=by rw [IntKind.wrap_u64]; omega
theorem wrapM (a:Nat):IntKind.u64.wrap (a:Int)=((a % 18446744073709551616:Nat):Int):=by rw [IntKind.wrap_u64]; omega
theorem num_u64 {a b:Int} (h:a=b):Value.int .u64 a=Value.int .u64 b:=by rw [h]
theorem ret_int3 {k l m:IntKind} {a b c a' b' c':Int} (h:a=a') (h2:b=b') (h3:c=c'):Ending.returned (.tuple #[.int k a,.int l b,.int m c]) = .returned (.tuple #[.int k a',.int l b',.int m c']):=by rw [h,h2,h3]
end Go.Proofs.YthboippafkcoiaaGreatDoor.ws
namespace Go.Proofs.YthboippafkcoiaaGreatDoor.ws
open Go Go.RowKit Go.Lib
end Go.Proofs.YthboippafkcoiaaGreatDoor.ws
namespace Go.Proofs.YthboippafkcoiaaGreatDoor.ws
open Go Go.RowKit Go.Lib
end Go.Proofs.YthboippafkcoiaaGreatDoor.ws
