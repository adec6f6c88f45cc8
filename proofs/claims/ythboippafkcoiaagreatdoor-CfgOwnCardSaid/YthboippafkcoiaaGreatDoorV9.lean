/- Graphs as rows of the machine; contracts of cfg: follows, whole. Contracts of cfg: whole. Contracts of cfg: spread, Reached. Contracts of cfg: -/
import Derived.Test.YthboippafkcoiaaGreatDoorV8
import Derived.Test.YthboippafkcoiaaGreatDoorV5
set_option linter.all false
namespace Go.Proofs.YthboippafkcoiaaGreatDoor.am
open Go Go.Proofs
set_option linter.all false
structure Val where
 s:Bool
 k:Int
 w:Int
structure Nd where
 kind:Int
 op:Int
 slot:Int
 thing:Int
 a:Val
 b:Val
 next:Int
 els:Int
 origin:Int
structure Gr where
 name:ByteArray
 locals:Int
 slots:Int
 nodes:List Nd
def Nd.cells (n:Nd):List Tr:=[tu n.kind,tu n.op,ti n.slot,ti n.thing,tb n.a.s,ti n.a.k,ti n.a.w,tb n.b.s,ti n.b.k,ti n.b.w,ti n.next,ti n.els,ti n.origin]
def Nd.av (n:Nd):AV := .agg (n.cells.map .tr)
abbrev nodesT (l:List Nd):Tr := .lst 13 96 (l.map Nd.cells)
def Gr.cells (g:Gr):List Tr:=[ts g.name,ti g.locals,ti g.slots,nodesT g.nodes]
def Gr.av (g:Gr):AV := .agg (g.cells.map .tr)
abbrev natsT (l:List Nat):Tr:=intsT (l.map fun (x:Nat)=>(x:Int))
def folI (n:Nd):List Int:=bif n.kind == 9 then [] else bif n.kind == 8 && n.els != n.next then [n.next,n.els] else [n.next]
def fol (g:Gr) (x:Nat):List Nat:=match g.nodes[x]? with | some n=>(folI n).map Int.toNat | none=>[]
def nodeOk (N:Int) (n:Nd):Bool := !(n.kind == 0 || decide (n.kind ≥ 10)) && (folI n).all fun k => !(decide (k<0) || decide (k ≥ N))
def wholeB (g:Gr):Bool:=bif decide ((g.nodes.length:Int)<1) || decide ((g.nodes.length:Int) > 4096) then false else g.nodes.all (nodeOk g.nodes.length)
theorem folI_len (n:Nd):(folI n).length≤2:=by
 unfold folI
 cases (n.kind == 9) <;> cases (n.kind == 8 && n.els != n.next) <;> exact Nat.le_of_ble_eq_true rfl
structure Whole (g:Gr):Prop where
 pos:0<g.nodes.length
 most:g.nodes.length≤4096
 kind : ∀ n ∈ g.nodes,n.kind≠0∧n.kind<10
 fol : ∀ (x:Nat) n,g.nodes[x]? = some n→folI n=(fol g x).map fun (x:Nat)=>(x:Int)
 lt : ∀ a,∀ b ∈ am.fol g a,b<g.nodes.length
 len : ∀ a,(am.fol g a).length≤2
 nd : ∀ a,(am.fol g a).Nodup
theorem whole_of {g:Gr} (h:wholeB g=true):Whole g:=by
 unfold wholeB at h
 cases hc:(decide ((g.nodes.length:Int)<1) || decide ((g.nodes.length:Int) > 4096)) with
 | true=>rw [hc] at h; cases h
 | false =>
  rw [hc,cond_false] at h
  simp only [Bool.or_eq_false_iff,decide_eq_false_iff_not] at hc
  have hn:=fun n hn=>List.all_eq_true.1 h n hn
  have hk : ∀ n ∈ g.nodes,(n.kind≠0∧n.kind<10) ∧ ∀ k ∈ folI n,0≤k∧k<(g.nodes.length:Int):=fun n hm=>by
   have:=hn n hm
   unfold nodeOk at this
   simp only [Bool.and_eq_true,Bool.not_eq_true',Bool.or_eq_false_iff,decide_eq_false_iff_not,List.all_eq_true] at this
   refine ⟨⟨by simpa using this.1.1,by omega⟩,fun k hk => ?_⟩
   have:=this.2 k hk
   omega
  have hf : ∀ (x:Nat) n,g.nodes[x]? = some n→folI n=(fol g x).map fun (x:Nat)=>(x:Int):=fun x n hx=>by
   have hm:=List.mem_of_getElem? hx
   unfold fol
   rw [hx]
   simp only [List.map_map]
   conv=>lhs; rw [← List.map_id (folI n)]
   refine List.map_congr_left fun k hk' => ?_
   have:=(hk n hm).2 k hk'
   show k=((k.toNat:Nat):Int)
   omega
  have hlen : ∀ a,(fol g a).length≤2:=fun a=>by
   unfold fol
   split
   ·rw [List.length_map]; exact folI_len _
   ·exact Nat.zero_le _
  refine ⟨by omega,by omega,fun n hm=>(hk n hm).1,hf,fun a b hb => ?_,hlen,fun a => ?_⟩
  ·cases hx:g.nodes[a]? with
   | none=>unfold fol at hb; rw [hx] at hb; cases hb
   | some n =>
    have hm:=List.mem_of_getElem? hx
    have:((b:Nat):Int) ∈ folI n:=by rw [hf a n hx]; exact List.mem_map.2 ⟨b,hb,rfl⟩
    have:=(hk n hm).2 _ this
    omega
  ·unfold fol
   split
   ·rename_i n hx
    have hm:=List.mem_of_getElem? hx
    have hr:=(hk n hm).2
    unfold folI at hr ⊢
    cases h1:(n.kind == 9)
    ·cases h2:(n.kind == 8 && n.els != n.next)
     ·simp
     ·rw [h1,h2] at hr
      have a1:=hr n.next (by simp)
      have a2:=hr n.els (by simp)
      have:n.els≠n.next:=by
       rw [Bool.and_eq_true] at h2
       simpa using h2.2
      simp only [cond_false,cond_true,List.map_cons,List.map_nil,List.nodup_cons,List.mem_cons,List.not_mem_nil,or_false,not_false_eq_true,List.nodup_nil,and_true]
      omega
    ·simp
   ·exact List.nodup_nil
set_option maxRecDepth 100000 in
theorem k_follows (n:Nd):K 61 [n.av] [] (.ret (.tr (intsT (folI n)))) []:=by
 refine Ctr.of hT hmix Tryz.func61 rfl (fun _ _=>by kernel_rfl) rfl fun hok => ?_
 clear hok
 obtain ⟨kind,op,slot,thing,⟨sa,ka,wa⟩,⟨sb,kb,wb⟩,next,els,origin⟩:=n
 generalize hr:folI _=R
 unfold folI at hr
 simp only at hr
 conv=>whnf
 (repeat' (refine csplit (fun h => ?_) (fun h => ?_) <;> (try dsimp only at h) <;> conv=>whnf))
 all_goals
  first
   | (exfalso; clear hr; simp_all; done)
   | (refine ⟨⟨rfl,Nat.le_refl _,?_⟩,trivial⟩; rw [← hr]; simp only [*,Bool.and_true,Bool.true_and,Bool.and_false,Bool.false_and,cond_true,cond_false]; rfl)
   | exact ⟨.inr ⟨rfl,1,8,by rw [← hr]; simp only [*,Bool.and_true,Bool.true_and,Bool.and_false,Bool.false_and,cond_true,cond_false]; rfl⟩,trivial⟩
end Go.Proofs.YthboippafkcoiaaGreatDoor.am
namespace Go.Proofs.YthboippafkcoiaaGreatDoor.am
open Go Go.Proofs
set_option linter.all false
theorem nd_get {l:List Nd} {i:Nat} {row:List Tr} (h:(l.map Nd.cells)[i]? = some row) : ∃ d,l[i]? = some d∧row=d.cells:=by
 rw [List.getElem?_map,Option.map_eq_some_iff] at h
 obtain ⟨d,h1,rfl⟩:=h
 exact ⟨d,h1,rfl⟩
theorem int_get {l:List Int} {i:Nat} {row:List Tr} (h:(l.map irow)[i]? = some row) : ∃ d,l[i]? = some d∧row=[ti d]:=by
 rw [List.getElem?_map,Option.map_eq_some_iff] at h
 obtain ⟨d,h1,rfl⟩:=h
 exact ⟨d,h1,rfl⟩
set_option maxRecDepth 100000 in
theorem k_whole (g:Gr):K 56 [g.av] [] (.ret (.tr (tb (wholeB g)))) []:=by
 generalize hR:wholeB g=R
 unfold wholeB at hR
 obtain ⟨name,locals,slots,nodes⟩:=g
 simp only at hR
 have hln:(nodes.map Nd.cells).length=nodes.length:=List.length_map ..
 refine Ctr.of hT hmix Tryz.func56 rfl (fun _ _=>by kernel_rfl) rfl fun hok => ?_
 clear hok
 by_cases hN:1≤nodes.length∧nodes.length≤4096
 case neg =>
  have hR:false=R:=by
   rw [← hR]
   have:(decide ((nodes.length:Int)<1) || decide ((nodes.length:Int) > 4096))=true:=by
    rw [Bool.or_eq_true]
    by_cases h:nodes.length<1
    ·exact .inl (decide_eq_true (by omega))
    ·exact .inr (decide_eq_true (by omega))
   rw [this]; rfl
  subst hR
  by_cases h:nodes.length<1
  ·have e1:decide (((nodes.map Nd.cells).length:Int)<1)=true:=by rw [hln]; exact decide_eq_true (by omega)
   conv=>whnf
   rw [e1]
   conv=>whnf
   exact aut
  ·have e1:decide (((nodes.map Nd.cells).length:Int)<1)=false:=by rw [hln]; exact decide_eq_false (by omega)
   have e2:decide (((nodes.map Nd.cells).length:Int) > 4096)=true:=by rw [hln]; exact decide_eq_true (by omega)
   conv=>whnf
   rw [e1]
   conv=>whnf
   rw [e2]
   conv=>whnf
   exact aut
 have e1:decide (((nodes.map Nd.cells).length:Int)<1)=false:=by rw [hln]; exact decide_eq_false (by omega)
 have e2:decide (((nodes.map Nd.cells).length:Int) > 4096)=false:=by rw [hln]; exact decide_eq_false (by omega)
 have hR:nodes.all (nodeOk nodes.length)=R:=by
  rw [← hR,show decide ((nodes.length:Int)<1)=false by rw [← hln]; exact e1,show decide ((nodes.length:Int) > 4096)=false by rw [← hln]; exact e2]; rfl
 conv=>whnf
 rw [e1]
 conv=>whnf
 rw [e2]
 conv=>whnf
 refine LoopL.by (fun i:Nat=>⟨[(1,.ptr 0 0),(18,.tr (nodesT nodes)),(19,.tr (ti nodes.length)),(20,.tr (ti i))],[(0,.cells 50 [.tr (ts name),.tr (ti locals),.tr (ti slots),.tr (nodesT nodes)])],10⟩) (fun i=>i≤nodes.length∧(nodes.drop i).all (nodeOk nodes.length)=R) (fun i=>nodes.length - i) 0 [_] []
  (Sub.mk' rfl ⟨⟨rfl,rfl⟩,.inl rfl,.inl (by rw [← hln]),.inl rfl,trivial⟩ ⟨⟨rfl,.inl rfl,.inl rfl,.inl rfl,.inl rfl,trivial⟩,trivial⟩ rfl rfl) ⟨Nat.zero_le _,hR⟩ ?_
 clear hR
 rintro i ⟨hi,hR⟩ -
 conv=>whnf
 refine csplit (fun hlt => ?_) (fun hge => ?_)
 ·have hlt:i<nodes.length:=by have:=of_decide_eq_true hlt; omega
  obtain ⟨n,hn⟩ : ∃ n,nodes[i]? = some n:=⟨_,List.getElem?_eq_getElem hlt⟩
  rw [List.drop_eq_getElem_cons hlt,List.all_cons,(List.getElem?_eq_some_iff.1 hn).2] at hR
  have hf:=k_follows n
  have hnk:nodeOk nodes.length n=(!(n.kind == 0 || decide (n.kind ≥ 10)) && (folI n).all fun k => !(decide (k<0) || decide (k ≥ (nodes.length:Int)))):=rfl
  have hfl:=folI_len n
  rw [hnk] at hR
  clear hnk
  generalize folI n=F at hf hR hfl
  obtain ⟨kind,op,slot,thing,⟨sa,ka,wa⟩,⟨sb,kb,wb⟩,next,els,origin⟩:=n
  simp only at hR
  conv=>whnf
  refine ⟨rfl,(show (0:Int)≤i by omega),(show (i:Int)<((nodes.map Nd.cells).length:Int) by omega),fun row hrow => ?_⟩
  obtain ⟨d,hd,rfl⟩:=nd_get hrow
  obtain rfl:=Option.some.inj (hn.symm.trans hd)
  clear hrow hd
  conv=>whnf
  cases b1:(kind == 0)
  case true =>
   rw [b1,Bool.true_or,Bool.not_true,Bool.false_and,Bool.false_and] at hR
   subst hR
   conv=>whnf
   exact aut
  conv=>whnf
  cases b2:decide (kind ≥ 10)
  case true =>
   rw [b1,b2,Bool.or_true,Bool.not_true,Bool.false_and,Bool.false_and] at hR
   subst hR
   conv=>whnf
   exact aut
  conv=>whnf
  rw [b1,b2,Bool.or_false,Bool.not_false,Bool.true_and] at hR
  refine acall.pure _ (hf) rfl rfl fun _ => ?_
  conv=>whnf
  have hlF:(F.map irow).length=F.length:=List.length_map ..
  refine LoopL.by (fun j:Nat=>⟨[(1,.ptr 0 0),(18,.tr (nodesT nodes)),(19,.tr (ti nodes.length)),(20,.tr (ti i)),(33,.tr (intsT F)),(34,.tr (ti F.length)),(35,.tr (ti j))],[(0,.cells 50 [.tr (ts name),.tr (ti locals),.tr (ti slots),.tr (nodesT nodes)])],10⟩) (fun j=>j≤F.length∧((F.drop j).all (fun k => !(decide (k<0) || decide (k ≥ (nodes.length:Int)))) && (nodes.drop (i+1)).all (nodeOk nodes.length))=R) (fun j=>F.length - j) 0 [0] []
   (Sub.mk' rfl ⟨⟨rfl,rfl⟩,.inl rfl,.inl rfl,.inl rfl,.inl rfl,.inl (by rw [← hlF]),.inl rfl,trivial⟩ aut rfl rfl) ⟨Nat.zero_le _,hR⟩ ?_
  clear hR hf
  rintro j ⟨hj,hR⟩ -
  conv=>whnf
  refine csplit (fun hjt => ?_) (fun hjt => ?_)
  ·have hjt:j<F.length:=by have:=of_decide_eq_true hjt; omega
   obtain ⟨k,hk⟩ : ∃ k,F[j]? = some k:=⟨_,List.getElem?_eq_getElem hjt⟩
   rw [List.drop_eq_getElem_cons hjt,List.all_cons,(List.getElem?_eq_some_iff.1 hk).2] at hR
   conv=>whnf
   refine ⟨rfl,(show (0:Int)≤j by omega),(show (j:Int)<((F.map irow).length:Int) by omega),fun row hrow => ?_⟩
   obtain ⟨d,hd,rfl⟩:=int_get hrow
   obtain rfl:=Option.some.inj (hk.symm.trans hd)
   clear hrow hd
   conv=>whnf
   cases c1:decide (k<0)
   case true =>
    rw [c1,Bool.true_or,Bool.not_true,Bool.false_and,Bool.false_and] at hR
    subst hR
    conv=>whnf
    exact aut
   conv=>whnf
   cases c2:decide (k ≥ (nodes.length:Int))
   case true =>
    rw [c1,c2,Bool.or_true,Bool.not_true,Bool.false_and,Bool.false_and] at hR
    subst hR
    rw [← hln] at c2
    rw [c2]
    conv=>whnf
    exact aut
   rw [c1,c2,Bool.or_false,Bool.not_false,Bool.true_and] at hR
   rw [← hln] at c2
   rw [c2]
   conv=>whnf
   exact ⟨j+1,[0],[],Sub.mk' rfl ⟨⟨rfl,rfl⟩,.inl rfl,.inl rfl,.inl rfl,.inl rfl,.inl rfl,.inl (ti_succ hjt (by omega)),trivial⟩ aut rfl rfl,⟨hjt,hR⟩,by show F.length - (j+1)<F.length - j; omega⟩
  ·have hjt:j=F.length:=by have:=of_decide_eq_false hjt; omega
   subst hjt
   rw [List.drop_length] at hR
   have hR:(nodes.drop (i+1)).all (nodeOk nodes.length)=R:=hR
   conv=>whnf
   refine ⟨fun _ => ?_,fun h=>absurd rfl h⟩
   conv=>whnf
   exact ⟨i+1,[0],[],Sub.mk' rfl ⟨⟨rfl,rfl⟩,.inl rfl,.inl rfl,.inl (ti_succ hlt (by omega)),trivial⟩ aut rfl rfl,⟨hlt,hR⟩,by show nodes.length - (i+1)<nodes.length - i; omega⟩
 ·have hge:i=nodes.length:=by have:=of_decide_eq_false hge; omega
  subst hge
  rw [List.drop_length] at hR
  have hR:true=R:=hR
  subst hR
  conv=>whnf
  refine ⟨fun _ => ?_,fun h=>absurd rfl h⟩
  conv=>whnf
  exact aut
end Go.Proofs.YthboippafkcoiaaGreatDoor.am
namespace Go.Proofs.YthboippafkcoiaaGreatDoor.am
open Go Go.Proofs
set_option linter.all false
def brow (b:Bool):List Tr:=[tb b]
def nrow (x:Nat):List Tr:=[ti x]
abbrev boolsT (l:List Bool):Tr := .lst 1 1 (l.map brow)
abbrev boolsB (l:List Bool):Blk := .vec 4 1 1 (l.map brow)
abbrev natsB (l:List Nat):Blk := .vec 3 1 8 (l.map nrow)
theorem brow_get {l:List Bool} {i:Nat} {row:List Tr} (h:(l.map brow)[i]? = some row) : ∃ d,l[i]? = some d∧row=brow d:=by
 rw [List.getElem?_map,Option.map_eq_some_iff] at h
 obtain ⟨d,h1,rfl⟩:=h
 exact ⟨d,h1,rfl⟩
theorem nrow_get {l:List Nat} {i:Nat} {row:List Tr} (h:(l.map nrow)[i]? = some row) : ∃ d,l[i]? = some d∧row=nrow d:=by
 rw [List.getElem?_map,Option.map_eq_some_iff] at h
 obtain ⟨d,h1,rfl⟩:=h
 exact ⟨d,h1,rfl⟩
theorem brow_set (l:List Bool) (i:Nat) (b c:Bool):(l.map brow).set i ((brow b).take 0++[tb c]++(brow b).drop (0+1))=(l.set i c).map brow:=by
 rw [List.map_set]; rfl
theorem brow_rep (n:Nat) (b:Bool):List.replicate n [Tr.v (.bool b)]=(List.replicate n b).map brow:=by
 rw [List.map_replicate]; rfl
theorem natsT_get {l:List Nat} {i:Nat} {row:List Tr} (h:((l.map fun (x:Nat)=>(x:Int)).map irow)[i]? = some row) : ∃ d,l[i]? = some d∧row=[ti (d:Nat)]:=by
 rw [List.map_map,List.getElem?_map,Option.map_eq_some_iff] at h
 obtain ⟨d,h1,rfl⟩:=h
 exact ⟨d,h1,rfl⟩
theorem natsT_len (l:List Nat):((l.map fun (x:Nat)=>(x:Int)).map irow).length=l.length:=by simp
theorem getD_of {l:List Bool} {x:Nat} {b c:Bool} (h:l[x]? = some b):l.getD x c=b:=by
 rw [List.getD_eq_getElem?_getD,h]; rfl
theorem unseen_rep {N:Nat} (h:0<N):unseen ((List.replicate N false).set 0 true)+1=N:=by
 rw [unseen_set (by rw [List.getElem?_replicate,if_pos h])]
 simp [unseen]
set_option maxRecDepth 100000 in
set_option maxHeartbeats 2000000 in
theorem k_spread (g:Gr) (cut:Int) (hW:Whole g):K 57 [g.av,.tr (ti cut)] [] (.ret (.tr (boolsT (rchL (fol g) cut g.nodes.length)))) []:=by
 have hS:=SprI.start (fol:=fol g) (cut:=cut) hW.pos
 have hFin:=fun out h=>SprI.fin (fol:=fol g) (cut:=cut) (N:=g.nodes.length) (out:=out) h
 have hfI:=hW.fol
 have hlt:=hW.lt
 have hfl:=hW.len
 have hpos:=hW.pos
 have hmo:=hW.most
 clear hW
 generalize hR:rchL (fol g) cut g.nodes.length=R at hFin ⊢
 clear hR
 generalize fol g=f at hS hFin hfI hlt hfl
 obtain ⟨name,locals,slots,nodes⟩:=g
 simp only at hS hFin hfI hlt hpos hmo
 have hln:(nodes.map Nd.cells).length=nodes.length:=List.length_map ..
 obtain ⟨N,hNe⟩ : ∃ N,nodes.length=N:=⟨_,rfl⟩
 rw [hNe] at hS hFin hlt hpos hmo hln
 refine Ctr.of hT hmix Tryz.func57 rfl (fun _ _=>by kernel_rfl) rfl fun hok => ?_
 clear hok
 conv=>whnf
 refine ⟨(by rw [hln]; omega),Int.le_refl _,(by rw [hln]; show (N:Int)*1≤_; omega),?_⟩
 conv=>whnf
 rw [hln,Int.toNat_natCast]
 refine ⟨rfl,by decide,(show (0:Int)<(N:Int) by omega),?_⟩
 conv=>whnf
 refine ⟨rfl,rfl,(by rw [List.length_replicate]; exact hpos),fun row hrow => ?_⟩
 replace hrow:(List.replicate N [Tr.v (.bool false)])[0]? = some row:=hrow
 rw [List.getElem?_replicate,if_pos hpos] at hrow
 cases hrow
 refine ⟨by decide,?_⟩
 conv=>whnf
 refine LoopL.by (fun x:List Bool × List Nat × Nat=>⟨[(1,.tr (ti cut)),(2,.ptr 0 0),(5,.sl 1 N),(6,.sl 2 x.2.2)],[(0,.cells 50 [.tr (ts name),.tr (ti locals),.tr (ti slots),.tr (nodesT nodes)]),(1,boolsB x.1),(2,natsB x.2.1)],10⟩) (fun x=>x.2.2≤x.2.1.length∧x.2.1.length≤2*N+1∧2*unseen x.1+x.2.2≤2*N∧SprI f cut N x.1 (x.2.1.take x.2.2)) (fun x=>2*unseen x.1+x.2.2) ((List.replicate N false).set 0 true,[0],1) [0,_,_] []
  (Sub.mk' rfl ⟨.inl rfl,⟨rfl,rfl⟩,⟨rfl,rfl⟩,⟨rfl,rfl⟩,trivial⟩ ⟨⟨rfl,.inl rfl,.inl rfl,.inl rfl,.inl rfl,trivial⟩,⟨rfl,rfl,rfl,by rw [← brow_set _ _ false,← brow_rep]; rfl⟩,⟨rfl,rfl,rfl,rfl⟩,trivial⟩ rfl rfl) ⟨Nat.le_refl _,by show 1≤2*N+1; omega,by show 2*unseen ((List.replicate N false).set 0 true)+1≤2*N; have:=unseen_rep hpos; omega,hS⟩ ?_
 clear hS
 rintro ⟨out,rows,k⟩ ⟨hk,hrl,hm,hS⟩ -
 simp only at hk hrl hm hS
 conv=>whnf
 refine csplit (fun hk0 => ?_) (fun hk0 => ?_)
 ·have hk0:0<k:=by have:decide ((k:Int) > 0)=true:=hk0; have:=of_decide_eq_true this; omega
  have hk1:IntKind.i64.wrap ((k:Int) - 1)=((k - 1:Nat):Int):=by rw [w64 (by omega) (by omega)]; omega
  obtain ⟨a,ha⟩ : ∃ a,rows[k - 1]? = some a:=⟨_,List.getElem?_eq_getElem (by omega)⟩
  have hp : ∀ x,x ∈ rows.take k↔x=a∨x ∈ rows.take (k - 1):=fun x=>by
   have:rows.take k=rows.take (k - 1)++[a]:=by
    conv=>lhs; rw [show k=(k - 1)+1 by omega,List.take_add_one,ha]
    rfl
   rw [this,List.mem_append,List.mem_singleton]
   exact Or.comm
  have haN:a<N:=hS.lt ((hp a).2 (.inl rfl))
  conv=>whnf
  rw [hk1]
  refine ⟨rfl,(show (0:Int)≤((k - 1:Nat):Int) by omega),(show ((k - 1:Nat):Int)<(k:Int) by omega),?_⟩
  conv=>whnf
  refine ⟨rfl,(by show k - 1<(rows.map nrow).length; rw [List.length_map]; omega),fun row hrow => ?_⟩
  obtain ⟨d,hd,rfl⟩:=nrow_get hrow
  obtain rfl:=Option.some.inj (ha.symm.trans hd)
  clear hrow hd
  refine ⟨(show 0<1 by decide),fun t ht => ?_⟩
  cases ht
  conv=>whnf
  rw [hk1]
  refine ⟨(show (0:Int)≤((k - 1:Nat):Int) by omega),(show ((k - 1:Nat):Int)≤(k:Int) by omega),?_⟩
  conv=>whnf
  cases hac:((a:Int) == cut)
  case true =>
   have hc:(a:Int)=cut:=eq_of_beq hac
   conv=>whnf
   refine ⟨fun _ => ?_,fun h=>absurd rfl h⟩
   conv=>whnf
   exact ⟨(out,rows,k - 1),[0,1,2],[],Sub.mk' rfl aut aut rfl rfl,⟨by show k - 1≤rows.length; omega,hrl,by show 2*unseen out+(k - 1)≤2*N; omega,hS.cut hp hc⟩,by show 2*unseen out+(k - 1)<2*unseen out+k; omega⟩
  have hc:(a:Int)≠cut:=fun w=>by rw [beq_eq_false_iff_ne] at hac; exact hac w
  have hJ:=hS.take hp hc
  obtain ⟨n,hn⟩ : ∃ n,nodes[a]? = some n:=⟨_,List.getElem?_eq_getElem (by omega)⟩
  have hf:=k_follows n
  rw [hfI a n hn] at hf
  have hflt:=hlt a
  have hfl:=hfl a
  obtain ⟨F,hF⟩ : ∃ F,f a=F:=⟨_,rfl⟩
  rw [hF] at hf hflt hfl
  have hFl:=natsT_len F
  obtain ⟨kind,op,slot,thing,⟨sa,ka,wa⟩,⟨sb,kb,wb⟩,next,els,origin⟩:=n
  conv=>whnf
  refine ⟨rfl,(show (0:Int)≤a by omega),(show (a:Int)<((nodes.map Nd.cells).length:Int) by omega),fun row hrow => ?_⟩
  obtain ⟨d,hd,rfl⟩:=nd_get hrow
  obtain rfl:=Option.some.inj (hn.symm.trans hd)
  clear hrow hd hn
  conv=>whnf
  refine acall.pure _ (hf) rfl rfl fun _ => ?_
  conv=>whnf
  refine LoopL.by (fun x:List Bool × List Nat × Nat × Nat=>⟨[(1,.tr (ti cut)),(2,.ptr 0 0),(5,.sl 1 N),(6,.sl 2 x.2.2.1),(39,.tr (natsT F)),(40,.tr (ti F.length)),(41,.tr (ti x.2.2.2))],[(0,.cells 50 [.tr (ts name),.tr (ti locals),.tr (ti slots),.tr (nodesT nodes)]),(1,boolsB x.1),(2,natsB x.2.1)],10⟩) (fun x=>x.2.2.1≤x.2.1.length∧x.2.1.length≤2*N+1∧x.2.2.2≤F.length∧2*unseen x.1+x.2.2.1<2*unseen out+k∧SprJ f cut N x.1 (x.2.1.take x.2.2.1) a x.2.2.2) (fun x=>F.length - x.2.2.2) (out,rows,k - 1,0) [0,1,2] []
   (Sub.mk' rfl ⟨.inl rfl,⟨rfl,rfl⟩,⟨rfl,rfl⟩,⟨rfl,rfl⟩,.inl rfl,.inl (by rw [← hFl]),.inl rfl,trivial⟩ aut rfl rfl) ⟨by show k - 1≤rows.length; omega,hrl,Nat.zero_le _,by show 2*unseen out+(k - 1)<2*unseen out+k; omega,hJ⟩ ?_
  clear hJ hf hS hp ha
  rintro ⟨o2,r2,k2,j⟩ ⟨hk2,hr2,hj,hmu,hJ⟩ -
  simp only at hk2 hr2 hj hmu hJ
  have hol:=hJ.len
  conv=>whnf
  refine csplit (fun hjt => ?_) (fun hjt => ?_)
  ·have hjt:j<F.length:=by have:decide ((j:Int)<(F.length:Int))=true:=hjt; have:=of_decide_eq_true this; omega
   obtain ⟨y,hy⟩ : ∃ y,F[j]? = some y:=⟨_,List.getElem?_eq_getElem hjt⟩
   have hyN:=hflt y (List.mem_of_getElem? hy)
   have hyf:(f a)[j]? = some y:=by rw [hF]; exact hy
   obtain ⟨b,hb⟩ : ∃ b,o2[y]? = some b:=⟨_,List.getElem?_eq_getElem (by omega)⟩
   conv=>whnf
   refine ⟨rfl,(show (0:Int)≤j by omega),(show (j:Int)<((((F.map fun (x:Nat)=>(x:Int))).map irow).length:Int) by omega),fun row hrow => ?_⟩
   obtain ⟨d,hd,rfl⟩:=natsT_get hrow
   obtain rfl:=Option.some.inj (hy.symm.trans hd)
   clear hrow hd
   conv=>whnf
   refine ⟨rfl,(show (0:Int)≤y by omega),(show (y:Int)<(N:Int) by omega),?_⟩
   conv=>whnf
   refine ⟨rfl,(by show y<(o2.map brow).length; rw [List.length_map]; omega),fun row hrow => ?_⟩
   obtain ⟨d,hd,rfl⟩:=brow_get hrow
   obtain rfl:=Option.some.inj (hb.symm.trans hd)
   clear hrow hd
   refine ⟨(show 0<1 by decide),fun t ht => ?_⟩
   cases ht
   cases b
   ·conv=>whnf
    refine ⟨rfl,(show (0:Int)≤y by omega),(show (y:Int)<(N:Int) by omega),?_⟩
    conv=>whnf
    refine ⟨rfl,rfl,(by show y<(o2.map brow).length; rw [List.length_map]; omega),fun row hrow => ?_⟩
    obtain ⟨d,hd,rfl⟩:=brow_get hrow
    obtain rfl:=Option.some.inj (hb.symm.trans hd)
    clear hrow hd
    refine ⟨(show 0+1≤1 by decide),?_⟩
    conv=>whnf
    refine ⟨rfl,rfl,rfl,(by rw [List.length_map]; exact hk2),(show (k2+1)*8≤150000000000000 by omega),fun q hq => ?_,?_⟩
    ·cases hq with
     | head=>exact Nat.ne_of_beq_eq_false rfl
     | tail _ h=>cases h
    conv=>whnf
    have hun:=unseen_set hb
    have hda:(r2.map nrow).take k2++[[ti (y:Nat)]]=(r2.take k2++[y]).map nrow:=by rw [List.map_append,List.map_take]; rfl
    have hlen:(r2.take k2++[y]).length=k2+1:=by rw [List.length_append,List.length_take]; simp; omega
    exact ⟨(o2.set y true,r2.take k2++[y],k2+1,j+1),[0,1,_],[],Sub.mk' rfl ⟨.inl rfl,⟨rfl,rfl⟩,⟨rfl,rfl⟩,⟨rfl,rfl⟩,.inl rfl,.inl rfl,.inl (ti_succ hjt (by omega)),trivial⟩ ⟨⟨rfl,.inl rfl,.inl rfl,.inl rfl,.inl rfl,trivial⟩,⟨rfl,rfl,rfl,brow_set o2 y false true⟩,⟨rfl,rfl,rfl,hda⟩,trivial⟩ rfl rfl,⟨by show k2+1≤(r2.take k2++[y]).length; omega,by show (r2.take k2++[y]).length≤2*N+1; omega,hjt,by show 2*unseen (o2.set y true)+(k2+1)<2*unseen out+k; omega,hJ.push hyf hb (fun x=>by rw [List.take_of_length_le (by rw [hlen]; exact Nat.le_refl _),List.mem_append,List.mem_singleton]; exact Or.comm)⟩,by show F.length - (j+1)<F.length - j; omega⟩
   ·conv=>whnf
    exact ⟨(o2,r2,k2,j+1),[0,1,2],[],Sub.mk' rfl ⟨.inl rfl,⟨rfl,rfl⟩,⟨rfl,rfl⟩,⟨rfl,rfl⟩,.inl rfl,.inl rfl,.inl (ti_succ hjt (by omega)),trivial⟩ aut rfl rfl,⟨hk2,hr2,hjt,hmu,hJ.skip hyf hb⟩,by show F.length - (j+1)<F.length - j; omega⟩
  ·have hjt:F.length≤j:=by have:decide ((j:Int)<(F.length:Int))=false:=hjt; have:=of_decide_eq_false this; omega
   conv=>whnf
   refine ⟨fun _ => ?_,fun h=>absurd rfl h⟩
   conv=>whnf
   exact ⟨(o2,r2,k2),[0,1,2],[],Sub.mk' rfl aut aut rfl rfl,⟨hk2,hr2,by show 2*unseen o2+k2≤2*N; omega,hJ.fin (by rw [hF]; exact hjt)⟩,hmu⟩
 ·have hk0:k=0:=by have:decide ((k:Int) > 0)=false:=hk0; have:=of_decide_eq_false this; omega
  subst hk0
  have:=hFin out hS
  subst this
  have hol:=hS.len
  conv=>whnf
  refine ⟨fun _ => ?_,fun h=>absurd rfl h⟩
  conv=>whnf
  exact ⟨⟨rfl,(by show N≤(out.map brow).length; rw [List.length_map]; omega),(by show boolsT out=Tr.lst 1 1 ((out.map brow).take N); rw [List.take_of_length_le (by rw [List.length_map]; omega)])⟩,trivial⟩
end Go.Proofs.YthboippafkcoiaaGreatDoor.am
namespace Go.Proofs.YthboippafkcoiaaGreatDoor.am
open Go Go.Proofs
set_option linter.all false
def lrow (l:List Nat):List Tr:=[natsT l]
abbrev listsT (L:List (List Nat)):Tr := .lst 1 24 (L.map lrow)
theorem lrow_get {l:List (List Nat)} {i:Nat} {row:List Tr} (h:(l.map lrow)[i]? = some row) : ∃ d,l[i]? = some d∧row=lrow d:=by
 rw [List.getElem?_map,Option.map_eq_some_iff] at h
 obtain ⟨d,h1,rfl⟩:=h
 exact ⟨d,h1,rfl⟩
theorem nil_rows (N:Nat):nlR (List.replicate N [Tr.v (.slice none 0 0)]) ((List.replicate N ([]:List Nat)).map lrow):=by
 induction N with
 | zero=>trivial
 | succ N ih=>exact ⟨⟨.inr ⟨rfl,1,8,rfl⟩,trivial⟩,ih⟩
theorem leaf_rep (N:Nat):leafR (List.replicate N [Tr.v (.slice none 0 0)]):=fun row hr t ht=>by
 rw [List.eq_of_mem_replicate hr] at ht
 rw [List.mem_singleton.1 ht]
 exact ⟨_,rfl⟩
theorem setC_put (X:List (List Nat)) (y:Nat) (x t:Tr) (hy:y<X.length):setC ((X.map lrow).set y [x]) y 0 t=(X.map lrow).set y [t]:=by
 unfold setC
 rw [List.getElem?_set_self (by rw [List.length_map]; exact hy)]
 show ((X.map lrow).set y [x]).set y [t]=_
 rw [List.set_set]
theorem nats_snoc (l:List Nat) (i:Nat):Tr.lst 1 8 ((((l.map fun (x:Nat)=>(x:Int)).map irow)++[[ti i]]).take (((l.map fun (x:Nat)=>(x:Int)).map irow).length+1))=natsT (l++[i]):=by
 rw [List.take_of_length_le (by rw [List.length_append]; exact Nat.le_refl _)]
 show _=Tr.lst 1 8 (((l++[i]).map fun (x:Nat)=>(x:Int)).map irow)
 rw [List.map_append,List.map_append]
 rfl
set_option maxRecDepth 100000 in
set_option maxHeartbeats 2000000 in
theorem k_ahead (g:Gr) (hW:wholeB g=true):K 21 [g.av] [] (.ret (.tr (listsT (aheadL (fol g) g.nodes.length)))) []:=by
 have hw:=k_whole g
 rw [hW] at hw
 have hW:=whole_of hW
 have hput:=fun n j k a b=>aheadJ_put (fol:=fol g) (N:=g.nodes.length) (n:=n) (j:=j) (k:=k) a b (hW.nd n)
 have hat:=fun n j k hk=>aheadJ_at (fol:=fol g) (N:=g.nodes.length) (n:=n) (j:=j) (k:=k) hk
 have hnext:=fun n j hj=>aheadJ_next (fol:=fol g) (N:=g.nodes.length) (n:=n) (j:=j) hj
 have hz:aheadJ (fol g) g.nodes.length 0 0=List.replicate g.nodes.length []:=aheadJ_zero
 have hfin:aheadJ (fol g) g.nodes.length g.nodes.length 0=aheadL (fol g) g.nodes.length:=aheadJ_fin
 have hlen : ∀ n j,(aheadJ (fol g) g.nodes.length n j).length=g.nodes.length:=fun n j=>by simp [aheadJ]
 have hal : ∀ n k,(aheadN (fol g) n k).length≤n:=fun n k=>by
  have:=List.length_filter_le (fun i=>(fol g i).contains k) (List.range n)
  rwa [List.length_range] at this
 have hfI:=hW.fol
 have hlt:=hW.lt
 have hfl:=hW.len
 have hpos:=hW.pos
 have hmo:=hW.most
 clear hW
 generalize aheadL (fol g) g.nodes.length=R at hfin ⊢
 generalize aheadJ (fol g) g.nodes.length=A at hput hat hnext hz hfin hlen
 generalize aheadN (fol g)=B at hput hal
 generalize fol g=f at hput hat hnext hfI hlt hfl
 clear hat
 obtain ⟨name,locals,slots,nodes⟩:=g
 simp only at hput hnext hz hfin hlen hpos hmo hfI hlt
 have hln:(nodes.map Nd.cells).length=nodes.length:=List.length_map ..
 obtain ⟨N,hNe⟩ : ∃ N,nodes.length=N:=⟨_,rfl⟩
 rw [hNe] at hput hz hfin hlen hlt hpos hmo hln
 refine Ctr.of hT hmix Tryz.func21 rfl (fun _ _=>by kernel_rfl) rfl fun hok => ?_
 clear hok
 conv=>whnf
 refine acall.pure _ (hw) rfl rfl fun _ => ?_
 conv=>whnf
 refine ⟨(by rw [hln]; omega),Int.le_refl _,(by rw [hln]; show (N:Int)*24≤_; omega),?_⟩
 conv=>whnf
 rw [hln,Int.toNat_natCast]
 refine LoopL.by (fun i:Nat=>⟨[(1,.ptr 0 0),(3,.sl 1 N),(16,.tr (nodesT nodes)),(17,.tr (ti N)),(18,.tr (ti i))],[(0,.cells 50 [.tr (ts name),.tr (ti locals),.tr (ti slots),.tr (nodesT nodes)]),(1,.own 1 24 ((A i 0).map lrow) [])],10⟩) (fun i=>i≤N) (fun i=>N - i) 0 [0,_] []
  (Sub.mk' rfl ⟨⟨rfl,rfl⟩,⟨rfl,rfl⟩,.inl rfl,.inl rfl,.inl rfl,trivial⟩ ⟨⟨rfl,.inl rfl,.inl rfl,.inl rfl,.inl rfl,trivial⟩,⟨rfl,rfl,rfl,leaf_rep N,.inr (by show nlR _ ((A 0 0).map lrow); rw [hz]; exact nil_rows N)⟩,trivial⟩ rfl rfl) (Nat.zero_le _) ?_
 rintro i hi -
 conv=>whnf
 refine csplit (fun hlt1 => ?_) (fun hge => ?_)
 ·have hlt1:i<N:=by have:=of_decide_eq_true hlt1; omega
  obtain ⟨n,hn⟩ : ∃ n,nodes[i]? = some n:=⟨_,List.getElem?_eq_getElem (by omega)⟩
  have hf:=k_follows n
  rw [hfI i n hn] at hf
  have hflt:=hlt i
  have hfl:=hfl i
  have hput:=hput i
  have hnext:=hnext i
  obtain ⟨F,hF⟩ : ∃ F,f i=F:=⟨_,rfl⟩
  rw [hF] at hf hflt hfl hput hnext
  have hFl:=natsT_len F
  obtain ⟨kind,op,slot,thing,⟨sa,ka,wa⟩,⟨sb,kb,wb⟩,next,els,origin⟩:=n
  conv=>whnf
  refine ⟨rfl,(show (0:Int)≤i by omega),(show (i:Int)<((nodes.map Nd.cells).length:Int) by omega),fun row hrow => ?_⟩
  obtain ⟨d,hd,rfl⟩:=nd_get hrow
  obtain rfl:=Option.some.inj (hn.symm.trans hd)
  clear hrow hd hn
  conv=>whnf
  refine acall.pure _ (hf) rfl rfl fun _ => ?_
  conv=>whnf
  refine LoopL.by (fun j:Nat=>⟨[(1,.ptr 0 0),(3,.sl 1 N),(4,.tr (ti i)),(16,.tr (nodesT nodes)),(17,.tr (ti N)),(18,.tr (ti i)),(24,.tr (natsT F)),(25,.tr (ti F.length)),(26,.tr (ti j))],[(0,.cells 50 [.tr (ts name),.tr (ti locals),.tr (ti slots),.tr (nodesT nodes)]),(1,.own 1 24 ((A i j).map lrow) [])],10⟩) (fun j=>j≤F.length) (fun j=>F.length - j) 0 [0,1] []
   (Sub.mk' rfl ⟨⟨rfl,rfl⟩,⟨rfl,rfl⟩,.inl rfl,.inl rfl,.inl rfl,.inl rfl,.inl rfl,.inl (by rw [← hFl]),.inl rfl,trivial⟩ aut rfl rfl) (Nat.zero_le _) ?_
  rintro j hj -
  conv=>whnf
  refine csplit (fun hjt => ?_) (fun hjt => ?_)
  ·have hjt:j<F.length:=by have:=of_decide_eq_true hjt; omega
   obtain ⟨y,hy⟩ : ∃ y,F[j]? = some y:=⟨_,List.getElem?_eq_getElem hjt⟩
   have hyN:=hflt y (List.mem_of_getElem? hy)
   obtain ⟨hset,hget⟩:=hput j y hy hyN
   have hbl:=hal i y
   generalize B i y=l at hset hget hbl
   conv=>whnf
   refine ⟨rfl,(show (0:Int)≤j by omega),(show (j:Int)<((((F.map fun (x:Nat)=>(x:Int))).map irow).length:Int) by omega),fun row hrow => ?_⟩
   obtain ⟨d,hd,rfl⟩:=natsT_get hrow
   obtain rfl:=Option.some.inj (hy.symm.trans hd)
   clear hrow hd
   conv=>whnf
   refine ⟨rfl,(show (0:Int)≤y by omega),(show (y:Int)<(N:Int) by omega),?_⟩
   conv=>whnf
   refine ⟨rfl,(by show y<((A i j).map lrow).length; rw [List.length_map,hlen]; exact hyN),fun row hrow => ?_⟩
   obtain ⟨d,hd,rfl⟩:=lrow_get hrow
   obtain rfl:=Option.some.inj (hget.symm.trans hd)
   clear hrow hd
   refine ⟨(show 0<1 by decide),fun t ht => ?_⟩
   cases ht
   conv=>whnf
   refine ⟨(show 0<1 by decide),?_⟩
   conv=>whnf
   refine ⟨rfl,rfl,Nat.le_refl _,(by show (((l.map fun (x:Nat)=>(x:Int)).map irow).length+1)*8≤_; rw [natsT_len]; omega),trivial,(fun row hr t ht=>by rw [List.mem_singleton.1 hr] at ht; rw [List.mem_singleton.1 ht]; exact ⟨_,rfl⟩),trivial,?_⟩
   conv=>whnf
   refine ⟨rfl,(show (0:Int)≤y by omega),(show (y:Int)<(N:Int) by omega),?_⟩
   conv=>whnf
   refine .inl ⟨rfl,rfl,rfl,(by show y<((A i j).map lrow).length; rw [List.length_map,hlen]; exact hyN),⟨fun _=>rfl,trivial⟩,fun row hrow => ?_⟩
   obtain ⟨d,hd,rfl⟩:=lrow_get hrow
   obtain rfl:=Option.some.inj (hget.symm.trans hd)
   clear hrow hd
   refine ⟨(show 0+1≤1 by decide),?_⟩
   conv=>whnf
   refine ⟨j+1,[0,1],[],Sub.pk [1] ?_,hjt,by show F.length - (j+1)<F.length - j; omega⟩
   conv=>whnf
   refine ⟨rfl,rfl,(by show ((l.map fun (x:Nat)=>(x:Int)).map irow).length+1≤(((l.map fun (x:Nat)=>(x:Int)).map irow)++[[ti i]]).length; rw [List.length_append]; exact Nat.le_refl _),?_⟩
   refine Sub0.mk' rfl ⟨⟨rfl,rfl⟩,⟨rfl,rfl⟩,.inl rfl,.inl rfl,.inl rfl,.inl rfl,.inl rfl,.inl rfl,.inl (ti_succ hjt (by omega)),trivial⟩ ⟨aut,⟨rfl,rfl,rfl,rfl,.inl ?_⟩,trivial⟩ rfl rfl
   refine (setC_put (A i j) y _ _ (by rw [hlen]; exact hyN)).trans ?_
   rw [hset,List.map_set]
   exact congrArg (fun q=>((A i j).map lrow).set y [q]) (nats_snoc l i)
  ·have hjt:F.length≤j:=by have:=of_decide_eq_false hjt; omega
   conv=>whnf
   refine ⟨fun _ => ?_,fun h=>absurd rfl h⟩
   conv=>whnf
   exact ⟨i+1,[0,1],[],Sub.mk' rfl ⟨⟨rfl,rfl⟩,⟨rfl,rfl⟩,.inl rfl,.inl rfl,.inl (ti_succ hlt1 (by omega)),trivial⟩ ⟨aut,⟨rfl,rfl,rfl,rfl,.inl (by rw [hnext j hjt])⟩,trivial⟩ rfl rfl,hlt1,by show N - (i+1)<N - i; omega⟩
 ·have hge:i=N:=by have:=of_decide_eq_false hge; omega
  subst hge
  conv=>whnf
  refine ⟨fun _ => ?_,fun h=>absurd rfl h⟩
  conv=>whnf
  exact ⟨⟨rfl,(by show i≤((A i 0).map lrow).length; rw [List.length_map,hlen]; exact Nat.le_refl _),(by show listsT R=Tr.lst 1 24 (((A i 0).map lrow).take i); rw [List.take_of_length_le (by rw [List.length_map,hlen]; exact Nat.le_refl _),hfin])⟩,trivial⟩
set_option maxRecDepth 100000 in
theorem k_ahead0 (g:Gr) (hW:wholeB g=false):K 21 [g.av] [] (.ret (.tr (listsT []))) []:=by
 have h1:=k_whole g
 rw [hW] at h1
 obtain ⟨name,locals,slots,nodes⟩:=g
 refine Ctr.of hT hmix Tryz.func21 rfl (fun _ _=>by kernel_rfl) rfl fun hok => ?_
 clear hok
 conv=>whnf
 refine acall.pure _ (h1) rfl rfl fun _ => ?_
 conv=>whnf
 exact ⟨.inr ⟨rfl,_,_,rfl⟩,trivial⟩
end Go.Proofs.YthboippafkcoiaaGreatDoor.am
namespace Go.Proofs.YthboippafkcoiaaGreatDoor.am
open Go Go.Proofs
set_option linter.all false
theorem ctf {b:Bool} {C:Prop} (h1:b=true) (h2:b=false):C:=by rw [h1] at h2; cases h2
def revI (l:List Nat) (i:Nat):List Nat:=(List.range l.length).map fun x=>bif decide (x<i) || decide (l.length≤x+i) then l.getD (l.length - 1 - x) 0 else l.getD x 0
theorem revI_len (l:List Nat) (i:Nat):(revI l i).length=l.length:=by simp [revI]
theorem revI_at {l:List Nat} {i x:Nat} (hx:x<l.length):(revI l i)[x]? = some (bif decide (x<i) || decide (l.length≤x+i) then l.getD (l.length - 1 - x) 0 else l.getD x 0):=by
 simp only [revI,List.getElem?_map,List.getElem?_range hx,Option.map_some]
theorem getD_at {l:List Nat} {x:Nat} (hx:x<l.length):l[x]? = some (l.getD x 0):=by
 rw [List.getElem?_eq_getElem hx,List.getD_eq_getElem?_getD,List.getElem?_eq_getElem hx]; rfl
theorem revI_zero (l:List Nat):revI l 0=l:=by
 refine List.ext_getElem? fun x => ?_
 by_cases hx:x<l.length
 ·rw [revI_at hx,decide_eq_false (by omega),decide_eq_false (by omega),getD_at hx]; rfl
 ·rw [List.getElem?_eq_none (by rw [revI_len]; omega),List.getElem?_eq_none (by omega)]
theorem revI_fin {l:List Nat} {i:Nat} (h:l.length≤2*i+1):revI l i=l.reverse:=by
 refine List.ext_getElem? fun x => ?_
 by_cases hx:x<l.length
 ·rw [revI_at hx,List.getElem?_reverse hx,getD_at (show l.length - 1 - x<l.length by omega)]
  by_cases h1:x<i
  ·rw [decide_eq_true h1]; rfl
  ·by_cases h2:l.length≤x+i
   ·rw [decide_eq_true h2,Bool.or_true]; rfl
   ·rw [decide_eq_false h1,decide_eq_false h2]
    show some (l.getD x 0)=_
    rw [show l.length - 1 - x=x by omega]
 ·rw [List.getElem?_eq_none (by rw [revI_len]; omega),List.getElem?_eq_none (by rw [List.length_reverse]; omega)]
theorem revI_step {l:List Nat} {i j:Nat} (hj:j=l.length - 1 - i) (h:i<j):(revI l i)[i]? = some (l.getD i 0)∧(revI l i)[j]? = some (l.getD j 0)∧((revI l i).set i (l.getD j 0)).set j (l.getD i 0)=revI l (i+1):=by
 refine ⟨by rw [revI_at (by omega),decide_eq_false (by omega),decide_eq_false (by omega)]; rfl,by rw [revI_at (by omega),decide_eq_false (by omega),decide_eq_false (by omega)]; rfl,List.ext_getElem? fun x => ?_⟩
 by_cases hx:x<l.length
 ·rw [revI_at hx]
  by_cases e1:x=j
  ·subst e1
   rw [List.getElem?_set_self (by rw [List.length_set,revI_len]; omega),decide_eq_true (show l.length≤x+(i+1) by omega),Bool.or_true,cond_true,show l.length - 1 - x=i by omega]
  ·rw [List.getElem?_set_ne (fun w=>e1 w.symm)]
   by_cases e2:x=i
   ·subst e2
    rw [List.getElem?_set_self (by rw [revI_len]; omega),decide_eq_true (show x<x+1 by omega),Bool.true_or,cond_true,hj]
   ·rw [List.getElem?_set_ne (fun w=>e2 w.symm),revI_at hx]
    congr 2
    rw [show decide (x<i)=decide (x<i+1) by congr 1; simp; omega,show decide (l.length≤x+i)=decide (l.length≤x+(i+1)) by congr 1; simp; omega]
 ·rw [List.getElem?_eq_none (by simp [revI_len]; omega),List.getElem?_eq_none (by rw [revI_len]; omega)]
theorem nrow_set (l:List Nat) (i a b:Nat):(l.map nrow).set i ((nrow a).take 0++[ti (b:Nat)]++(nrow a).drop (0+1))=(l.set i b).map nrow:=by
 rw [List.map_set]; rfl
set_option maxRecDepth 100000 in
theorem k_reverse (l:List Nat) (h1:1≤l.length) (h2:l.length≤1048576):K 106 [.sl 0 l.length] [natsB l] (.ret (.tup [])) [some (natsB l.reverse)]:=by
 have hj0:IntKind.i64.wrap ((l.length:Int) - 1)=((l.length - 1:Nat):Int):=by rw [w64 (by omega) (by omega)]; omega
 refine Ctr.of hT hmix Tryz.func106 rfl (fun _ _=>by kernel_rfl) rfl fun hok => ?_
 clear hok
 conv=>whnf
 rw [hj0]
 refine LoopL.by (fun i:Nat=>⟨[(0,.sl 0 l.length),(2,.tr (ti i)),(3,.tr (ti ((l.length - 1 - i:Nat))))],[(0,natsB (revI l i))],10⟩) (fun i=>i<l.length) (fun i=>l.length - i) 0 [0] []
  (Sub.mk' rfl aut ⟨⟨rfl,rfl,rfl,by rw [revI_zero]⟩,trivial⟩ rfl rfl) (show 0<l.length by omega) ?_
 rintro i hi -
 obtain ⟨j,hj⟩ : ∃ j,l.length - 1 - i=j:=⟨_,rfl⟩
 conv=>whnf
 rw [hj]
 refine csplit (fun hlt => ?_) (fun hge => ?_)
 ·have hlt:i<j:=by have:decide ((i:Int)<(j:Int))=true:=hlt; have:=of_decide_eq_true this; omega
  obtain ⟨s1,s2,s3⟩:=revI_step hj.symm hlt
  have hrl:=revI_len l i
  generalize revI l i=R at s1 s2 s3 hrl
  generalize l.getD i 0=a at s1 s3
  generalize l.getD j 0=b at s2 s3
  conv=>whnf
  refine ⟨rfl,(show (0:Int)≤(j:Int) by omega),(show (j:Int)<(l.length:Int) by omega),?_⟩
  conv=>whnf
  refine ⟨rfl,(by show j<(R.map nrow).length; rw [List.length_map]; omega),fun row hrow => ?_⟩
  obtain ⟨d,hd,rfl⟩:=nrow_get hrow
  obtain rfl:=Option.some.inj (s2.symm.trans hd)
  clear hrow hd
  refine ⟨(show 0<1 by decide),fun t ht => ?_⟩
  cases ht
  conv=>whnf
  refine ⟨rfl,(show (0:Int)≤(i:Int) by omega),(show (i:Int)<(l.length:Int) by omega),?_⟩
  conv=>whnf
  refine ⟨rfl,(by show i<(R.map nrow).length; rw [List.length_map]; omega),fun row hrow => ?_⟩
  obtain ⟨d,hd,rfl⟩:=nrow_get hrow
  obtain rfl:=Option.some.inj (s1.symm.trans hd)
  clear hrow hd
  refine ⟨(show 0<1 by decide),fun t ht => ?_⟩
  cases ht
  conv=>whnf
  refine ⟨rfl,(show (0:Int)≤(i:Int) by omega),(show (i:Int)<(l.length:Int) by omega),?_⟩
  conv=>whnf
  refine ⟨rfl,rfl,(by show i<(R.map nrow).length; rw [List.length_map]; omega),fun row hrow => ?_⟩
  obtain ⟨d,hd,rfl⟩:=nrow_get hrow
  obtain rfl:=Option.some.inj (s1.symm.trans hd)
  clear hrow hd
  refine ⟨(show 0+1≤1 by decide),?_⟩
  conv=>whnf
  refine ⟨rfl,(show (0:Int)≤(j:Int) by omega),(show (j:Int)<(l.length:Int) by omega),?_⟩
  conv=>whnf
  refine ⟨rfl,rfl,(by rw [List.length_set,List.length_map]; show j<R.length; omega),fun row hrow => ?_⟩
  replace hrow:((R.set i b).map nrow)[j]? = some row:=by rw [← nrow_set R i a b]; exact hrow
  obtain ⟨d,hd,rfl⟩:=nrow_get hrow
  clear hrow hd
  refine ⟨(show 0+1≤1 by decide),?_⟩
  conv=>whnf
  refine ⟨by kernel_rfl,fun _ => ?_⟩
  conv=>whnf
  have hiw:IntKind.i64.wrap ((i:Int)+1)=((i+1:Nat):Int):=by rw [w64 (by omega) (by omega)]; omega
  have hjw:IntKind.i64.wrap ((j:Int) - 1)=((l.length - 1 - (i+1):Nat):Int):=by rw [w64 (by omega) (by omega)]; omega
  rw [hiw,hjw]
  exact ⟨i+1,[0],[],Sub.mk' rfl aut ⟨⟨rfl,rfl,rfl,by rw [← s3,List.map_set,List.map_set]; rfl⟩,trivial⟩ rfl rfl,(show i+1<l.length by omega),by show l.length - (i+1)<l.length - i; omega⟩
 ·have hge:j≤i:=by have:decide ((i:Int)<(j:Int))=false:=hge; have:=of_decide_eq_false this; omega
  have:=revI_fin (l:=l) (i:=i) (by omega)
  conv=>whnf
  refine ⟨fun _ => ?_,fun h=>absurd rfl h⟩
  conv=>whnf
  exact ⟨trivial,⟨rfl,rfl,rfl,by rw [this]⟩,trivial⟩
end Go.Proofs.YthboippafkcoiaaGreatDoor.am
namespace Go.Proofs.YthboippafkcoiaaGreatDoor.am
open Go Go.Proofs
set_option linter.all false
def vrow (v:Nat × Nat):List Tr:=[ti (v.1:Nat),ti (v.2:Nat)]
abbrev visB (l:List (Nat × Nat)):Blk := .vec 152 2 16 (l.map vrow)
theorem vrow_get {l:List (Nat × Nat)} {i:Nat} {row:List Tr} (h:(l.map vrow)[i]? = some row) : ∃ d,l[i]? = some d∧row=vrow d:=by
 rw [List.getElem?_map,Option.map_eq_some_iff] at h
 obtain ⟨d,h1,rfl⟩:=h
 exact ⟨d,h1,rfl⟩
def placeI (ord:List Nat) (N i:Nat):List Nat:=(List.range N).map fun x=>bif ord.contains x && decide (ord.idxOf x<i) then ord.idxOf x else 0
def placeL (ord:List Nat) (N:Nat):List Nat:=placeI ord N ord.length
theorem placeI_zero (ord:List Nat) (N:Nat):placeI ord N 0=List.replicate N 0:=by
 refine List.ext_getElem? fun x => ?_
 by_cases hx:x<N
 ·simp [placeI,hx]
 ·rw [List.getElem?_eq_none (by simp [placeI]; omega),List.getElem?_eq_none (by simp; omega)]
theorem placeI_len (ord:List Nat) (N i:Nat):(placeI ord N i).length=N:=by simp [placeI]
theorem placeI_put {f:Nat→List Nat} {ord:List Nat} (h:OrdOk f ord) {N i x:Nat} (hi:ord[i]? = some x) (hx:x<N):placeI ord N (i+1)=(placeI ord N i).set x i:=by
 refine List.ext_getElem? fun y => ?_
 by_cases hy:y<N
 ·by_cases e:y=x
  ·subst e
   rw [List.getElem?_set_self (by rw [placeI_len]; exact hy)]
   have hm:ord.contains y=true:=List.contains_iff_mem.2 (List.mem_of_getElem? hi)
   simp only [placeI,List.getElem?_map,List.getElem?_range hy,Option.map_some,hm,h.idx hi,Bool.true_and,decide_eq_true (Nat.lt_succ_self i),cond_true]
  ·rw [List.getElem?_set_ne (fun w=>e w.symm)]
   simp only [placeI,List.getElem?_map,List.getElem?_range hy,Option.map_some]
   congr 2
   cases hm:ord.contains y with
   | false=>rfl
   | true =>
    have hne:ord.idxOf y≠i:=fun w=>by
     have hm2:y ∈ ord:=List.contains_iff_mem.1 hm
     have hl:=List.idxOf_lt_length_iff.2 hm2
     have:=List.getElem_idxOf hl
     rw [← w,List.getElem?_eq_getElem hl,this] at hi
     cases hi; exact e rfl
    rw [Bool.true_and,Bool.true_and]
    congr 1
    simp; omega
 ·rw [List.getElem?_eq_none (by rw [placeI_len]; omega),List.getElem?_eq_none (by rw [List.length_set,placeI_len]; omega)]
theorem placeL_at {f:Nat→List Nat} {ord:List Nat} (h:OrdOk f ord) {N i x:Nat} (hi:ord[i]? = some x) (hx:x<N):(placeL ord N)[x]? = some i:=by
 have hm:ord.contains x=true:=List.contains_iff_mem.2 (List.mem_of_getElem? hi)
 have hl:=(List.getElem?_eq_some_iff.1 hi).1
 simp only [placeL,placeI,List.getElem?_map,List.getElem?_range hx,Option.map_some,hm,h.idx hi,Bool.true_and,decide_eq_true hl,cond_true]
theorem take_set1 {α:Type} {l:List α} {i:Nat} {x:α} (h:i<l.length):(l.set i x).take (i+1)=l.take i++[x]:=by
 rw [List.take_add_one,List.getElem?_set_self h,List.take_set_of_le (Nat.le_refl _)]
 rfl
theorem nodup_len : ∀ (N:Nat) (l:List Nat),l.Nodup→(∀ x ∈ l,x<N)→l.length≤N
 | 0,l,_,h=>by
  cases l with
  | nil=>exact Nat.le_refl _
  | cons x l=>exact absurd (h x (.head _)) (Nat.not_lt_zero x)
 | N+1,l,hn,h=>by
  by_cases hm:N ∈ l
  ·have:=nodup_len N (l.erase N) (hn.erase N) (fun x hx=>by
    have:=(hn.mem_erase_iff).1 hx
    have:=h x this.2
    omega)
   rw [List.length_erase_of_mem hm] at this
   omega
  ·have:=nodup_len N l hn (fun x hx=>by
    have:=h x hx
    have:x≠N:=fun w=>hm (w ▸ hx)
    omega)
   omega
theorem DfsI.post_len {f:Nat→List Nat} {N:Nat} {s:DfsS} (h:DfsI f N s):s.2.1.length≤N∧s.2.2.length≤N:=by
 have hnd:=h.nodup
 have hlt : ∀ x ∈ s.2.1++s.2.2.map (·.1),x<N:=fun x hx=>by
  have:=(h.seen x).2 (List.mem_append.1 hx)
  have:=(List.getElem?_eq_some_iff.1 this).1
  rw [h.len] at this; exact this
 have:=nodup_len N _ hnd hlt
 rw [List.length_append,List.length_map] at this
 omega
theorem natsT_nrow (l:List Nat):natsT l = .lst 1 8 (l.map nrow):=by
 show Tr.lst 1 8 ((l.map fun (x:Nat)=>(x:Int)).map irow)=_
 rw [List.map_map]
 rfl
theorem nrow_rep (n:Nat):List.replicate n [Tr.v (.int .i64 0)]=(List.replicate n 0).map nrow:=by
 rw [List.map_replicate]; rfl
set_option maxRecDepth 100000 in
set_option maxHeartbeats 4000000 in
theorem k_backwards (g:Gr) (hW:Whole g) (r:List Nat) (hr:DfsE (fol g) ((List.replicate g.nodes.length false).set 0 true,[],[(0,0)]) r) (ho:OrdOk (fol g) r.reverse) (hrN : ∀ x ∈ r,x<g.nodes.length):K 63 [g.av] [] (.ret (.tup [.tr (natsT r.reverse),.tr (natsT (placeL r.reverse g.nodes.length))])) []:=by
 have hS:=DfsI.start (fol g) hW.pos
 have hInv:=fun s h=>dfs1_inv (fol:=fol g) (N:=g.nodes.length) hW.lt (s:=s) h
 have hLess:=fun s h h2=>dfs1_less (fol:=fol g) hW.len (N:=g.nodes.length) (s:=s) h hW.lt h2
 have hput:=fun i x=>placeI_put ho (N:=g.nodes.length) (i:=i) (x:=x)
 have hfI:=hW.fol
 have hlt:=hW.lt
 have hfl:=hW.len
 have hpos:=hW.pos
 have hmo:=hW.most
 have h1r:1≤r.length:=by
  have:=(List.getElem?_eq_some_iff.1 ho.zero).1
  rwa [List.length_reverse] at this
 clear hW ho
 generalize fol g=f at hr hS hInv hLess hput hfI hlt hfl
 obtain ⟨name,locals,slots,nodes⟩:=g
 simp only at hr hS hInv hLess hput hfI hlt hpos hmo hrN ⊢
 have hln:(nodes.map Nd.cells).length=nodes.length:=List.length_map ..
 obtain ⟨N,hNe⟩ : ∃ N,nodes.length=N:=⟨_,rfl⟩
 rw [hNe] at hr hS hInv hLess hput hlt hpos hmo hln hrN ⊢
 refine Ctr.of hT hmix Tryz.func63 rfl (fun _ _=>by kernel_rfl) rfl fun hok => ?_
 clear hok
 conv=>whnf
 refine ⟨(by rw [hln]; omega),Int.le_refl _,(by rw [hln]; show (N:Int)*1≤_; omega),?_⟩
 conv=>whnf
 rw [hln,Int.toNat_natCast]
 refine ⟨rfl,by decide,(show (0:Int)<(N:Int) by omega),?_⟩
 conv=>whnf
 refine ⟨rfl,rfl,(by rw [List.length_replicate]; exact hpos),fun row hrow => ?_⟩
 replace hrow:(List.replicate N [Tr.v (.bool false)])[0]? = some row:=hrow
 rw [List.getElem?_replicate,if_pos hpos] at hrow
 cases hrow
 refine ⟨by decide,?_⟩
 conv=>whnf
 refine LoopL.by (fun x:List Bool × List Nat × List (Nat × Nat) × Nat=>⟨[(1,.ptr 0 0),(4,.sl 1 N),(5,.sl 3 x.2.1.length),(6,.sl 2 x.2.2.2)],[(0,.cells 50 [.tr (ts name),.tr (ti locals),.tr (ti slots),.tr (nodesT nodes)]),(1,boolsB x.1),(2,visB x.2.2.1),(3,natsB x.2.1)],10⟩) (fun x=>x.2.2.2≤x.2.2.1.length∧DfsI f N (x.1,x.2.1,(x.2.2.1.take x.2.2.2).reverse)∧DfsE f (x.1,x.2.1,(x.2.2.1.take x.2.2.2).reverse) r) (fun x=>dfsM f (x.1,x.2.1,(x.2.2.1.take x.2.2.2).reverse)) ((List.replicate N false).set 0 true,[],[(0,0)],1) [0,_,_] [3]
  (Sub.mk' rfl ⟨⟨rfl,rfl⟩,⟨rfl,rfl⟩,⟨rfl,rfl,rfl,rfl⟩,⟨rfl,rfl⟩,trivial⟩ ⟨⟨rfl,.inl rfl,.inl rfl,.inl rfl,.inl rfl,trivial⟩,⟨rfl,rfl,rfl,by rw [← brow_set _ _ false,← brow_rep]; rfl⟩,⟨rfl,rfl,rfl,rfl⟩,⟨rfl,_,_,_,rfl,by decide⟩,trivial⟩ rfl rfl) ⟨Nat.le_refl _,hS,hr⟩ ?_
 clear hS hr
 rintro ⟨seen,post,rows,k⟩ ⟨hk,hI,hE⟩ -
 simp only at hk hI hE
 obtain ⟨hpl,hsl⟩:=hI.post_len
 simp only [List.length_reverse,List.length_take] at hpl hsl
 have hkN:k≤N:=by omega
 conv=>whnf
 refine csplit (fun hk0 => ?_) (fun hk0 => ?_)
 ·have hk0:0<k:=by have:decide ((k:Int) > 0)=true:=hk0; have:=of_decide_eq_true this; omega
  have hk1:IntKind.i64.wrap ((k:Int) - 1)=((k - 1:Nat):Int):=by rw [w64 (by omega) (by omega)]; omega
  obtain ⟨⟨v,kk⟩,hv⟩ : ∃ v,rows[k - 1]? = some v:=⟨_,List.getElem?_eq_getElem (by omega)⟩
  have htk:rows.take k=rows.take (k - 1)++[(v,kk)]:=by
   conv=>lhs; rw [show k=(k - 1)+1 by omega,List.take_add_one,hv]
   rfl
  have hst:(rows.take k).reverse=(v,kk)::(rows.take (k - 1)).reverse:=by rw [htk,List.reverse_append]; rfl
  have hI':=hInv _ hI
  have hL':=hLess _ hI (by show (rows.take k).reverse≠[]; rw [hst]; simp)
  have hE':=hE.next (by show (rows.take k).reverse≠[]; rw [hst]; simp)
  have htop:=hI.top (v,kk) (by show (v,kk) ∈ (rows.take k).reverse; rw [hst]; simp)
  have hvN:v<N:=by
   have:=(hI.seen v).2 (.inr (by show v ∈ (rows.take k).reverse.map (·.1); rw [hst]; simp))
   have:=(List.getElem?_eq_some_iff.1 this).1
   rwa [hI.len] at this
  have hsel:=hI.len
  simp only at htop hsel
  simp only [hst,dfs1] at hI' hL' hE'
  clear hI hE hInv hLess
  obtain ⟨n,hn⟩ : ∃ n,nodes[v]? = some n:=⟨_,List.getElem?_eq_getElem (by omega)⟩
  have hf:=k_follows n
  rw [hfI v n hn] at hf
  have hflt:=hlt v
  obtain ⟨F,hF⟩ : ∃ F,f v=F:=⟨_,rfl⟩
  have hfl:=hfl v
  rw [hF] at hf hflt hfl htop hI' hL' hE'
  have hFl:=natsT_len F
  obtain ⟨kind,op,slot,thing,⟨sa,ka,wa⟩,⟨sb,kb,wb⟩,next,els,origin⟩:=n
  have hrl:(rows.map vrow).length=rows.length:=List.length_map ..
  conv=>whnf
  rw [hk1]
  refine ⟨rfl,(show (0:Int)≤((k - 1:Nat):Int) by omega),(show ((k - 1:Nat):Int)<(k:Int) by omega),?_⟩
  conv=>whnf
  refine ⟨rfl,(by show k - 1<(rows.map vrow).length; omega),fun row hrow => ?_⟩
  obtain ⟨d,hd,rfl⟩:=vrow_get hrow
  obtain rfl:=Option.some.inj (hv.symm.trans hd)
  clear hrow hd
  refine ⟨(show 0<2 by decide),fun t ht => ?_⟩
  cases ht
  conv=>whnf
  refine ⟨rfl,(show (0:Int)≤v by omega),(show (v:Int)<((nodes.map Nd.cells).length:Int) by omega),fun row hrow => ?_⟩
  obtain ⟨d,hd,rfl⟩:=nd_get hrow
  obtain rfl:=Option.some.inj (hn.symm.trans hd)
  clear hrow hd hn
  conv=>whnf
  refine acall.pure _ (hf) rfl rfl ?_
  conv=>whnf
  refine ⟨by kernel_rfl,fun _ => ?_⟩
  conv=>whnf
  refine ⟨rfl,(by show k - 1<(rows.map vrow).length; omega),fun row hrow => ?_⟩
  obtain ⟨d,hd,rfl⟩:=vrow_get hrow
  obtain rfl:=Option.some.inj (hv.symm.trans hd)
  clear hrow hd
  refine ⟨(show 1<2 by decide),fun t ht => ?_⟩
  cases ht
  conv=>whnf
  by_cases hkF:kk=F.length
  ·
   have e1:((kk:Int) == ((((F.map fun (x:Nat)=>(x:Int))).map irow).length:Int))=true:=by rw [hFl,hkF]; exact beq_self_eq_true _
   have hnone:F[kk]? = none:=List.getElem?_eq_none (by omega)
   rw [hnone] at hI' hL' hE'
   simp only at hI' hL' hE'
   rw [e1]
   conv=>whnf
   refine ⟨rfl,(by show k - 1<(rows.map vrow).length; omega),fun row hrow => ?_⟩
   obtain ⟨d,hd,rfl⟩:=vrow_get hrow
   obtain rfl:=Option.some.inj (hv.symm.trans hd)
   clear hrow hd
   refine ⟨(show 0<2 by decide),fun t ht => ?_⟩
   cases ht
   conv=>whnf
   refine ⟨rfl,rfl,rfl,(by rw [List.length_map]; exact Nat.le_refl _),(show (post.length+1)*8≤150000000000000 by omega),fun q hq => ?_,?_⟩
   ·cases hq with
    | head=>exact Nat.ne_of_beq_eq_false rfl
    | tail _ h=>cases h
   conv=>whnf
   rw [hk1]
   refine ⟨(show (0:Int)≤((k - 1:Nat):Int) by omega),(show ((k - 1:Nat):Int)≤(k:Int) by omega),?_⟩
   conv=>whnf
   refine ⟨fun _ => ?_,fun h=>absurd rfl h⟩
   conv=>whnf
   exact ⟨(seen,post++[v],rows,k - 1),[0,1,2,_],[],Sub.mk' rfl ⟨⟨rfl,rfl⟩,⟨rfl,rfl⟩,⟨rfl,by simp⟩,⟨rfl,rfl⟩,trivial⟩ ⟨⟨rfl,.inl rfl,.inl rfl,.inl rfl,.inl rfl,trivial⟩,⟨rfl,rfl,rfl,rfl⟩,⟨rfl,rfl,rfl,rfl⟩,⟨rfl,rfl,rfl,by rw [List.take_of_length_le (by rw [List.length_map]; exact Nat.le_refl _),List.map_append]; rfl⟩,trivial⟩ rfl rfl,⟨by show k - 1≤rows.length; omega,hI',hE'⟩,by show dfsM f (seen,post++[v],_)<dfsM f (seen,post,(rows.take k).reverse); rw [hst]; exact hL'⟩
  ·have hklt:kk<F.length:=by omega
   obtain ⟨y,hy⟩ : ∃ y,F[kk]? = some y:=⟨_,List.getElem?_eq_getElem hklt⟩
   have hyN:=hflt y (List.mem_of_getElem? hy)
   obtain ⟨b,hb⟩ : ∃ b,seen[y]? = some b:=⟨_,List.getElem?_eq_getElem (by omega)⟩
   rw [hy] at hI' hL' hE'
   simp only [getD_of hb] at hI' hL' hE'
   have e1:((kk:Int) == ((((F.map fun (x:Nat)=>(x:Int))).map irow).length:Int))=false:=by rw [hFl,beq_eq_false_iff_ne]; omega
   have hkw:IntKind.i64.wrap ((kk:Int)+1)=((kk+1:Nat):Int):=by rw [w64 (by omega) (by omega)]; omega
   have hset:(rows.map vrow).set (k - 1) ((vrow (v,kk)).take (0+1)++[ti ((kk+1:Nat))]++(vrow (v,kk)).drop (0+1+1))=(rows.set (k - 1) (v,kk+1)).map vrow:=by rw [List.map_set]; rfl
   have htk2:(rows.set (k - 1) (v,kk+1)).take k=rows.take (k - 1)++[(v,kk+1)]:=by
    have:=take_set1 (l:=rows) (i:=k - 1) (x:=(v,kk+1)) (by omega)
    rwa [show k - 1+1=k by omega] at this
   rw [e1]
   conv=>whnf
   refine ⟨rfl,(by show k - 1<(rows.map vrow).length; omega),fun row hrow => ?_⟩
   obtain ⟨d,hd,rfl⟩:=vrow_get hrow
   obtain rfl:=Option.some.inj (hv.symm.trans hd)
   clear hrow hd
   refine ⟨(show 1<2 by decide),fun t ht => ?_⟩
   cases ht
   conv=>whnf
   refine ⟨rfl,(show (0:Int)≤kk by omega),(show (kk:Int)<((((F.map fun (x:Nat)=>(x:Int))).map irow).length:Int) by rw [hFl]; omega),fun row hrow => ?_⟩
   obtain ⟨d,hd,rfl⟩:=natsT_get hrow
   obtain rfl:=Option.some.inj (hy.symm.trans hd)
   clear hrow hd
   conv=>whnf
   refine ⟨rfl,(by show k - 1<(rows.map vrow).length; omega),fun row hrow => ?_⟩
   obtain ⟨d,hd,rfl⟩:=vrow_get hrow
   obtain rfl:=Option.some.inj (hv.symm.trans hd)
   clear hrow hd
   refine ⟨(show 1<2 by decide),fun t ht => ?_⟩
   cases ht
   conv=>whnf
   rw [hkw]
   refine ⟨rfl,rfl,(by show k - 1<(rows.map vrow).length; omega),fun row hrow => ?_⟩
   obtain ⟨d,hd,rfl⟩:=vrow_get hrow
   obtain rfl:=Option.some.inj (hv.symm.trans hd)
   clear hrow hd
   refine ⟨(show 1+1≤2 by decide),?_⟩
   conv=>whnf
   refine ⟨rfl,(show (0:Int)≤y by omega),(show (y:Int)<(N:Int) by omega),?_⟩
   conv=>whnf
   refine ⟨rfl,(by show y<(seen.map brow).length; rw [List.length_map]; omega),fun row hrow => ?_⟩
   obtain ⟨d,hd,rfl⟩:=brow_get hrow
   obtain rfl:=Option.some.inj (hb.symm.trans hd)
   clear hrow hd
   refine ⟨(show 0<1 by decide),fun t ht => ?_⟩
   cases ht
   cases b
   ·conv=>whnf
    refine ⟨rfl,(show (0:Int)≤y by omega),(show (y:Int)<(N:Int) by omega),?_⟩
    conv=>whnf
    refine ⟨rfl,rfl,(by show y<(seen.map brow).length; rw [List.length_map]; omega),fun row hrow => ?_⟩
    obtain ⟨d,hd,rfl⟩:=brow_get hrow
    obtain rfl:=Option.some.inj (hb.symm.trans hd)
    clear hrow hd
    refine ⟨(show 0+1≤1 by decide),?_⟩
    conv=>whnf
    refine ⟨rfl,rfl,rfl,(by rw [List.length_set,List.length_map]; exact hk),(show (k+1)*16≤150000000000000 by omega),fun q hq => ?_,?_⟩
    ·cases hq with
     | head=>exact Nat.ne_of_beq_eq_false rfl
     | tail _ h=>cases h
    conv=>whnf
    have hlen:((rows.set (k - 1) (v,kk+1)).take k++[(y,0)]).length=k+1:=by rw [List.length_append,List.length_take,List.length_set]; simp; omega
    have hst2:(((rows.set (k - 1) (v,kk+1)).take k++[(y,0)]).take (k+1)).reverse=(y,0)::(v,kk+1)::(rows.take (k - 1)).reverse:=by
     rw [List.take_of_length_le (by rw [hlen]; exact Nat.le_refl _),List.reverse_append,htk2,List.reverse_append]; rfl
    exact ⟨(seen.set y true,post,(rows.set (k - 1) (v,kk+1)).take k++[(y,0)],k+1),[0,1,_,3],[],Sub.mk' rfl ⟨⟨rfl,rfl⟩,⟨rfl,rfl⟩,⟨rfl,rfl⟩,⟨rfl,rfl⟩,trivial⟩ ⟨⟨rfl,.inl rfl,.inl rfl,.inl rfl,.inl rfl,trivial⟩,⟨rfl,rfl,rfl,brow_set seen y false true⟩,⟨rfl,rfl,rfl,by rw [List.map_append,List.map_take,← hset]; rfl⟩,⟨rfl,rfl,rfl,rfl⟩,trivial⟩ rfl rfl,⟨by show k+1≤((rows.set (k - 1) (v,kk+1)).take k++[(y,0)]).length; omega,by rw [hst2]; exact hI',by rw [hst2]; exact hE'⟩,by simp only; rw [hst2,hst]; exact hL'⟩
   ·conv=>whnf
    have hst2:((rows.set (k - 1) (v,kk+1)).take k).reverse=(v,kk+1)::(rows.take (k - 1)).reverse:=by rw [htk2,List.reverse_append]; rfl
    exact ⟨(seen,post,rows.set (k - 1) (v,kk+1),k),[0,1,2,3],[],Sub.mk' rfl aut ⟨aut,aut,⟨rfl,rfl,rfl,by rw [← hset]; rfl⟩,aut,trivial⟩ rfl rfl,⟨by show k≤(rows.set (k - 1) (v,kk+1)).length; rw [List.length_set]; exact hk,by rw [hst2]; exact hI',by rw [hst2]; exact hE'⟩,by simp only; rw [hst2,hst]; exact hL'⟩
 ·have hk0:k=0:=by have:decide ((k:Int) > 0)=false:=hk0; have:=of_decide_eq_false this; omega
  subst hk0
  have hp:r=post:=hE.done
  subst hp
  have hrv:=k_reverse r h1r (by omega)
  obtain ⟨ord,hord⟩ : ∃ ord,r.reverse=ord:=⟨_,rfl⟩
  have hol:ord.length=r.length:=by rw [← hord,List.length_reverse]
  have hoN : ∀ x ∈ ord,x<N:=fun x hx=>hrN x (by rw [← hord] at hx; exact List.mem_reverse.1 hx)
  rw [hord] at hrv hput ⊢
  conv=>whnf
  refine ⟨fun _ => ?_,fun h=>absurd rfl h⟩
  conv=>whnf
  refine acall.au [3] [] (hrv) ?_
  intro _
  conv=>whnf
  refine ⟨(by rw [hln]; omega),Int.le_refl _,(by rw [hln]; show (N:Int)*8≤_; omega),?_⟩
  conv=>whnf
  rw [hln,Int.toNat_natCast]
  refine LoopL.by (fun i:Nat=>⟨[(5,.sl 0 r.length),(10,.sl 1 N),(90,.sl 0 r.length),(91,.tr (ti r.length)),(92,.tr (ti i))],[(0,natsB ord),(1,natsB (placeI ord N i))],10⟩) (fun i=>i≤r.length) (fun i=>r.length - i) 0 [3,_] []
   (Sub.mk' rfl ⟨⟨rfl,rfl⟩,⟨rfl,rfl⟩,⟨rfl,rfl⟩,.inl rfl,.inl rfl,trivial⟩ ⟨⟨rfl,rfl,rfl,rfl⟩,⟨rfl,rfl,rfl,by rw [placeI_zero,← nrow_rep]; rfl⟩,trivial⟩ rfl rfl) (Nat.zero_le _) ?_
  rintro i hi -
  conv=>whnf
  refine csplit (fun hit => ?_) (fun hit => ?_)
  ·have hit:i<r.length:=by have:decide ((i:Int)<(r.length:Int))=true:=hit; have:=of_decide_eq_true this; omega
   obtain ⟨x,hx⟩ : ∃ x,ord[i]? = some x:=⟨_,List.getElem?_eq_getElem (by omega)⟩
   have hxN:=hoN x (List.mem_of_getElem? hx)
   have hput:=hput i x hx hxN
   conv=>whnf
   refine ⟨rfl,(show (0:Int)≤i by omega),(show (i:Int)<(r.length:Int) by omega),?_⟩
   conv=>whnf
   refine ⟨rfl,(by show i<(ord.map nrow).length; rw [List.length_map]; omega),fun row hrow => ?_⟩
   obtain ⟨d,hd,rfl⟩:=nrow_get hrow
   obtain rfl:=Option.some.inj (hx.symm.trans hd)
   clear hrow hd
   refine ⟨(show 0<1 by decide),fun t ht => ?_⟩
   cases ht
   conv=>whnf
   refine ⟨rfl,(show (0:Int)≤x by omega),(show (x:Int)<(N:Int) by omega),?_⟩
   conv=>whnf
   refine ⟨rfl,rfl,(by show x<((placeI ord N i).map nrow).length; rw [List.length_map,placeI_len]; exact hxN),fun row hrow => ?_⟩
   obtain ⟨d,hd,rfl⟩:=nrow_get hrow
   clear hrow hd
   refine ⟨(show 0+1≤1 by decide),?_⟩
   conv=>whnf
   exact ⟨i+1,[0,1],[],Sub.mk' rfl ⟨⟨rfl,rfl⟩,⟨rfl,rfl⟩,⟨rfl,rfl⟩,.inl rfl,.inl (ti_succ hit (by omega)),trivial⟩ ⟨aut,⟨rfl,rfl,rfl,by rw [hput]; exact nrow_set _ x d i⟩,trivial⟩ rfl rfl,hit,by show r.length - (i+1)<r.length - i; omega⟩
  ·have hit:i=r.length:=by have:decide ((i:Int)<(r.length:Int))=false:=hit; have:=of_decide_eq_false this; omega
   have hfin:placeI ord N i=placeL ord N:=by rw [hit,← hol]; rfl
   conv=>whnf
   refine ⟨fun _ => ?_,fun h=>absurd rfl h⟩
   conv=>whnf
   refine ⟨⟨⟨rfl,(by show r.length≤(ord.map nrow).length; rw [List.length_map]; omega),?_⟩,⟨rfl,(by show N≤((placeI ord N i).map nrow).length; rw [List.length_map,placeI_len]; exact Nat.le_refl _),?_⟩,trivial⟩,trivial⟩
   ·show natsT ord=Tr.lst 1 8 ((ord.map nrow).take r.length)
    rw [List.take_of_length_le (by rw [List.length_map]; omega),natsT_nrow]
   ·show natsT (placeL ord N)=Tr.lst 1 8 (((placeI ord N i).map nrow).take N)
    rw [List.take_of_length_le (by rw [List.length_map,placeI_len]; exact Nat.le_refl _),hfin,natsT_nrow]
end Go.Proofs.YthboippafkcoiaaGreatDoor.am
namespace Go.Proofs.YthboippafkcoiaaGreatDoor.am
open Go Go.Proofs
set_option linter.all false
abbrev intsB (l:List Int):Blk := .vec 3 1 8 (l.map irow)
def nodeAt (ord:List Nat) (i:Nat):Nat:=ord.getD i 0
theorem nodeAt_of {ord:List Nat} {i x:Nat} (h:ord[i]? = some x):nodeAt ord i=x:=ord_getD h
set_option maxRecDepth 100000 in
set_option maxHeartbeats 2000000 in
theorem k_meet {f:Nat→List Nat} {ord:List Nat} (hO:OrdOk f ord) {N:Nat} (hN : ∀ x ∈ ord,x<N) (hN4:N≤4096) {o:Nat→Option Nat} (hU:UpOk o) (hs : ∀ i,(o i).isSome=true→i<ord.length) {a b m:Nat} (ha:(o a).isSome=true) (hb:(o b).isSome=true) (hm : ∀ x,Anc o x m↔(Anc o x a∧Anc o x b)) :
  K 64 [.tr (ti (nodeAt ord a:Nat)),.tr (ti (nodeAt ord b:Nat)),.ptr 0 0,.ptr 1 0] [.cells 62 [.tr (natsT (placeL ord N))],.cells 62 [.sl 2 N],intsB (outD ord N o)] (.ret (.tr (ti (nodeAt ord m:Nat)))) [some (.cells 62 [.tr (natsT (placeL ord N))]),some (.cells 62 [.sl 2 N]),some (intsB (outD ord N o))]:=by
 have hat : ∀ i,(o i).isSome=true→ord[i]? = some (nodeAt ord i)∧nodeAt ord i<N:=fun i hi=>by
  have:=getD_at (hs i hi)
  exact ⟨this,hN _ (List.mem_of_getElem? this)⟩
 have hpl : ∀ i,(o i).isSome=true→(placeL ord N)[nodeAt ord i]? = some i:=fun i hi=>placeL_at hO (hat i hi).1 (hat i hi).2
 have hou : ∀ i j,o i=some j→(outD ord N o)[nodeAt ord i]? = some ((nodeAt ord j:Nat):Int):=fun i j hj=>by
  have hi:(o i).isSome=true:=by rw [hj]; rfl
  rw [outD_at hO (hat i hi).1 (hat i hi).2,hj]; rfl
 have hij : ∀ i j,(o i).isSome=true→(o j).isSome=true→nodeAt ord i=nodeAt ord j→i=j:=fun i j hi hj e=>hO.inj (hat i hi).1 (by rw [e]; exact (hat j hj).1)
 have hol:(outD ord N o).length=N:=by simp [outD]
 have hpll:(placeL ord N).length=N:=placeI_len ..
 clear hO hN hs
 generalize outD ord N o=OU at hou hol ⊢
 generalize placeL ord N=PL at hpl hpll ⊢
 generalize nodeAt ord=nd at hat hpl hou hij ⊢
 have hPl:=natsT_len PL
 refine Ctr.of hT hmix Tryz.func64 rfl (fun _ _=>by kernel_rfl) rfl fun hok => ?_
 clear hok
 conv=>whnf
 refine LoopL.by (fun x:Nat × Nat=>⟨[(0,.tr (ti (nd x.1:Nat))),(1,.tr (ti (nd x.2:Nat))),(2,.ptr 0 0),(3,.ptr 1 0)],[(0,.cells 62 [.tr (natsT PL)]),(1,.cells 62 [.sl 2 N]),(2,intsB OU)],10⟩) (fun x=>(o x.1).isSome=true∧(o x.2).isSome=true ∧ ∀ z,Anc o z m↔(Anc o z x.1∧Anc o z x.2)) (fun x=>x.1+x.2) (a,b) [0,1,2] []
  (Sub.mk' rfl aut aut rfl rfl) ⟨ha,hb,hm⟩ ?_
 clear ha hb hm
 rintro ⟨a,b⟩ ⟨ha,hb,hm⟩ -
 simp only at ha hb hm
 conv=>whnf
 by_cases hab:a=b
 ·subst hab
  obtain rfl:m=a:=anc_ext hU fun x=>(hm x).trans ⟨fun w=>w.1,fun w=>⟨w,w⟩⟩
  have e:(((nd m:Nat):Int) != ((nd m:Nat):Int))=false:=by simp
  refine csplit (fun g=>ctf g e) (fun _ => ?_)
  conv=>whnf
  refine ⟨fun _ => ?_,fun h=>absurd rfl h⟩
  conv=>whnf
  exact aut
 have e:(((nd a:Nat):Int) != ((nd b:Nat):Int))=true:=by
  have:nd a≠nd b:=fun w=>hab (hij a b ha hb w)
  exact bne_iff_ne.2 (fun w=>this (by omega))
 refine csplit (fun _ => ?_) (fun g=>ctf e g)
 conv=>whnf
 refine LoopL.by (fun x:Nat=>⟨[(0,.tr (ti (nd x:Nat))),(1,.tr (ti (nd b:Nat))),(2,.ptr 0 0),(3,.ptr 1 0)],[(0,.cells 62 [.tr (natsT PL)]),(1,.cells 62 [.sl 2 N]),(2,intsB OU)],10⟩) (fun x=>(o x).isSome=true∧x≤a ∧ ∀ z,Anc o z m↔(Anc o z x∧Anc o z b)) (fun x=>x) a [0,1,2] []
  (Sub.mk' rfl aut aut rfl rfl) ⟨ha,Nat.le_refl _,hm⟩ ?_
 clear hm e
 rintro x ⟨hx,hxa,hm⟩ -
 conv=>whnf
 refine ⟨rfl,(show (0:Int)≤(nd x:Nat) by omega),(by show ((nd x:Nat):Int)<((((PL.map fun (x:Nat)=>(x:Int))).map irow).length:Int); rw [hPl,hpll]; have:=(hat x hx).2; omega),fun row hrow => ?_⟩
 obtain ⟨d,hd,rfl⟩:=natsT_get hrow
 obtain rfl:=Option.some.inj ((hpl x hx).symm.trans hd)
 clear hrow hd
 conv=>whnf
 refine ⟨rfl,(show (0:Int)≤(nd b:Nat) by omega),(by show ((nd b:Nat):Int)<((((PL.map fun (x:Nat)=>(x:Int))).map irow).length:Int); rw [hPl,hpll]; have:=(hat b hb).2; omega),fun row hrow => ?_⟩
 obtain ⟨d,hd,rfl⟩:=natsT_get hrow
 obtain rfl:=Option.some.inj ((hpl b hb).symm.trans hd)
 clear hrow hd
 conv=>whnf
 refine ⟨by kernel_rfl,fun _ => ?_⟩
 conv=>whnf
 refine csplit (fun hgt => ?_) (fun hgt => ?_)
 ·have hgt:b<x:=by have:decide ((x:Int) > (b:Int))=true:=hgt; have:=of_decide_eq_true this; omega
  obtain ⟨j,hj⟩:=Option.isSome_iff_exists.1 hx
  obtain ⟨q1,q2⟩:=hU.lt x j (by omega) hj
  have hxN:=(hat x hx).2
  conv=>whnf
  refine ⟨rfl,(show (0:Int)≤(nd x:Nat) by omega),(show ((nd x:Nat):Int)<(N:Int) by omega),?_⟩
  conv=>whnf
  refine ⟨rfl,(by show nd x<(OU.map irow).length; rw [List.length_map]; omega),fun row hrow => ?_⟩
  obtain ⟨d,hd,rfl⟩:=int_get hrow
  obtain rfl:=Option.some.inj ((hou x j hj).symm.trans hd)
  clear hrow hd
  refine ⟨(show 0<1 by decide),fun t ht => ?_⟩
  cases ht
  conv=>whnf
  exact ⟨j,[0,1,2],[],Sub.mk' rfl aut aut rfl rfl,⟨q2,by omega,fun z=>(hm z).trans (anc_step hU hgt hj)⟩,q1⟩
 have hle:x≤b:=by have:decide ((x:Int) > (b:Int))=false:=hgt; have:=of_decide_eq_false this; omega
 conv=>whnf
 refine ⟨fun _ => ?_,fun h=>absurd rfl h⟩
 conv=>whnf
 refine LoopL.by (fun y:Nat=>⟨[(0,.tr (ti (nd x:Nat))),(1,.tr (ti (nd y:Nat))),(2,.ptr 0 0),(3,.ptr 1 0)],[(0,.cells 62 [.tr (natsT PL)]),(1,.cells 62 [.sl 2 N]),(2,intsB OU)],10⟩) (fun y=>(o y).isSome=true∧y≤b ∧ ∀ z,Anc o z m↔(Anc o z x∧Anc o z y)) (fun y=>y) b [0,1,2] []
  (Sub.mk' rfl aut aut rfl rfl) ⟨hb,Nat.le_refl _,hm⟩ ?_
 clear hm hgt
 rintro y ⟨hy,hyb,hm⟩ -
 conv=>whnf
 refine ⟨rfl,(show (0:Int)≤(nd y:Nat) by omega),(by show ((nd y:Nat):Int)<((((PL.map fun (x:Nat)=>(x:Int))).map irow).length:Int); rw [hPl,hpll]; have:=(hat y hy).2; omega),fun row hrow => ?_⟩
 obtain ⟨d,hd,rfl⟩:=natsT_get hrow
 obtain rfl:=Option.some.inj ((hpl y hy).symm.trans hd)
 clear hrow hd
 conv=>whnf
 refine ⟨rfl,(show (0:Int)≤(nd x:Nat) by omega),(by show ((nd x:Nat):Int)<((((PL.map fun (x:Nat)=>(x:Int))).map irow).length:Int); rw [hPl,hpll]; have:=(hat x hx).2; omega),fun row hrow => ?_⟩
 obtain ⟨d,hd,rfl⟩:=natsT_get hrow
 obtain rfl:=Option.some.inj ((hpl x hx).symm.trans hd)
 clear hrow hd
 conv=>whnf
 refine ⟨by kernel_rfl,fun _ => ?_⟩
 conv=>whnf
 refine csplit (fun hgt => ?_) (fun hgt => ?_)
 ·have hgt:x<y:=by have:decide ((y:Int) > (x:Int))=true:=hgt; have:=of_decide_eq_true this; omega
  obtain ⟨j,hj⟩:=Option.isSome_iff_exists.1 hy
  obtain ⟨q1,q2⟩:=hU.lt y j (by omega) hj
  have hyN:=(hat y hy).2
  conv=>whnf
  refine ⟨rfl,(show (0:Int)≤(nd y:Nat) by omega),(show ((nd y:Nat):Int)<(N:Int) by omega),?_⟩
  conv=>whnf
  refine ⟨rfl,(by show nd y<(OU.map irow).length; rw [List.length_map]; omega),fun row hrow => ?_⟩
  obtain ⟨d,hd,rfl⟩:=int_get hrow
  obtain rfl:=Option.some.inj ((hou y j hj).symm.trans hd)
  clear hrow hd
  refine ⟨(show 0<1 by decide),fun t ht => ?_⟩
  cases ht
  conv=>whnf
  exact ⟨j,[0,1,2],[],Sub.mk' rfl aut aut rfl rfl,⟨q2,by omega,fun z=>by
   have:=anc_step hU (x:=z) hgt hj
   exact (hm z).trans ⟨fun w=>(this.1 ⟨w.2,w.1⟩).symm,fun w=>(this.2 ⟨w.2,w.1⟩).symm⟩⟩,q1⟩
 have hle2:y≤x:=by have:decide ((y:Int) > (x:Int))=false:=hgt; have:=of_decide_eq_false this; omega
 conv=>whnf
 refine ⟨fun _ => ?_,fun h=>absurd rfl h⟩
 conv=>whnf
 exact ⟨(x,y),[0,1,2],[],Sub.mk' rfl aut aut rfl rfl,⟨hx,hy,hm⟩,by show x+y<a+b; omega⟩
end Go.Proofs.YthboippafkcoiaaGreatDoor.am
namespace Go.Proofs.YthboippafkcoiaaGreatDoor.am
open Go Go.Proofs
set_option linter.all false
def bestI (ord:List Nat):Option Nat→Int
 | none => -1
 | some m=>(nodeAt ord m:Nat)
theorem int_set (l:List Int) (i:Nat) (a b:Int):(l.map irow).set i ((irow a).take 0++[ti b]++(irow a).drop (0+1))=(l.set i b).map irow:=by
 rw [List.map_set]; rfl
theorem int_get2 {l:List Int} {i:Nat} {row:List Tr} (h:(l.map irow)[i]? = some row) : ∃ d,l[i]? = some d∧row=irow d:=int_get h
theorem irow_rep (n:Nat):List.replicate n [Tr.v (.int .i64 0)]=(List.replicate n (0:Int)).map irow:=by
 rw [List.map_replicate]; rfl
set_option maxRecDepth 100000 in
set_option maxHeartbeats 4000000 in
theorem k_dominators (g:Gr) (hW:wholeB g=true):K 24 [g.av] [] (.ret (.tr (intsT (idomL (fol g) g.nodes.length)))) []:=by
 have hw:=k_whole g
 rw [hW] at hw
 have ha:=k_ahead g hW
 have hWh:=whole_of hW
 obtain ⟨r,sn,hr,hI⟩:=dfs_ends hWh.len hWh.lt _ _ (Nat.lt_succ_self _) (DfsI.start (fol g) hWh.pos)
 have hO:=hI.ord
 have hrN : ∀ x ∈ r,x<g.nodes.length:=fun x hx=>((hO.mem x).1 (List.mem_reverse.2 hx)).lt hWh.pos hWh.lt
 have hbk:=k_backwards g hWh r hr hO hrN
 have hM1:=(List.getElem?_eq_some_iff.1 hO.zero).1
 clear hI hr
 obtain ⟨ord,hord⟩ : ∃ ord,r.reverse=ord:=⟨_,rfl⟩
 rw [hord] at hO hbk hM1
 have hN : ∀ x ∈ ord,x<g.nodes.length:=fun x hx=>hrN x (by rw [← hord] at hx; exact List.mem_reverse.1 hx)
 clear hord hrN
 obtain ⟨t,ht⟩:=hO.tree
 have hidom:=fun o h1 h2=>outD_idom (N:=g.nodes.length) hWh.pos hWh.lt hO (t:=t) (o:=o) h1 h2
 have hst:=outD_start hO hWh.pos
 have hdom0:=DomI.start hM1 (predP (fol g) ord) t
 have hstep:=fun n b o h h0 hn hb=>DomI.step (P:=predP (fol g) ord) ht (n:=n) (b:=b) (o:=o) h h0 hn hb
 have hfin:=fun i x o b hi h1 h2 hm=>MeetK.fin hO hN (i:=i) (x:=x) (o:=o) (t:=t) (b:=b) hi h1 h2 hm
 have hset:=fun o n b x y hn hb=>outD_set hO (N:=g.nodes.length) (o:=o) (n:=n) (b:=b) (x:=x) (y:=y) hn hb
 have hat:=fun o i x hi hx=>outD_at hO (N:=g.nodes.length) (o:=o) (i:=i) (x:=x) hi hx
 have hno:=fun (o:Nat→Option Nat) x hx h2=>outD_no (ord:=ord) (N:=g.nodes.length) (o:=o) (x:=x) hx h2
 have hal : ∀ x,x<g.nodes.length→(aheadL (fol g) g.nodes.length)[x]? = some (aheadN (fol g) g.nodes.length x):=fun x hx=>by simp [aheadL,hx]
 have hall:(aheadL (fol g) g.nodes.length).length=g.nodes.length:=by simp [aheadL]
 have haN : ∀ x,∀ p ∈ aheadN (fol g) g.nodes.length x,p<g.nodes.length:=fun x p hp=>(mem_aheadN.1 hp).1
 have hBl : ∀ x,(aheadN (fol g) g.nodes.length x).length≤g.nodes.length:=fun x=>by
  have:=List.length_filter_le (fun i=>(fol g i).contains x) (List.range g.nodes.length)
  rwa [List.length_range] at this
 have hmeet:=fun o hU hs a b m ha hb hm=>k_meet hO hN hWh.most (o:=o) hU hs (a:=a) (b:=b) (m:=m) ha hb hm
 have hidx:=fun i x h=>hO.idx (i:=i) (x:=x) h
 have hpos:=hWh.pos
 have hmo:=hWh.most
 have hml:ord.length≤g.nodes.length:=nodup_len _ _ hO.nodup hN
 clear hWh hW
 generalize idomL (fol g) g.nodes.length=R at hidom ⊢
 generalize aheadL (fol g) g.nodes.length=A at ha hal hall
 generalize aheadN (fol g) g.nodes.length=B at hfin hal haN hBl
 generalize predP (fol g) ord=P at ht hidom hdom0 hstep hfin
 obtain ⟨name,locals,slots,nodes⟩:=g
 simp only at hbk hidom hst hset hat hno hal hall haN hmeet hpos hmo hml hN hBl
 have hln:(nodes.map Nd.cells).length=nodes.length:=List.length_map ..
 obtain ⟨N,hNe⟩ : ∃ N,nodes.length=N:=⟨_,rfl⟩
 rw [hNe] at hbk hidom hst hset hat hno hal hall haN hmeet hpos hmo hln hml hN hBl
 obtain ⟨M,hMe⟩ : ∃ M,ord.length=M:=⟨_,rfl⟩
 rw [hMe] at hM1 ht hidom hdom0 hstep hml
 have hol : ∀ o,(outD ord N o).length=N:=fun o=>by simp [outD]
 generalize placeL ord N=PL at hbk hmeet
 have hno2:=natsT_len ord
 refine Ctr.of hT hmix Tryz.func24 rfl (fun _ _=>by kernel_rfl) rfl fun hok => ?_
 clear hok
 conv=>whnf
 refine acall.pure _ (hw) rfl rfl fun _ => ?_
 conv=>whnf
 refine acall.pure _ (hbk) rfl rfl fun _ => ?_
 conv=>whnf
 refine acall.pure _ (ha) rfl rfl fun _ => ?_
 conv=>whnf
 refine ⟨(by rw [hln]; omega),Int.le_refl _,(by rw [hln]; show (N:Int)*8≤_; omega),?_⟩
 conv=>whnf
 rw [hln,Int.toNat_natCast]
 refine LoopL.by (fun i:Nat=>⟨[(3,.tr (natsT ord)),(4,.ptr 0 0),(5,.tr (listsT A)),(6,.ptr 1 0),(30,.tr (ti N)),(31,.tr (ti i))],[(0,.cells 62 [.tr (natsT PL)]),(1,.cells 62 [.sl 2 N]),(2,intsB (fillI N i))],10⟩) (fun i=>i≤N) (fun i=>N - i) 0 [_,_,_] []
  (Sub.mk' rfl ⟨.inl rfl,⟨rfl,rfl⟩,.inl rfl,⟨rfl,rfl⟩,.inl rfl,.inl rfl,trivial⟩ ⟨⟨rfl,.inl rfl,trivial⟩,⟨rfl,⟨rfl,rfl⟩,trivial⟩,⟨rfl,rfl,rfl,by show List.replicate N [Tr.v (.int .i64 0)]=(fillI N 0).map irow; rw [irow_rep]; rfl⟩,trivial⟩ rfl rfl) (Nat.zero_le _) ?_
 rintro i hi -
 conv=>whnf
 refine csplit (fun hit => ?_) (fun hit => ?_)
 ·have hit:i<N:=by have:=of_decide_eq_true hit; omega
  have hfs:=fillI_set hit
  have hfl:(fillI N i).length=N:=by simp [fillI]; omega
  conv=>whnf
  refine ⟨rfl,(show (0:Int)≤i by omega),(show (i:Int)<(N:Int) by omega),?_⟩
  conv=>whnf
  refine ⟨rfl,rfl,(by show i<((fillI N i).map irow).length; rw [List.length_map]; omega),fun row hrow => ?_⟩
  obtain ⟨d,hd,rfl⟩:=int_get2 hrow
  clear hrow hd
  refine ⟨(show 0+1≤1 by decide),?_⟩
  conv=>whnf
  exact ⟨i+1,[0,1,2],[],Sub.mk' rfl ⟨.inl rfl,⟨rfl,rfl⟩,.inl rfl,⟨rfl,rfl⟩,.inl rfl,.inl (ti_succ hit (by omega)),trivial⟩ ⟨aut,aut,⟨rfl,rfl,rfl,by rw [← hfs]; exact int_set _ i d (-1)⟩,trivial⟩ rfl rfl,hit,by show N - (i+1)<N - i; omega⟩
 have hit:i=N:=by have:=of_decide_eq_false hit; omega
 subst hit
 have hfi:(fillI i i).set 0 0=outD ord i startO:=by rw [hst]; simp [fillI]
 conv=>whnf
 refine ⟨fun _ => ?_,fun h=>absurd rfl h⟩
 conv=>whnf
 refine ⟨rfl,by decide,(show (0:Int)<(i:Int) by omega),?_⟩
 conv=>whnf
 refine ⟨rfl,rfl,(by show 0<((fillI i i).map irow).length; rw [List.length_map]; simp [fillI]; omega),fun row hrow => ?_⟩
 obtain ⟨d,hd,rfl⟩:=int_get2 hrow
 clear hrow hd
 refine ⟨(show 0+1≤1 by decide),?_⟩
 conv=>whnf
 obtain ⟨N,hNi⟩ : ∃ N,i=N:=⟨_,rfl⟩
 refine LoopL.by (fun x:(Nat→Option Nat) × Bool=>⟨[(3,.tr (natsT ord)),(4,.ptr 0 0),(5,.tr (listsT A)),(6,.ptr 1 0),(8,.fn 64 [.ptr 0 0,.ptr 1 0]),(9,.tr (tb x.2))],[(0,.cells 62 [.tr (natsT PL)]),(1,.cells 62 [.sl 2 i]),(2,intsB (outD ord i x.1))],10⟩) (fun x=>(x.2=true→DomI M P t 1 x.1)∧(x.2=false→DomI M P t M x.1 ∧ ∀ n b,0<n→n<M→x.1 n=some b→MeetI P x.1 n b)) (fun x=>2*sumO M x.1+x.2.toNat) (startO,true) [0,1,2] []
  (Sub.mk' rfl aut ⟨aut,aut,⟨rfl,rfl,rfl,by rw [← hfi]; exact int_set _ 0 d 0⟩,trivial⟩ rfl rfl) ⟨fun _=>hdom0,fun h=>by cases h⟩ ?_
 rintro ⟨o0,again⟩ ⟨hA,hB⟩ -
 simp only at hA hB
 cases again
 ·obtain ⟨h1,h2⟩:=hB rfl
  have hR:=hidom o0 h1 h2
  conv=>whnf
  refine ⟨fun _ => ?_,fun h=>absurd rfl h⟩
  conv=>whnf
  refine ⟨rfl,by decide,(show (0:Int)<(i:Int) by omega),?_⟩
  conv=>whnf
  refine ⟨rfl,rfl,(by show 0<((outD ord i o0).map irow).length; rw [List.length_map,hol]; omega),fun row hrow => ?_⟩
  obtain ⟨d,hd,rfl⟩:=int_get2 hrow
  clear hrow hd
  refine ⟨(show 0+1≤1 by decide),?_⟩
  conv=>whnf
  refine ⟨⟨rfl,(by rw [List.length_set,List.length_map,hol]; exact Nat.le_refl _),?_⟩,trivial⟩
  rw [List.take_of_length_le (by rw [List.length_set,List.length_map,hol]; exact Nat.le_refl _),← hR]
  exact congrArg (Tr.lst 1 8) (int_set _ 0 d (-1)).symm
 have hA:=hA rfl
 clear hB
 have hd43:Tr.lst 1 8 ((((ord.map fun (x:Nat)=>(x:Int)).map irow).take ((ord.map fun (x:Nat)=>(x:Int)).map irow).length).drop 1)=natsT (ord.drop 1):=by rw [List.take_length,← List.map_drop,← List.map_drop]
 have hl43:((((ord.map fun (x:Nat)=>(x:Int)).map irow).take ((ord.map fun (x:Nat)=>(x:Int)).map irow).length).drop 1).length=M - 1:=by rw [List.take_length,List.length_drop,hno2,hMe]
 conv=>whnf
 refine ⟨rfl,by decide,(show (1:Int)≤((((ord.map fun (x:Nat)=>(x:Int)).map irow).length:Nat):Int) by omega),Int.le_refl _,?_⟩
 conv=>whnf
 refine LoopL.by (fun x:(Nat→Option Nat) × Bool × Nat=>⟨[(3,.tr (natsT ord)),(4,.ptr 0 0),(5,.tr (listsT A)),(6,.ptr 1 0),(8,.fn 64 [.ptr 0 0,.ptr 1 0]),(9,.tr (tb x.2.1)),(43,.tr (natsT (ord.drop 1))),(44,.tr (ti (M - 1:Nat))),(45,.tr (ti x.2.2))],[(0,.cells 62 [.tr (natsT PL)]),(1,.cells 62 [.sl 2 i]),(2,intsB (outD ord i x.1))],10⟩) (fun x=>x.2.2≤M - 1∧DomI M P t (x.2.2+1) x.1∧(x.2.1=false→x.1=o0 ∧ ∀ n b,0<n→n<x.2.2+1→x.1 n=some b→MeetI P x.1 n b)∧(x.2.1=true→sumO M x.1<sumO M o0)) (fun x=>M - 1 - x.2.2) (o0,false,0) [0,1,2] []
  (Sub.mk' rfl ⟨.inl rfl,⟨rfl,rfl⟩,.inl rfl,⟨rfl,rfl⟩,aut,.inl rfl,.inl hd43,.inl (congrArg (fun q:Nat=>ti (q:Nat)) hl43),.inl rfl,trivial⟩ aut rfl rfl) ⟨Nat.zero_le _,hA,fun _=>⟨rfl,fun n b h1 h2=>absurd h2 (by show ¬ (n<0+1); omega)⟩,fun h=>by cases h⟩ ?_
 clear hA
 rintro ⟨o,again,k⟩ ⟨hk,hD,hF,hT⟩ -
 simp only at hk hD hF hT
 conv=>whnf
 refine csplit (fun hkt => ?_) (fun hkt => ?_)
 case refine_2 =>
  have hkt:k=M - 1:=by have:decide ((k:Int)<((M - 1:Nat):Int))=false:=hkt; have:=of_decide_eq_false this; omega
  subst hkt
  rw [show M - 1+1=M by omega] at hD hF
  conv=>whnf
  refine ⟨fun _ => ?_,fun h=>absurd rfl h⟩
  conv=>whnf
  refine ⟨(o,again),[0,1,2],[],Sub.mk' rfl aut aut rfl rfl,⟨fun _=>hD.again,fun h=>⟨hD,fun n b h1 h2 h3=>(hF h).2 n b h1 h2 h3⟩⟩,?_⟩
  cases again
  ·rw [(hF rfl).1]; show 2*sumO M o0+0<2*sumO M o0+1; omega
  ·have:=hT rfl; show 2*sumO M o+1<2*sumO M o0+1; omega
 have hkt:k<M - 1:=by have:decide ((k:Int)<((M - 1:Nat):Int))=true:=hkt; have:=of_decide_eq_true this; omega
 obtain ⟨x,hx⟩ : ∃ x,ord[k+1]? = some x:=⟨_,List.getElem?_eq_getElem (by omega)⟩
 have hx43:(ord.drop 1)[k]? = some x:=by rw [List.getElem?_drop,Nat.add_comm]; exact hx
 have hxN:=hN x (List.mem_of_getElem? hx)
 obtain ⟨ht1,ht2⟩:=ht (k+1) (by omega) (by omega)
 have hts:=hD.did _ ht2
 have hstep:=hstep (k+1)
 have hfin:=hfin (k+1) x
 have haN:=haN x
 have halx:=hal x hxN
 have hlL:=natsT_len (B x)
 obtain ⟨L,hL⟩ : ∃ L,B x=L:=⟨_,rfl⟩
 have hLi:=hBl x
 rw [hL] at hfin haN halx hlL hLi
 conv=>whnf
 refine ⟨rfl,(show (0:Int)≤k by omega),(by show (k:Int)<(((((ord.drop 1).map fun (x:Nat)=>(x:Int))).map irow).length:Int); rw [natsT_len,List.length_drop]; omega),fun row hrow => ?_⟩
 obtain ⟨d,hd,rfl⟩:=natsT_get hrow
 obtain rfl:=Option.some.inj (hx43.symm.trans hd)
 clear hrow hd
 conv=>whnf
 refine ⟨rfl,(show (0:Int)≤x by omega),(by show (x:Int)<((A.map lrow).length:Int); rw [List.length_map,hall]; omega),fun row hrow => ?_⟩
 obtain ⟨d,hd,rfl⟩:=lrow_get hrow
 obtain rfl:=Option.some.inj (halx.symm.trans hd)
 clear hrow hd
 conv=>whnf
 refine LoopL.by (fun q:Option Nat × Nat=>⟨[(3,.tr (natsT ord)),(4,.ptr 0 0),(5,.tr (listsT A)),(6,.ptr 1 0),(8,.fn 64 [.ptr 0 0,.ptr 1 0]),(9,.tr (tb again)),(11,.tr (ti x)),(12,.tr (ti (bestI ord q.1))),(43,.tr (natsT (ord.drop 1))),(44,.tr (ti (M - 1:Nat))),(45,.tr (ti k)),(52,.tr (natsT L)),(53,.tr (ti L.length)),(54,.tr (ti q.2))],[(0,.cells 62 [.tr (natsT PL)]),(1,.cells 62 [.sl 2 i]),(2,intsB (outD ord i o))],10⟩) (fun q=>q.2≤L.length∧MeetK o (posL ord (L.take q.2)) q.1) (fun q=>L.length - q.2) (none,0) [0,1,2] []
  (Sub.mk' rfl ⟨.inl rfl,⟨rfl,rfl⟩,.inl rfl,⟨rfl,rfl⟩,aut,.inl rfl,.inl rfl,.inl rfl,.inl rfl,.inl rfl,.inl rfl,.inl rfl,.inl (by rw [← hlL]),.inl rfl,trivial⟩ aut rfl rfl) ⟨Nat.zero_le _,fun p hp=>by cases hp⟩ ?_
 rintro ⟨best,j⟩ ⟨hj,hMK⟩ -
 simp only at hj hMK
 conv=>whnf
 refine csplit (fun hjt => ?_) (fun hjt => ?_)
 ·have hjL:j<L.length:=by have:decide ((j:Int)<(L.length:Int))=true:=hjt; have:=of_decide_eq_true this; omega
  clear hjt
  obtain ⟨p,hp⟩ : ∃ p,L[j]? = some p:=⟨_,List.getElem?_eq_getElem hjL⟩
  have hpN:=haN p (List.mem_of_getElem? hp)
  have htk:L.take (j+1)=L.take j++[p]:=by rw [List.take_add_one,hp]; rfl
  have hsn:=posL_snoc ord (L.take j) p
  rw [← htk] at hsn
  obtain ⟨v,hv⟩ : ∃ v,(outD ord i o)[p]? = some v:=⟨_,List.getElem?_eq_getElem (by rw [hol]; exact hpN)⟩
  conv=>whnf
  refine ⟨rfl,(show (0:Int)≤j by omega),(by show (j:Int)<((((L.map fun (x:Nat)=>(x:Int))).map irow).length:Int); rw [hlL]; omega),fun row hrow => ?_⟩
  obtain ⟨d,hd,rfl⟩:=natsT_get hrow
  obtain rfl:=Option.some.inj (hp.symm.trans hd)
  clear hrow hd
  conv=>whnf
  refine ⟨rfl,(show (0:Int)≤p by omega),(show (p:Int)<(i:Int) by omega),?_⟩
  conv=>whnf
  refine ⟨rfl,(by show p<((outD ord i o).map irow).length; rw [List.length_map,hol]; exact hpN),fun row hrow => ?_⟩
  obtain ⟨d,hd,rfl⟩:=int_get2 hrow
  obtain rfl:=Option.some.inj (hv.symm.trans hd)
  clear hrow hd
  refine ⟨(show 0<1 by decide),fun t ht => ?_⟩
  cases ht
  by_cases hsk:v<0
  ·
   have hMK2:MeetK o (posL ord (L.take (j+1))) best:=by
    rw [hsn]
    cases hc:ord.contains p with
    | false=>exact hMK
    | true =>
     obtain ⟨q,hq⟩ : ∃ q:Nat,ord[q]? = some p:=by
      obtain ⟨q,hq,e⟩:=List.mem_iff_getElem.1 (List.contains_iff_mem.1 hc)
      exact ⟨q,by rw [List.getElem?_eq_getElem hq,e]⟩
     rw [hidx q p hq]
     refine hMK.skip ?_
     have:=hat o q p hq hpN
     rw [hv] at this
     cases ho:o q with
     | none=>rfl
     | some w=>rw [ho] at this; cases this; exact absurd hsk (by simp only; omega)
   have e1:decide (v<0)=true:=decide_eq_true hsk
   conv=>whnf
   rw [e1]
   conv=>whnf
   refine ⟨fun _ => ?_,fun h=>absurd rfl h⟩
   conv=>whnf
   exact ⟨(best,j+1),[0,1,2],[],Sub.mk' rfl ⟨.inl rfl,⟨rfl,rfl⟩,.inl rfl,⟨rfl,rfl⟩,aut,.inl rfl,.inl rfl,.inl rfl,.inl rfl,.inl rfl,.inl rfl,.inl rfl,.inl rfl,.inl (ti_succ hjL (by have:L.length≤i:=hLi; omega)),trivial⟩ aut rfl rfl,⟨hjL,hMK2⟩,by show L.length - (j+1)<L.length - j; omega⟩
  have e1:decide (v<0)=false:=decide_eq_false hsk
  obtain ⟨q,hq⟩ : ∃ q:Nat,ord[q]? = some p:=by
   cases hc:ord.contains p with
   | true =>
    obtain ⟨q,hq,e⟩:=List.mem_iff_getElem.1 (List.contains_iff_mem.1 hc)
    exact ⟨q,by rw [List.getElem?_eq_getElem hq,e]⟩
   | false =>
    have:=hno o p (by simpa using hc) hpN
    rw [hv] at this
    cases this
    exact absurd (show (-1:Int)<0 by decide) hsk
  have hqs:(o q).isSome=true:=by
   have:=hat o q p hq hpN
   rw [hv] at this
   cases ho:o q with
   | none=>rw [ho] at this; cases this; exact absurd (show (-1:Int)<0 by decide) hsk
   | some w=>rfl
  have hcon:ord.contains p=true:=List.contains_iff_mem.2 (List.mem_of_getElem? hq)
  rw [hcon,cond_true,hidx q p hq] at hsn
  have hpq:nodeAt ord q=p:=nodeAt_of hq
  conv=>whnf
  rw [e1]
  conv=>whnf
  cases best with
  | none =>
   have e2:decide (bestI ord none<0)=true:=(show decide ((-1:Int)<0)=true by decide)
   rw [e2]
   conv=>whnf
   exact ⟨(some q,j+1),[0,1,2],[],Sub.mk' rfl ⟨.inl rfl,⟨rfl,rfl⟩,.inl rfl,⟨rfl,rfl⟩,aut,.inl rfl,.inl rfl,.inl (by show ti (p:Nat)=ti (nodeAt ord q:Nat); rw [hpq]),.inl rfl,.inl rfl,.inl rfl,.inl rfl,.inl rfl,.inl (ti_succ hjL (by have:L.length≤i:=hLi; omega)),trivial⟩ aut rfl rfl,⟨hjL,by show MeetK o (posL ord (L.take (j+1))) (some q); rw [hsn]; exact hMK.first hqs⟩,by show L.length - (j+1)<L.length - j; omega⟩
  | some m =>
   have e2:decide (bestI ord (some m)<0)=false:=decide_eq_false (by show ¬ (((nodeAt ord m:Nat):Int)<0); omega)
   obtain ⟨w,hw1,hw2⟩:=meet_ex hD.up (m+q) m q (Nat.le_refl _) hMK.1 hqs
   have hmt:=hmeet o hD.up (fun i hi=>by rw [hMe]; exact hD.most i hi) m q w hMK.1 hqs hw2
   rw [hpq] at hmt
   rw [e2]
   conv=>whnf
   refine acall.au [0,1,2] [] (hmt) ?_
   intro _
   conv=>whnf
   exact ⟨(some w,j+1),[0,1,2],[],Sub.mk' rfl ⟨.inl rfl,⟨rfl,rfl⟩,.inl rfl,⟨rfl,rfl⟩,aut,.inl rfl,.inl rfl,.inl rfl,.inl rfl,.inl rfl,.inl rfl,.inl rfl,.inl rfl,.inl (ti_succ hjL (by have:L.length≤i:=hLi; omega)),trivial⟩ aut rfl rfl,⟨hjL,by show MeetK o (posL ord (L.take (j+1))) (some w); rw [hsn]; exact hMK.more hqs hw1 hw2⟩,by show L.length - (j+1)<L.length - j; omega⟩
 have hjt:j=L.length:=by have:decide ((j:Int)<(L.length:Int))=false:=hjt; have:=of_decide_eq_false this; omega
 subst hjt
 rw [List.take_length] at hMK
 obtain ⟨b,rfl,hbs,hmi⟩:=hfin o best hx ht1 hts hMK
 obtain ⟨hD2,hbl,hcl⟩:=hstep b o hD (by omega) (by omega) hmi
 have hbx:ord[b]? = some (nodeAt ord b):=getD_at (by omega)
 have hox:=hat o (k+1) x hx hxN
 obtain ⟨v,hv⟩ : ∃ v,(outD ord i o)[x]? = some v:=⟨_,List.getElem?_eq_getElem (by rw [hol]; exact hxN)⟩
 rw [hv] at hox
 have hox:=Option.some.inj hox
 conv=>whnf
 refine ⟨fun _ => ?_,fun h=>absurd rfl h⟩
 conv=>whnf
 refine ⟨rfl,(show (0:Int)≤x by omega),(show (x:Int)<(i:Int) by omega),?_⟩
 conv=>whnf
 refine ⟨rfl,(by show x<((outD ord i o).map irow).length; rw [List.length_map,hol]; exact hxN),fun row hrow => ?_⟩
 obtain ⟨d,hd,rfl⟩:=int_get2 hrow
 obtain rfl:=Option.some.inj (hv.symm.trans hd)
 clear hrow hd
 refine ⟨(show 0<1 by decide),fun t ht => ?_⟩
 cases ht
 by_cases hsame:o (k+1)=some b
 ·
  have hv2:v=(nodeAt ord b:Nat):=by rw [hox,hsame]; rfl
  have e1:(v != bestI ord (some b))=false:=by rw [hv2]; show (((nodeAt ord b:Nat):Int) != ((nodeAt ord b:Nat):Int))=false; simp
  rw [updO_id hsame] at hD2
  conv=>whnf
  rw [e1]
  conv=>whnf
  exact ⟨(o,again,k+1),[0,1,2],[],Sub.mk' rfl ⟨.inl rfl,⟨rfl,rfl⟩,.inl rfl,⟨rfl,rfl⟩,aut,.inl rfl,.inl rfl,.inl rfl,.inl (ti_succ hkt (by omega)),trivial⟩ aut rfl rfl,⟨hkt,hD2,fun h=>⟨(hF h).1,fun n c h1 h2 h3=>by
   by_cases e:n=k+1
   ·subst e; have h3:o (k+1)=some c:=h3; rw [hsame] at h3; cases h3; exact hmi
   ·exact (hF h).2 n c h1 (by show n<k+1; have:n<k+1+1:=h2; omega) h3⟩,hT⟩,by show M - 1 - (k+1)<M - 1 - k; omega⟩
 ·have hv2:v≠(nodeAt ord b:Nat):=by
   cases ho:o (k+1) with
   | none=>rw [ho] at hox; rw [hox]; simp only; omega
   | some c =>
    rw [ho] at hox
    intro w
    rw [hox] at w
    have hc:=hcl c ho
    have hck:=(hD.up.lt (k+1) c (by omega) ho).1
    have hcx:ord[c]? = some (nodeAt ord c):=getD_at (by omega)
    have e2:nodeAt ord c=nodeAt ord b:=by
     have:((ord.getD c 0:Nat):Int)=((nodeAt ord b:Nat):Int):=w
     exact Int.ofNat_inj.1 this
    have h3:=hidx c _ hcx
    have h4:=hidx b _ hbx
    rw [e2] at h3
    exact hsame (by rw [ho,← h3,h4])
  have e1:(v != bestI ord (some b))=true:=bne_iff_ne.2 hv2
  have hst2:=hset o (k+1) b x _ hx hbx
  have hlt:=sumO_less (M:=M) (o:=o) (n:=k+1) (b:=b) (by omega) hbl hcl hsame
  conv=>whnf
  rw [e1]
  conv=>whnf
  refine ⟨rfl,(show (0:Int)≤x by omega),(show (x:Int)<(i:Int) by omega),?_⟩
  conv=>whnf
  refine ⟨rfl,rfl,(by show x<((outD ord i o).map irow).length; rw [List.length_map,hol]; exact hxN),fun row hrow => ?_⟩
  obtain ⟨d,hd,rfl⟩:=int_get2 hrow
  clear hrow hd
  refine ⟨(show 0+1≤1 by decide),?_⟩
  conv=>whnf
  exact ⟨(updO o (k+1) b,true,k+1),[0,1,2],[],Sub.mk' rfl ⟨.inl rfl,⟨rfl,rfl⟩,.inl rfl,⟨rfl,rfl⟩,aut,.inl rfl,.inl rfl,.inl rfl,.inl (ti_succ hkt (by omega)),trivial⟩ ⟨aut,aut,⟨rfl,rfl,rfl,by rw [hst2]; exact int_set _ x d _⟩,trivial⟩ rfl rfl,⟨hkt,hD2,fun h=>(by cases h),fun _=>by
   show sumO M (updO o (k+1) b)<sumO M o0
   cases again
   ·rw [← (hF rfl).1]; exact hlt
   ·have:=hT rfl; omega⟩,by show M - 1 - (k+1)<M - 1 - k; omega⟩
end Go.Proofs.YthboippafkcoiaaGreatDoor.am
namespace Go.Proofs.YthboippafkcoiaaGreatDoor.am
open Go Go.Proofs Go.ChangeMaps
set_option linter.all false
theorem next_region {X:Gh→World→Prop} {k N id nx d0 d1 d2 hi h n:Nat} {seen:List Nat} {kd:D} {es:List (MK × Tr)} {pos1 pos2:String} {af1 af2:Array Edge} {ty1 ty2:Nat} {Q:QL} {tl:List (Nat × AV)} {bl:List (Nat × Option Blk)} {ops:Array Oper}
  (hops:ops=[⟨some d1,.next (.tmp d0) false,ty1,pos1,af1,none⟩,⟨some d2,.extract (.tmp d1) 0,ty2,pos2,af2,none⟩].toArray)
  (h0:lk tl d0=some (.ptr hi 0)) (hb1:lkM bl hi=some (.itr h n seen)) (hb2:lkM bl h=some (.map kd es)) (hn:n=es.length) (hG : ∀ p ∈ es,good p.1.val) (hd1:Nat.blt d1 N=true) (hd2:Nat.blt d2 N=true) (hb:nx+2≤HMod)
  (hA:(∀ i,i<n→i ∈ seen)→aopsL Tryz.prog T N ops nx Q [] 2 (putLs (putLs tl (some d1) (.tup [.tr (tb false)])) (some d2) (.tr (tb false))) bl)
  (hB : ∀ i q t,i ∉ seen→es[i]? = some (q,t)→aopsL Tryz.prog T N ops nx Q [] 2 (putLs (putLs tl (some d1) (.tup [.tr (tb true),.tr (.v q.val),.tr t])) (some d2) (.tr (tb true))) ((hi,some (.itr h n (seen++[i])))::bl)) :
  Wp X Tryz.prog k N (.region id ops false) (Ql Q) (LS.mk tl bl nx).st:=by
 intro g0 g w0 w act hk hs
 refine wp_region_list ?_
 have hN:=hs.size
 have hm:=hs.mem
 replace hd1:d1<N:=Nat.le_of_ble_eq_true hd1
 replace hd2:d2<N:=Nat.le_of_ble_eq_true hd2
 obtain ⟨_,hR⟩:=hs.fr d0 _ h0
 obtain ⟨l1,q1,r,b,rfl,c1,c2⟩:=hm.blk hi _ hb1
 obtain ⟨lc,g1,bb,ents,clock,rfl,b1,b2,b3,b4⟩:=hm.blk h _ hb2
 obtain rfl:b=bb:=by have:=mp_is g1 c2; cases this; rfl
 have hv:act.eval (.tmp d0) = .pointer (some ⟨r,0,none⟩):=hR.ptr_inv q1
 have hc:clock=n:=by rw [hn]; exact b2.2.1.trans b2.1
 have hto:ops.toList=[⟨some d1,.next (.tmp d0) false,ty1,pos1,af1,none⟩,⟨some d2,.extract (.tmp d1) 0,ty2,pos2,af2,none⟩]:=by rw [hops]
 have hborn : ∀ e ∈ ents.toList,e.born<n:=fun e he=>by
  obtain ⟨i,hi0,e2⟩:=List.mem_iff_getElem.1 he
  have:=b2.2.2 i e (by rw [← Array.getElem?_toList,List.getElem?_eq_getElem hi0,e2])
  have h3:ents.toList.length=n:=by rw [Array.length_toList,← b2.2.1,hc]
  omega
 rw [hto]
 unfold wpList
 rw [if_pos (by simp [Region.wanted])]
 refine .inl ?_
 unfold Oper.wp
 have last : ∀ (w2:World) (v:Value) (vs:Array Value) (a:AV) (bv:Bool) (bl':List (Nat × Option Blk)),Grow g w g w2→MSt g w2 (lkM bl')→Rep g w2 (.tuple vs) a→vs[0]? = some (.bool bv)→aopsL Tryz.prog T N ops nx Q [] 2 (putLs (putLs tl (some d1) a) (some d2) (.tr (tb bv))) bl' →
   wpList Tryz.prog ops (Post g0 w0 N (Ql Q)) [⟨some d2,.extract (.tmp d1) 0,ty2,pos2,af2,none⟩] (act.put (some d1) (.tuple vs)) w2:=fun w2 v vs a bv bl' hg hm2 hr hv0 hL=>by
  unfold wpList
  rw [if_pos (by simp [Region.wanted])]
  refine .inl ?_
  unfold Oper.wp
  have he:(act.put (some d1) (.tuple vs)).eval (.tmp d1) = .tuple vs:=by
   show (act.tmps.setIfInBounds d1 _).getD d1 undef=_
   rw [getD_set (by omega),if_pos rfl]
  rw [show (execOp (act.put (some d1) (.tuple vs)).eval ⟨some d2,.extract (.tmp d1) 0,ty2,pos2,af2,none⟩).run Tryz.prog w2 = .ok (.value (.bool bv)) w2 by simp [execOp,he,Instr.extract,hv0]]
  change wpList Tryz.prog ops (Post g0 w0 N (Ql Q)) [] ((act.put (some d1) (.tuple vs)).put (some d2) (.bool bv)) w2
  obtain ⟨p1,p2⟩:=put_ok (dst:=some d1) hN hs.fr hg (by unfold dstOk; exact Nat.ble_eq_true_of_le hd1) hr
  obtain ⟨r1,r2⟩:=put_ok (dst:=some d2) p1 p2 (Grow.refl _ _) (by unfold dstOk; exact Nat.ble_eq_true_of_le hd2) (show Rep g w2 (.bool bv) (.tr (tb bv)) from .tr (.v trivial))
  refine aopsL_sound hT nx Q [] 2 _ bl' g _ _ (by show nx+(2+0)≤HMod; omega) hL ⟨r1,(put_defers ..).trans ((put_defers ..).trans hs.defers),?_,hm2,fun h hh=>hs.un h (by show nx≤h % HMod; omega),hs.grow.trans hg⟩
  rw [putLs_lk,putLs_lk]
  exact r2
 rcases run_next_at (P := Tryz.prog) w ty1 r b n n seen.toArray ents clock c1 b1 hborn (Nat.le_refl _) with ⟨z0,hrun⟩ | ⟨e,he,w1,hal,hrun⟩
 ·rw [show (execOp act.eval ⟨some d1,.next (.tmp d0) false,ty1,pos1,af1,none⟩).run Tryz.prog w = .ok (.value (.tuple #[.bool false])) w by simp [execOp,hv,hrun]]
  refine last w .nilIface #[.bool false] (.tup [.tr (tb false)]) false bl (Grow.refl _ _) hm (.tup rfl fun j c a e1 e2 => ?_) rfl (hA fun i hi => ?_)
  ·match j,e2 with
   | 0,e2=>cases e2; cases e1; exact .tr (.v trivial)
  ·have hsz:i<ents.size:=by rw [← b2.2.1,hc]; exact hi
   have hem:=Array.size_eq_zero_iff.1 z0
   unfold leftOf at hem
   rw [Array.filter_eq_empty_iff] at hem
   have h1:=hem ents[i] (Array.getElem_mem hsz)
   have h2:=b2.2.2 i ents[i] (Array.getElem?_eq_getElem hsz)
   rw [h2] at h1
   simpa using h1
 ·rw [show (execOp act.eval ⟨some d1,.next (.tmp d0) false,ty1,pos1,af1,none⟩).run Tryz.prog w = .ok (.value (.tuple #[.bool true,e.key,e.val])) (setBlock w1 r (.mapIter (some b) n (seen.toArray.push e.born) clock)) by simp [execOp,hv,hrun]]
  unfold leftOf at he
  obtain ⟨hem,hes⟩:e ∈ ents.toList∧e.born ∉ seen:=by
   have:e ∈ ents∧(!seen.toArray.contains e.born)=true:=by
    have:=Array.mem_filter.1 (Array.mem_toList_iff.1 he)
    exact this
   exact ⟨Array.mem_toList_iff.2 this.1,by simpa using this.2⟩
  obtain ⟨i,hi0,e2⟩:=List.mem_iff_getElem.1 hem
  have hei:ents[i]? = some e:=by rw [← Array.getElem?_toList,List.getElem?_eq_getElem hi0,e2]
  have hbi:=b2.2.2 i e hei
  have hil:i<es.length:=by rw [← b2.1,← Array.length_toList]; exact hi0
  obtain ⟨⟨q,t⟩,hqt⟩ : ∃ p,es[i]? = some p:=⟨_,List.getElem?_eq_getElem hil⟩
  obtain ⟨en,d1',d2',d3⟩:=b4 i q t hqt
  obtain rfl:e=en:=Option.some.inj (hei.symm.trans d1')
  have hr1:r<w.heap.size:=(Array.getElem?_eq_some_iff.1 c1).1
  have hw1:w1.heap=w.heap∧w1.os=w.os∧w1.tape=w.tape∧w1.output=w.output:=by rcases hal with rfl | rfl <;> exact ⟨rfl,rfl,rfl,rfl⟩
  have hko : ∀ j,j≠r→(setBlock w1 r (.mapIter (some b) n (seen.toArray.push e.born) clock)).heap[j]? = w.heap[j]? := fun j hj=>by
   show (w1.heap.setIfInBounds r _)[j]? = _
   rw [Array.getElem?_setIfInBounds_ne (Ne.symm hj),hw1.1]
  have hsz2:(setBlock w1 r (.mapIter (some b) n (seen.toArray.push e.born) clock)).heap.size=w.heap.size:=by
   show (w1.heap.setIfInBounds r _).size=_
   rw [Array.size_setIfInBounds,hw1.1]
  have hg:Grow g w g (setBlock w1 r (.mapIter (some b) n (seen.toArray.push e.born) clock)):=grow_write (h:=hi) (b:=r) (hm.xl _ r (.root q1 rfl)) (.root q1 rfl) hw1.2.1 hw1.2.2.1 hw1.2.2.2 hsz2 hko
  have hm2:=mst_write (bl := .itr h n (seen++[i])) hm q1 (.inl rfl) hg hsz2 hko ⟨r,b,rfl,by
   show (w1.heap.setIfInBounds r _)[r]? = _
   rw [hw1.1,hbi,hc]
   simp [hr1],c2.grow hg⟩
  have hup:MSt g (setBlock w1 r (.mapIter (some b) n (seen.toArray.push e.born) clock)) (lkM ((hi,some (.itr h n (seen++[i])))::bl)):=by
   have:=lkM_append [(hi,some (Blk.itr h n (seen++[i])))] bl
   rw [show ((hi,some (Blk.itr h n (seen++[i])))::bl)=[(hi,some (Blk.itr h n (seen++[i])))]++bl from rfl,this]
   exact hm2
  refine last _ .nilIface #[.bool true,e.key,e.val] (.tup [.tr (tb true),.tr (.v q.val),.tr t]) true _ hg hup (.tup rfl fun j c a e1 e2 => ?_) rfl (hB i q t (by rw [hbi] at hes; exact hes) hqt)
  match j,e2 with
  | 0,e2=>cases e2; cases e1; exact .tr (.v trivial)
  | 1,e2=>cases e2; cases e1; rw [d2']; exact .tr (.v (hG (q,t) (List.mem_of_getElem? hqt)))
  | 2,e2=>cases e2; cases e1; exact (Rep.tr d3).grow hg
end Go.Proofs.YthboippafkcoiaaGreatDoor.am
namespace Go.Proofs.YthboippafkcoiaaGreatDoor.am
open Go Go.Proofs
set_option linter.all false
def ovI:Option Nat→Int
 | none => -1
 | some n=>(n:Nat)
set_option maxRecDepth 100000 in
theorem k_dominates (g:Gr) (hW:Whole g) (h n:Nat) (hn:Rch (fol g) (-1) n) (R:Bool) (hR:R=true↔Dm (fol g) h n):K 66 [.tr (ti h),.tr (ti n),.ptr 0 0] [.cells 62 [.tr (intsT (idomL (fol g) g.nodes.length))]] (.ret (.tr (tb R))) [some (.cells 62 [.tr (intsT (idomL (fol g) g.nodes.length))])]:=by
 have hup : ∀ n,Rch (fol g) (-1) n→n<g.nodes.length ∧ ∃ v,(idomL (fol g) g.nodes.length)[n]? = some v∧((v = -1 ∧ ∀ h,Dm (fol g) h n↔h=n) ∨ ∃ a:Nat,v=a∧rankD (fol g) g.nodes.length a<rankD (fol g) g.nodes.length n∧Rch (fol g) (-1) a ∧ ∀ h,Dm (fol g) h n↔h=n∨Dm (fol g) h a):=fun n hn=>by
  have hlt:=hn.lt hW.pos hW.lt
  refine ⟨hlt,idomI (fol g) n,by simp [idomL,hlt],?_⟩
  rcases idom_up (idomI_is hW.pos hW.lt n) hn with q | ⟨a,q1,q2,q3,q4⟩
  ·exact .inl q
  ·exact .inr ⟨a,q1,rank_lt hlt q2 q3,q3.1,q4⟩
 have hll:(idomL (fol g) g.nodes.length).length=g.nodes.length:=by simp [idomL]
 clear hW
 generalize rankD (fol g) g.nodes.length=rk at hup
 generalize idomL (fol g) g.nodes.length=IL at hup hll ⊢
 generalize fol g=f at hup hn hR
 generalize g.nodes.length=N at hup hll
 have hlI:(IL.map irow).length=IL.length:=List.length_map ..
 refine Ctr.of hT hmix Tryz.func66 rfl (fun _ _=>by kernel_rfl) rfl fun hok => ?_
 clear hok
 conv=>whnf
 refine LoopL.by (fun x:Option Nat=>⟨[(0,.tr (ti h)),(1,.tr (ti (ovI x))),(2,.ptr 0 0)],[(0,.cells 62 [.tr (intsT IL)])],10⟩) (fun x=>match x with | none=>R=false | some n=>Rch f (-1) n∧(R=true↔Dm f h n)) (fun x=>match x with | none=>0 | some n=>rk n+1) (some n) [0] []
  (Sub.mk' rfl aut aut rfl rfl) ⟨hn,hR⟩ ?_
 clear hn hR
 rintro x hx -
 cases x with
 | none =>
  have hx:R=false:=hx
  subst hx
  conv=>whnf
  refine ⟨fun _ => ?_,fun h=>absurd rfl h⟩
  conv=>whnf
  exact aut
 | some n =>
  obtain ⟨hn,hR⟩:=hx
  obtain ⟨hnN,v,hv,hcs⟩:=hup n hn
  have e0:decide (ovI (some n) ≥ 0)=true:=decide_eq_true (by show (n:Int) ≥ 0; omega)
  conv=>whnf
  rw [e0]
  conv=>whnf
  by_cases hnh:h=n
  ·subst hnh
   have hRt:R=true:=hR.2 (dm_refl hn)
   subst hRt
   have e1:(ovI (some h) == (h:Int))=true:=beq_self_eq_true _
   refine csplit (fun _ => ?_) (fun g=>ctf e1 g)
   conv=>whnf
   exact aut
  have e1:(ovI (some n) == (h:Int))=false:=by rw [beq_eq_false_iff_ne]; show (n:Int)≠(h:Int); omega
  refine csplit (fun g=>ctf g e1) (fun _ => ?_)
  conv=>whnf
  refine ⟨rfl,(show (0:Int)≤n by omega),(show (n:Int)<((IL.map irow).length:Int) by omega),fun row hrow => ?_⟩
  obtain ⟨d,hd,rfl⟩:=int_get hrow
  obtain rfl:=Option.some.inj (hv.symm.trans hd)
  clear hrow hd
  conv=>whnf
  rcases hcs with ⟨rfl,hq⟩ | ⟨a,rfl,hrk,ha,hq⟩
  ·have hRf:R=false:=by
    cases R with
    | false=>rfl
    | true=>exact absurd ((hq h).1 (hR.1 rfl)) hnh
   exact ⟨none,[0],[],Sub.mk' rfl aut aut rfl rfl,hRf,by show 0<rk n+1; omega⟩
  ·refine ⟨some a,[0],[],Sub.mk' rfl aut aut rfl rfl,⟨ha,?_⟩,by show rk a+1<rk n+1; omega⟩
   rw [hR,hq h]
   exact ⟨fun w=>w.resolve_left hnh,.inr⟩
end Go.Proofs.YthboippafkcoiaaGreatDoor.am
namespace Go.Proofs.YthboippafkcoiaaGreatDoor.am
open Go Go.Proofs
set_option linter.all false
def mapE (S:List Nat):List (MK × Tr):=S.map fun (x:Nat)=>(.ki .i64 (x:Int),tb true)
theorem mget_mapE (S:List Nat) (y:Nat):mget (mapE S) (.ki .i64 (y:Int))=bif S.contains y then some (tb true) else none:=by
 induction S with
 | nil=>rfl
 | cons x S ih =>
  show (bif MK.same (.ki .i64 (y:Int)) (.ki .i64 (x:Int)) then some (tb true) else mget (mapE S) (.ki .i64 (y:Int)))=_
  rw [ih,List.contains_cons]
  have:MK.same (.ki .i64 (y:Int)) (.ki .i64 (x:Int))=(y == x):=by
   show ((y:Int) == (x:Int))=(y == x)
   by_cases e:y=x
   ·rw [e,beq_self_eq_true,beq_self_eq_true]
   ·rw [beq_eq_false_iff_ne.2 e,beq_eq_false_iff_ne.2 (by omega)]
  rw [this]
  cases (y == x) <;> rfl
theorem mput_mapE (S:List Nat) (y:Nat):mput (mapE S) (.ki .i64 (y:Int)) (tb true)=mapE (bif S.contains y then S else S++[y]):=by
 induction S with
 | nil=>rfl
 | cons x S ih =>
  show (bif MK.same (.ki .i64 (y:Int)) (.ki .i64 (x:Int)) then (.ki .i64 (y:Int),tb true)::mapE S else (.ki .i64 (x:Int),tb true)::mput (mapE S) (.ki .i64 (y:Int)) (tb true))=_
  have:MK.same (.ki .i64 (y:Int)) (.ki .i64 (x:Int))=(y == x):=by
   show ((y:Int) == (x:Int))=(y == x)
   by_cases e:y=x
   ·rw [e,beq_self_eq_true,beq_self_eq_true]
   ·rw [beq_eq_false_iff_ne.2 e,beq_eq_false_iff_ne.2 (by omega)]
  rw [this,ih,List.contains_cons]
  by_cases e:y=x
  ·subst e
   rw [beq_self_eq_true]; rfl
  ·rw [beq_eq_false_iff_ne.2 e,cond_false,Bool.false_or]
   cases S.contains y <;> rfl
theorem mapE_len (S:List Nat):(mapE S).length=S.length:=by simp [mapE]
theorem mapE_at {S:List Nat} {i:Nat} {q:MK} {t:Tr} (h:(mapE S)[i]? = some (q,t)) : ∃ x:Nat,S[i]? = some x∧q = .ki .i64 (x:Int)∧t=tb true:=by
 unfold mapE at h
 rw [List.getElem?_map,Option.map_eq_some_iff] at h
 obtain ⟨x,h1,h2⟩:=h
 cases h2
 exact ⟨x,h1,rfl,rfl⟩
abbrev inB (S:List Nat):Blk := .map (.int .i64) (mapE S)
set_option maxRecDepth 100000 in
set_option maxHeartbeats 4000000 in
theorem k_depth (g:Gr) (hW:wholeB g=true):K 26 [g.av] [] (.ret (.tr (natsT (depthL (fol g) g.nodes.length)))) []:=by
 have hd:=k_dominators g hW
 have ha:=k_ahead g hW
 have hWh:=whole_of hW
 have hs:=k_spread g (-1) hWh
 have hdm:=fun h n hn R hR=>k_dominates g hWh h n hn R hR
 have hrc:=fun x hx=>rchL_at (fol:=fol g) (cut := -1) (N:=g.nodes.length) (x:=x) hx
 have hrl:(rchL (fol g) (-1) g.nodes.length).length=g.nodes.length:=rchL_len
 have hal : ∀ x,x<g.nodes.length→(aheadL (fol g) g.nodes.length)[x]? = some (aheadN (fol g) g.nodes.length x):=fun x hx=>by simp [aheadL,hx]
 have hall:(aheadL (fol g) g.nodes.length).length=g.nodes.length:=by simp [aheadL]
 have haN : ∀ x,∀ p ∈ aheadN (fol g) g.nodes.length x,p<g.nodes.length∧x ∈ fol g p:=fun x p hp=>mem_aheadN.1 hp
 have hBl : ∀ x,(aheadN (fol g) g.nodes.length x).length≤g.nodes.length:=fun x=>by
  have:=List.length_filter_le (fun i=>(fol g i).contains x) (List.range g.nodes.length)
  rwa [List.length_range] at this
 have hfd : ∀ a,g.nodes.length≤a→fol g a=[]:=fun a h=>by
  unfold fol
  rw [List.getElem?_eq_none h]
 have hbf:=fun h S pend hB=>LoopB.fin (fol:=fol g) (N:=g.nodes.length) (h:=h) (S:=S) (pend:=pend) hfd hB
 have hjf:=fun h S pend n hJ=>LoopJ.fin (fol:=fol g) (N:=g.nodes.length) (h:=h) (S:=S) (pend:=pend) (n:=n) hWh.lt hfd hJ
 have hrN : ∀ x,Rch (fol g) (-1) x→x<g.nodes.length:=fun x hx=>hx.lt hWh.pos hWh.lt
 have hpos:=hWh.pos
 have hmo:=hWh.most
 have hil:(idomL (fol g) g.nodes.length).length=g.nodes.length:=by simp [idomL]
 clear hWh hW hfd
 generalize idomL (fol g) g.nodes.length=IL at hd hdm hil
 generalize aheadL (fol g) g.nodes.length=A at ha hal hall
 generalize aheadN (fol g) g.nodes.length=B at hal haN hBl hbf hjf
 generalize rchL (fol g) (-1) g.nodes.length=RC at hs hrc hrl
 obtain ⟨f,hf⟩ : ∃ f,fol g=f:=⟨_,rfl⟩
 rw [hf] at hdm hrc haN hbf hjf hrN ⊢
 clear hf
 obtain ⟨name,locals,slots,nodes⟩:=g
 simp only at hrc hrl hal hall haN hBl hrN hpos hmo hil ⊢
 have hln:(nodes.map Nd.cells).length=nodes.length:=List.length_map ..
 obtain ⟨N,hNe⟩ : ∃ N,nodes.length=N:=⟨_,rfl⟩
 rw [hNe] at hrc hrl hal hall haN hBl hrN hpos hmo hil hln ⊢
 refine Ctr.cut [2000033] hT hmix Tryz.func26 rfl (fun _ _=>by kernel_rfl) rfl fun hok => ?_
 clear hok
 conv=>whnf
 refine acall.pure _ (hd) rfl rfl fun _ => ?_
 conv=>whnf
 refine ⟨(by rw [List.length_map]; omega),?_⟩
 conv=>whnf
 refine acall.pure _ (hs) rfl rfl fun _ => ?_
 conv=>whnf
 refine acall.pure _ (ha) rfl rfl fun _ => ?_
 conv=>whnf
 refine ⟨(by rw [hln]; omega),Int.le_refl _,(by rw [hln]; show (N:Int)*8≤_; omega),?_⟩
 conv=>whnf
 rw [hln,Int.toNat_natCast]
 have hpln:(listsT A)=(listsT A):=rfl
 have hbl2:=fun x=>natsT_len (B x)
 refine LoopL.by (fun h:Nat=>⟨[(4,.tr (boolsT RC)),(5,.tr (listsT A)),(6,.fn 66 [.ptr 0 0]),(7,.sl 1 N),(32,.tr (ti N)),(33,.tr (ti h))],[(0,.cells 62 [.tr (intsT IL)]),(1,natsB (depthI f N h))],10⟩) (fun h=>h≤N) (fun h=>N - h) 0 [_,_] []
  (Sub.mk' rfl ⟨.inl rfl,.inl rfl,⟨rfl,⟨rfl,rfl⟩,trivial⟩,⟨rfl,rfl⟩,.inl rfl,.inl rfl,trivial⟩ ⟨⟨rfl,.inl rfl,trivial⟩,⟨rfl,rfl,rfl,by rw [depthI_zero]; exact nrow_rep N⟩,trivial⟩ rfl rfl) (Nat.zero_le _) ?_
 rintro h hh -
 conv=>whnf
 refine csplit (fun hht => ?_) (fun hht => ?_)
 ·have hht:h<N:=by have:decide ((h:Int)<(N:Int))=true:=hht; have:=of_decide_eq_true this; omega
  obtain ⟨b,hb⟩ : ∃ b,RC[h]? = some b:=⟨_,List.getElem?_eq_getElem (by omega)⟩
  conv=>whnf
  refine ⟨rfl,(show (0:Int)≤h by omega),(by show (h:Int)<((RC.map brow).length:Int); rw [List.length_map]; omega),fun row hrow => ?_⟩
  obtain ⟨d,hd,rfl⟩:=brow_get hrow
  obtain rfl:=Option.some.inj (hb.symm.trans hd)
  clear hrow hd
  cases b with
  | false =>
   have hnr : ¬ Rch f (-1) h:=fun w=>by rw [(hrc h hht).2 w] at hb; cases hb
   have hsk:=depthI_skip (N:=N) (not_loop hnr)
   conv=>whnf
   refine ⟨fun _ => ?_,fun h=>absurd rfl h⟩
   conv=>whnf
   exact ⟨h+1,[0,1],[],Sub.mk' rfl ⟨.inl rfl,.inl rfl,aut,⟨rfl,rfl⟩,.inl rfl,.inl (ti_succ hht (by omega)),trivial⟩ ⟨aut,⟨rfl,rfl,rfl,by rw [hsk]⟩,trivial⟩ rfl rfl,hht,by show N - (h+1)<N - h; omega⟩
  | true =>
   have hr:Rch f (-1) h:=(hrc h hht).1 hb
   conv=>whnf
   refine ⟨rfl,(show (0:Int)≤h by omega),(by show (h:Int)<((A.map lrow).length:Int); rw [List.length_map,hall]; omega),fun row hrow => ?_⟩
   obtain ⟨d,hd,rfl⟩:=lrow_get hrow
   obtain rfl:=Option.some.inj ((hal h hht).symm.trans hd)
   clear hrow hd
   conv=>whnf
   have hbf:=hbf h
   have haNh:=haN h
   have hBh:=hBl h
   have hbl2h:=hbl2 h
   obtain ⟨L,hL⟩ : ∃ L,B h=L:=⟨_,rfl⟩
   rw [hL] at hbf haNh hBh hbl2h
   refine LoopL.by (fun x:List Nat × List Nat × Nat=>⟨[(4,.tr (boolsT RC)),(5,.tr (listsT A)),(6,.fn 66 [.ptr 0 0]),(7,.sl 1 N),(8,.tr (ti h)),(9,.mp 2),(10,.sl 3 x.2.1.length),(32,.tr (ti N)),(33,.tr (ti h)),(45,.tr (natsT L)),(46,.tr (ti L.length)),(47,.tr (ti x.2.2))],[(0,.cells 62 [.tr (intsT IL)]),(1,natsB (depthI f N h)),(2,inB x.1),(3,natsB x.2.1)],10⟩) (fun x=>x.2.2≤L.length∧x.2.1.length≤x.2.2∧LoopB f h x.1 x.2.1 (L.take x.2.2)) (fun x=>L.length - x.2.2) ([],[],0) [0,1,_] [3]
    (Sub.mk' rfl ⟨.inl rfl,.inl rfl,⟨rfl,⟨rfl,rfl⟩,trivial⟩,⟨rfl,rfl⟩,.inl rfl,rfl,⟨rfl,rfl,rfl,rfl⟩,.inl rfl,.inl rfl,.inl (by rw [hL]),.inl (by rw [← hbl2h,hL]),.inl rfl,trivial⟩ ⟨⟨rfl,.inl rfl,trivial⟩,⟨rfl,rfl,rfl,rfl⟩,⟨rfl,rfl⟩,⟨rfl,_,_,_,rfl,by decide⟩,trivial⟩ rfl rfl) ⟨Nat.zero_le _,Nat.le_refl _,LoopB.start f h⟩ ?_
   rintro ⟨S,pend,j⟩ ⟨hj,hpj,hB⟩ -
   simp only at hj hpj hB
   conv=>whnf
   refine csplit (fun hjt => ?_) (fun hjt => ?_)
   ·have hjL:j<L.length:=by have:decide ((j:Int)<(L.length:Int))=true:=hjt; have:=of_decide_eq_true this; omega
    clear hjt
    obtain ⟨p,hp⟩ : ∃ p,L[j]? = some p:=⟨_,List.getElem?_eq_getElem hjL⟩
    obtain ⟨hpN,hhp⟩:=haNh p (List.mem_of_getElem? hp)
    have htk:L.take (j+1)=L.take j++[p]:=by rw [List.take_add_one,hp]; rfl
    obtain ⟨c,hc⟩ : ∃ c,RC[p]? = some c:=⟨_,List.getElem?_eq_getElem (by omega)⟩
    conv=>whnf
    refine ⟨rfl,(show (0:Int)≤j by omega),(by show (j:Int)<((((L.map fun (x:Nat)=>(x:Int))).map irow).length:Int); rw [hbl2h]; omega),fun row hrow => ?_⟩
    obtain ⟨d,hd,rfl⟩:=natsT_get hrow
    obtain rfl:=Option.some.inj (hp.symm.trans hd)
    clear hrow hd
    conv=>whnf
    refine ⟨rfl,(show (0:Int)≤p by omega),(by show (p:Int)<((RC.map brow).length:Int); rw [List.length_map]; omega),fun row hrow => ?_⟩
    obtain ⟨d,hd,rfl⟩:=brow_get hrow
    obtain rfl:=Option.some.inj (hc.symm.trans hd)
    clear hrow hd
    cases c with
    | false =>
     have hnd : ¬ Dm f h p:=fun w=>by rw [(hrc p hpN).2 w.2.1] at hc; cases hc
     have hB2:=hB.skip hnd
     rw [← htk] at hB2
     conv=>whnf
     exact ⟨(S,pend,j+1),[0,1,2,3],[],Sub.mk' rfl ⟨.inl rfl,.inl rfl,aut,⟨rfl,rfl⟩,.inl rfl,rfl,⟨rfl,rfl⟩,.inl rfl,.inl rfl,.inl rfl,.inl rfl,.inl (ti_succ hjL (by omega)),trivial⟩ aut rfl rfl,⟨hjL,by show pend.length≤j+1; omega,hB2⟩,by show L.length - (j+1)<L.length - j; omega⟩
    | true =>
     have hrp:Rch f (-1) p:=(hrc p hpN).1 hc
     by_cases hdm2:Dm f h p
     ·have hct:=hdm h p hrp true ⟨fun _=>hdm2,fun _=>rfl⟩
      have hB2:=hB.push hdm2 hhp
      rw [← htk] at hB2
      have hS:(bif S.contains h then S else S++[h])=[h]:=by
       rcases hB.s with ⟨rfl,_⟩ | ⟨rfl,_⟩
       ·rfl
       ·rw [show [h].contains h=true by simp]; rfl
      conv=>whnf
      refine acall.au [0] [] (hct) ?_
      intro _
      conv=>whnf
      refine ⟨rfl,rfl,rfl,(by rw [List.length_map]; exact Nat.le_refl _),(show (pend.length+1)*8≤150000000000000 by omega),fun q hq => ?_,?_⟩
      ·cases hq with
       | head=>exact Nat.ne_of_beq_eq_false rfl
       | tail _ h=>cases h
      conv=>whnf
      have hda:(pend.map nrow).take pend.length++[[ti (p:Nat)]]=(pend++[p]).map nrow:=by rw [List.take_of_length_le (by rw [List.length_map]; exact Nat.le_refl _),List.map_append]; rfl
      have hlen:pend.length+1=(pend++[p]).length:=by rw [List.length_append]; rfl
      exact ⟨([h],pend++[p],j+1),[0,1,2,_],[],Sub.mk' rfl ⟨.inl rfl,.inl rfl,⟨rfl,⟨rfl,rfl⟩,trivial⟩,⟨rfl,rfl⟩,.inl rfl,rfl,⟨rfl,hlen⟩,.inl rfl,.inl rfl,.inl rfl,.inl rfl,.inl (ti_succ hjL (by omega)),trivial⟩ ⟨⟨rfl,.inl rfl,trivial⟩,⟨rfl,rfl,rfl,rfl⟩,⟨rfl,(mput_mapE S h).trans (congrArg mapE hS)⟩,⟨rfl,rfl,rfl,hda⟩,trivial⟩ rfl rfl,⟨hjL,by show (pend++[p]).length≤j+1; omega,hB2⟩,by show L.length - (j+1)<L.length - j; omega⟩
     ·have hct:=hdm h p hrp false ⟨fun w=>(by cases w),fun w=>absurd w hdm2⟩
      have hB2:=hB.skip hdm2
      rw [← htk] at hB2
      conv=>whnf
      refine acall.au [0] [] (hct) ?_
      intro _
      conv=>whnf
      exact ⟨(S,pend,j+1),[0,1,2,3],[],Sub.mk' rfl ⟨.inl rfl,.inl rfl,aut,⟨rfl,rfl⟩,.inl rfl,rfl,⟨rfl,rfl⟩,.inl rfl,.inl rfl,.inl rfl,.inl rfl,.inl (ti_succ hjL (by omega)),trivial⟩ aut rfl rfl,⟨hjL,by show pend.length≤j+1; omega,hB2⟩,by show L.length - (j+1)<L.length - j; omega⟩
   ·have hjt:L.length≤j:=by have:decide ((j:Int)<(L.length:Int))=false:=hjt; have:=of_decide_eq_false this; omega
    rw [List.take_of_length_le hjt] at hB
    have hI:=hbf S pend hB
    clear hB hbf
    conv=>whnf
    refine ⟨fun _ => ?_,fun h=>absurd rfl h⟩
    conv=>whnf
    have hmu0:(N - S.length)*(N+1)+pend.length≤20000000:=by
     have h1:(N - S.length)*(N+1)≤4096*4097:=Nat.mul_le_mul (by omega) (by omega)
     omega
    clear hpj hBh hbl2h haNh hL
    refine LoopL.by (fun x:List Nat × List Nat × Nat=>⟨[(4,.tr (boolsT RC)),(5,.tr (listsT A)),(6,.fn 66 [.ptr 0 0]),(7,.sl 1 N),(9,.mp 2),(10,.sl 3 x.2.2),(32,.tr (ti N)),(33,.tr (ti h))],[(0,.cells 62 [.tr (intsT IL)]),(1,natsB (depthI f N h)),(2,inB x.1),(3,natsB x.2.1)],10⟩) (fun x=>x.2.2≤x.2.1.length∧LoopI f h x.1 (x.2.1.take x.2.2)∧(N - x.1.length)*(N+1)+x.2.2≤20000000) (fun x=>(N - x.1.length)*(N+1)+x.2.2) (S,pend,pend.length) [0,1,2,3] []
     (Sub.mk' rfl aut aut rfl rfl) ⟨Nat.le_refl _,by show LoopI f h S (pend.take pend.length); rw [List.take_length]; exact hI,hmu0⟩ ?_
    clear hI hmu0 hj
    rintro ⟨S,rows,k⟩ ⟨hk,hI,hmu⟩ -
    simp only at hk hI hmu
    conv=>whnf
    refine csplit (fun hk0 => ?_) (fun hk0 => ?_)
    ·have hk0:0<k:=by have:decide ((k:Int) > 0)=true:=hk0; have:=of_decide_eq_true this; omega
     have hk1:IntKind.i64.wrap ((k:Int) - 1)=((k - 1:Nat):Int):=by rw [w64 (by omega) (by omega)]; omega
     obtain ⟨n,hn⟩ : ∃ n,rows[k - 1]? = some n:=⟨_,List.getElem?_eq_getElem (by omega)⟩
     have hp : ∀ x,x ∈ rows.take k↔x=n∨x ∈ rows.take (k - 1):=fun x=>by
      have:rows.take k=rows.take (k - 1)++[n]:=by
       conv=>lhs; rw [show k=(k - 1)+1 by omega,List.take_add_one,hn]
       rfl
      rw [this,List.mem_append,List.mem_singleton]
      exact Or.comm
     have hnr:Rch f (-1) n:=LoopI.rch hr (hI.okp n ((hp n).2 (.inl rfl)))
     have hnN:=hrN n hnr
     conv=>whnf
     rw [hk1]
     refine ⟨rfl,(show (0:Int)≤((k - 1:Nat):Int) by omega),(show ((k - 1:Nat):Int)<(k:Int) by omega),?_⟩
     conv=>whnf
     refine ⟨rfl,(by show k - 1<(rows.map nrow).length; rw [List.length_map]; omega),fun row hrow => ?_⟩
     obtain ⟨d,hd,rfl⟩:=nrow_get hrow
     obtain rfl:=Option.some.inj (hn.symm.trans hd)
     clear hrow hd
     refine ⟨(show 0<1 by decide),fun t ht => ?_⟩
     cases ht
     conv=>whnf
     rw [hk1]
     refine ⟨(show (0:Int)≤((k - 1:Nat):Int) by omega),(show ((k - 1:Nat):Int)≤(k:Int) by omega),?_⟩
     conv=>whnf
     have hlk:(mget (mapE (S,rows,k).fst) (.ki .i64 (n:Int))).getD (Tr.v Z.b.val)=tb (S.contains n):=by
      show (mget (mapE S) (.ki .i64 (n:Int))).getD (Tr.v Z.b.val)=tb (S.contains n)
      rw [mget_mapE]
      cases S.contains n <;> rfl
     rw [hlk]
     cases hcon:S.contains n with
     | true =>
      have hI2:=hI.seen hp (List.contains_iff_mem.1 hcon)
      conv=>whnf
      refine ⟨fun _ => ?_,fun h=>absurd rfl h⟩
      conv=>whnf
      exact ⟨(S,rows,k - 1),[0,1,2,3],[],Sub.mk' rfl aut aut rfl rfl,⟨by show k - 1≤rows.length; omega,hI2,by show (N - S.length)*(N+1)+(k - 1)≤20000000; omega⟩,by show (N - S.length)*(N+1)+(k - 1)<(N - S.length)*(N+1)+k; omega⟩
     | false =>
      have hnS:n ∉ S:=fun w=>by rw [List.contains_iff_mem.2 w] at hcon; cases hcon
      have hJ:=hI.take hp hnS
      have hS1:S.length+1≤N:=by
       have:=nodup_len N (S++[n]) hJ.nd (fun x hx=>hrN x (LoopI.rch hr (hJ.ok x hx)))
       rw [List.length_append] at this
       exact this
      have hmS:mput (mapE S) (.ki .i64 (n:Int)) (tb true)=mapE (S++[n]):=by rw [mput_mapE,hcon]; rfl
      have hjf:=hjf h
      have haNn:=haN n
      have hBn:=hBl n
      have hbl2n:=hbl2 n
      obtain ⟨C,hC⟩ : ∃ C,(N - (S++[n]).length)*(N+1)=C:=⟨_,rfl⟩
      have hC2:(N - S.length)*(N+1)=C+(N+1):=by
       rw [← hC,← Nat.succ_mul]
       congr 1
       rw [List.length_append,List.length_singleton]
       omega
      rw [hC2] at hmu
      conv=>whnf
      refine ⟨rfl,(show (0:Int)≤n by omega),(by show (n:Int)<((A.map lrow).length:Int); rw [List.length_map,hall]; omega),fun row hrow => ?_⟩
      obtain ⟨d,hd,rfl⟩:=lrow_get hrow
      obtain rfl:=Option.some.inj ((hal n hnN).symm.trans hd)
      clear hrow hd
      have hfin:=fun S pend=>hjf S pend n
      obtain ⟨L,hL⟩ : ∃ L,B n=L:=⟨_,rfl⟩
      rw [hL] at hfin haNn hBn hbl2n
      conv=>whnf
      refine LoopL.by (fun x:List Nat × Nat × Nat=>⟨[(4,.tr (boolsT RC)),(5,.tr (listsT A)),(6,.fn 66 [.ptr 0 0]),(7,.sl 1 N),(9,.mp 2),(10,.sl 3 x.2.1),(32,.tr (ti N)),(33,.tr (ti h)),(90,.tr (natsT L)),(91,.tr (ti L.length)),(92,.tr (ti x.2.2))],[(0,.cells 62 [.tr (intsT IL)]),(1,natsB (depthI f N h)),(2,inB (S++[n])),(3,natsB x.1)],10⟩) (fun x=>x.2.1≤x.1.length∧x.2.2≤L.length∧LoopJ f h (S++[n]) (x.1.take x.2.1) n (L.take x.2.2)∧C+x.2.1+(L.length - x.2.2)<C+(N+1)+k) (fun x=>L.length - x.2.2) (rows,k - 1,0) [0,1,2,3] []
       (Sub.mk' rfl ⟨.inl rfl,.inl rfl,aut,⟨rfl,rfl⟩,rfl,⟨rfl,rfl⟩,.inl rfl,.inl rfl,.inl (by rw [hL]),.inl (by rw [← hbl2n,hL]),.inl rfl,trivial⟩ ⟨aut,aut,⟨rfl,hmS⟩,aut,trivial⟩ rfl rfl) ⟨by show k - 1≤rows.length; omega,Nat.zero_le _,hJ,by show C+(k - 1)+(L.length - 0)<C+(N+1)+k; omega⟩ ?_
      clear hJ hI hp hn hlk
      rintro ⟨r2,k2,j⟩ ⟨hk2,hj,hJ,hmj⟩ -
      simp only at hk2 hj hJ hmj
      conv=>whnf
      refine csplit (fun hjt => ?_) (fun hjt => ?_)
      ·have hjL:j<L.length:=by have:decide ((j:Int)<(L.length:Int))=true:=hjt; have:=of_decide_eq_true this; omega
       clear hjt
       obtain ⟨p,hp⟩ : ∃ p,L[j]? = some p:=⟨_,List.getElem?_eq_getElem hjL⟩
       obtain ⟨hpN,hnp⟩:=haNn p (List.mem_of_getElem? hp)
       have htk:L.take (j+1)=L.take j++[p]:=by rw [List.take_add_one,hp]; rfl
       obtain ⟨c,hc⟩ : ∃ c,RC[p]? = some c:=⟨_,List.getElem?_eq_getElem (by omega)⟩
       conv=>whnf
       refine ⟨rfl,(show (0:Int)≤j by omega),(by show (j:Int)<((((L.map fun (x:Nat)=>(x:Int))).map irow).length:Int); rw [hbl2n]; omega),fun row hrow => ?_⟩
       obtain ⟨d,hd,rfl⟩:=natsT_get hrow
       obtain rfl:=Option.some.inj (hp.symm.trans hd)
       clear hrow hd
       conv=>whnf
       refine ⟨rfl,(show (0:Int)≤p by omega),(by show (p:Int)<((RC.map brow).length:Int); rw [List.length_map]; omega),fun row hrow => ?_⟩
       obtain ⟨d,hd,rfl⟩:=brow_get hrow
       obtain rfl:=Option.some.inj (hc.symm.trans hd)
       clear hrow hd
       cases c with
       | false =>
        have hnrp : ¬ Rch f (-1) p:=fun w=>by rw [(hrc p hpN).2 w] at hc; cases hc
        have hJ2:=hJ.skip hnrp
        rw [← htk] at hJ2
        conv=>whnf
        exact ⟨(r2,k2,j+1),[0,1,2,3],[],Sub.mk' rfl ⟨.inl rfl,.inl rfl,aut,⟨rfl,rfl⟩,rfl,⟨rfl,rfl⟩,.inl rfl,.inl rfl,.inl rfl,.inl rfl,.inl (ti_succ hjL (by omega)),trivial⟩ aut rfl rfl,⟨hk2,hjL,hJ2,by show C+k2+(L.length - (j+1))<C+(N+1)+k; omega⟩,by show L.length - (j+1)<L.length - j; omega⟩
       | true =>
        have hrp:Rch f (-1) p:=(hrc p hpN).1 hc
        have hlen:(r2.take k2++[p]).length=k2+1:=by rw [List.length_append,List.length_take]; simp; omega
        have hJ2:=hJ.push (pend':=(r2.take k2++[p]).take (k2+1)) (by simp) hrp hnp (fun x=>by rw [List.take_of_length_le (by rw [hlen]; exact Nat.le_refl _),List.mem_append,List.mem_singleton]; exact Or.comm)
        rw [← htk] at hJ2
        conv=>whnf
        refine ⟨rfl,rfl,rfl,(by rw [List.length_map]; exact hk2),(show (k2+1)*8≤150000000000000 by omega),fun q hq => ?_,?_⟩
        ·cases hq with
         | head=>exact Nat.ne_of_beq_eq_false rfl
         | tail _ h=>cases h
        conv=>whnf
        have hda:(r2.map nrow).take k2++[[ti (p:Nat)]]=(r2.take k2++[p]).map nrow:=by rw [List.map_append,List.map_take]; rfl
        exact ⟨(r2.take k2++[p],k2+1,j+1),[0,1,2,_],[],Sub.mk' rfl ⟨.inl rfl,.inl rfl,⟨rfl,⟨rfl,rfl⟩,trivial⟩,⟨rfl,rfl⟩,rfl,⟨rfl,rfl⟩,.inl rfl,.inl rfl,.inl rfl,.inl rfl,.inl (ti_succ hjL (by omega)),trivial⟩ ⟨⟨rfl,.inl rfl,trivial⟩,⟨rfl,rfl,rfl,rfl⟩,⟨rfl,rfl⟩,⟨rfl,rfl,rfl,hda⟩,trivial⟩ rfl rfl,⟨by show k2+1≤(r2.take k2++[p]).length; omega,hjL,hJ2,by show C+(k2+1)+(L.length - (j+1))<C+(N+1)+k; omega⟩,by show L.length - (j+1)<L.length - j; omega⟩
      ·have hjt:L.length≤j:=by have:decide ((j:Int)<(L.length:Int))=false:=hjt; have:=of_decide_eq_false this; omega
       rw [List.take_of_length_le hjt] at hJ
       have hI2:=hfin _ _ hJ
       conv=>whnf
       refine ⟨fun _ => ?_,fun h=>absurd rfl h⟩
       conv=>whnf
       refine ⟨(S++[n],r2,k2),[0,1,2,3],[],Sub.mk' rfl aut aut rfl rfl,⟨hk2,hI2,?_⟩,?_⟩
       ·show (N - (S++[n]).length)*(N+1)+k2≤20000000
        rw [hC]; omega
       ·show (N - (S++[n]).length)*(N+1)+k2<(N - S.length)*(N+1)+k
        rw [hC,hC2]; omega
    ·have hk0:k=0:=by have:decide ((k:Int) > 0)=false:=hk0; have:=of_decide_eq_false this; omega
     subst hk0
     conv=>whnf
     refine ⟨fun _ => ?_,fun h=>absurd rfl h⟩
     conv=>whnf
     have hS:=hI.fin
     have hnd:=hI.nd
     have hSN : ∀ (i x:Nat),S[i]? = some x→x<N:=fun i x hx=>hrN x (LoopI.rch hr ((hS x).1 (List.mem_of_getElem? hx)))
     clear hI
     refine LoopL.by (fun seen:List Nat=>⟨[(4,.tr (boolsT RC)),(5,.tr (listsT A)),(6,.fn 66 [.ptr 0 0]),(7,.sl 1 N),(32,.tr (ti N)),(33,.tr (ti h)),(106,.ptr 3 0)],[(0,.cells 62 [.tr (intsT IL)]),(1,natsB (outS (depthN f h) S seen N)),(2,inB S),(3,.itr 2 S.length seen)],10⟩) (fun seen=>seen.Nodup ∧ ∀ i ∈ seen,i<S.length) (fun seen=>S.length - seen.length) [] [0,1,2,_] []
      (Sub.mk' rfl ⟨.inl rfl,.inl rfl,⟨rfl,⟨rfl,rfl⟩,trivial⟩,⟨rfl,rfl⟩,.inl rfl,.inl rfl,⟨rfl,rfl⟩,trivial⟩ ⟨⟨rfl,.inl rfl,trivial⟩,⟨rfl,rfl,rfl,by rw [outS_nil]; rfl⟩,⟨rfl,rfl⟩,⟨rfl,mapE_len S,rfl⟩,trivial⟩ rfl rfl) ⟨List.nodup_nil,fun i hi=>by cases hi⟩ ?_
     rintro seen ⟨hsn,hsl⟩ -
     conv=>whnf
     refine next_region (es:=mapE S) rfl rfl rfl rfl (mapE_len S).symm (fun p hp => ?_) rfl rfl (by decide) (fun hall => ?_) (fun i q t hi hq => ?_)
     ·obtain ⟨x,hx,rfl⟩:=List.mem_map.1 hp
      have hxN:=hrN x (LoopI.rch hr ((hS x).1 hx))
      exact ⟨(show (-9223372036854775808:Int)≤(x:Int) by omega),(show (x:Int)≤9223372036854775807 by omega)⟩
     ·have he:=outS_fin (N:=N) hS hall
      conv=>whnf
      refine ⟨fun _ => ?_,fun h=>absurd rfl h⟩
      conv=>whnf
      exact ⟨h+1,[0,1],[],Sub.mk' rfl ⟨.inl rfl,.inl rfl,aut,⟨rfl,rfl⟩,.inl rfl,.inl (ti_succ hht (by omega)),trivial⟩ ⟨aut,⟨rfl,rfl,rfl,by rw [he]⟩,trivial⟩ rfl rfl,hht,by show N - (h+1)<N - h; omega⟩
     ·obtain ⟨x,hx,rfl,rfl⟩:=mapE_at hq
      have hxN:=hSN i x hx
      obtain ⟨ho1,ho2⟩:=outS_step (D:=depthN f h) hnd hx hxN hi
      have hDl:=depthN_le f h x
      have hol:(outS (depthN f h) S seen N).length=N:=outS_len ..
      have hiS:i<S.length:=(List.getElem?_eq_some_iff.1 hx).1
      have hsn2:(seen++[i]).Nodup:=List.nodup_append.2 ⟨hsn,by simp,fun a ha b hb=>by rw [List.mem_singleton.1 hb]; exact fun e=>hi (e ▸ ha)⟩
      have hsl2 : ∀ a ∈ seen++[i],a<S.length:=fun a ha=>(List.mem_append.1 ha).elim (hsl a) fun w=>by rw [List.mem_singleton.1 w]; exact hiS
      have hlt2:=nodup_len S.length (seen++[i]) hsn2 hsl2
      rw [List.length_append] at hlt2
      have hlt2:seen.length+1≤S.length:=hlt2
      conv=>whnf
      refine ⟨(mapE_len S).symm,seen,i,rfl,_,_,hq,⟨(show (-9223372036854775808:Int)≤(x:Int) by omega),(show (x:Int)≤9223372036854775807 by omega)⟩,?_⟩
      conv=>whnf
      refine ⟨rfl,(show (0:Int)≤x by omega),(show (x:Int)<(N:Int) by omega),?_⟩
      conv=>whnf
      refine ⟨rfl,(by show x<((outS (depthN f h) S seen N).map nrow).length; rw [List.length_map]; omega),fun row hrow => ?_⟩
      obtain ⟨d,hd,rfl⟩:=nrow_get hrow
      obtain rfl:=Option.some.inj (ho1.symm.trans hd)
      clear hrow hd
      refine ⟨(show 0<1 by decide),fun t ht => ?_⟩
      cases ht
      conv=>whnf
      refine ⟨rfl,(show (0:Int)≤x by omega),(show (x:Int)<(N:Int) by omega),?_⟩
      conv=>whnf
      refine ⟨rfl,rfl,(by show x<((outS (depthN f h) S seen N).map nrow).length; rw [List.length_map]; omega),fun row hrow => ?_⟩
      obtain ⟨d,hd,rfl⟩:=nrow_get hrow
      obtain rfl:=Option.some.inj (ho1.symm.trans hd)
      clear hrow hd
      refine ⟨(show 0+1≤1 by decide),?_⟩
      conv=>whnf
      have hw:IntKind.i64.wrap (((depthN f h x:Nat):Int)+1)=((depthN f h x+1:Nat):Int):=by rw [w64 (by omega) (by omega)]; omega
      refine ⟨seen++[i],[0,1,2,3],[],Sub.mk' rfl aut ⟨aut,⟨rfl,rfl,rfl,?_⟩,⟨rfl,rfl⟩,aut,trivial⟩ rfl rfl,⟨hsn2,hsl2⟩,?_⟩
      ·rw [hw,ho2]; exact nrow_set _ x _ _
      ·show S.length - (seen++[i]).length<S.length - seen.length
       rw [List.length_append,List.length_singleton]; omega
 ·have hht:h=N:=by have:decide ((h:Int)<(N:Int))=false:=hht; have:=of_decide_eq_false this; omega
  subst hht
  conv=>whnf
  refine ⟨fun _ => ?_,fun h=>absurd rfl h⟩
  conv=>whnf
  exact ⟨⟨rfl,(by show h≤((depthI f h h).map nrow).length; rw [List.length_map,depthI_len]; exact Nat.le_refl _),(by show natsT (depthL f h)=Tr.lst 1 8 (((depthI f h h).map nrow).take h); rw [List.take_of_length_le (by rw [List.length_map,depthI_len]; exact Nat.le_refl _)]; exact natsT_nrow _)⟩,trivial⟩
end Go.Proofs.YthboippafkcoiaaGreatDoor.am
namespace Go.Proofs.YthboippafkcoiaaGreatDoor.am
open Go Go.Proofs
set_option linter.all false
def allP {α:Type} (r:α→α→Prop):List α→List α→Prop
 | [],[]=>True
 | a::l,a'::l'=>r a a'∧allP r l l'
 | _,_=>False
theorem allP_get {α:Type} {r:α→α→Prop} : ∀ {l l':List α},allP r l l'→l.length=l'.length ∧ ∀ (i:Nat) (t':α),l'[i]? = some t' → ∃ t,l[i]? = some t∧r t t'
 | [],[],_=>⟨rfl,fun i t h=>by simp at h⟩
 | a::l,a'::l',h=>by
  obtain ⟨h1,h2⟩:=allP_get h.2
  refine ⟨by simp [h1],fun i t hi => ?_⟩
  cases i with
  | zero=>simp at hi; subst hi; exact ⟨a,rfl,h.1⟩
  | succ i=>exact h2 i t (by simpa using hi)
 | [],_::_,h=>h.elim
 | _::_,[],h=>h.elim
def nlD:Nat→Tr→Tr→Prop
 | 0,t,t'=>t=t'
 | k+1,.lst n B rows,.lst n' B' rows'=>n=n'∧B=B'∧allP (allP (nlD k)) rows rows'
 | _+1,t,t'=>nl1 t t'
theorem RepT.nlD {ok:Nat→Prop} {w:World} : ∀ (k:Nat) {x:Value} {t t':Tr},am.nlD k t t'→RepT ok w x t→RepT ok w x t'
 | 0,x,t,t',h,hr=>by cases h; exact hr
 | k+1,x,t,t',h,hr=>by
  have one:nl1 t t'→RepT ok w x t':=fun h=>by
   rcases h with rfl | ⟨rfl,n,B,rfl⟩
   ·exact hr
   ·exact hr.nil n B
  unfold am.nlD at h
  split at h
  ·rename_i e; cases e
  ·rename_i k' n B rows n' B' rows' e
   cases e
   obtain ⟨rfl,rfl,h⟩:=h
   obtain ⟨hl,hg⟩:=allP_get h
   cases hr with
   | lst f h1 h2 h3 h4 h5 h6 h7 =>
    refine .lst f (by rw [← hl]; exact h1) h2 h3 h4 h5 (fun i row hi => ?_) (fun i row j t hi hj => ?_)
    ·obtain ⟨row0,r1,r2⟩:=hg i row hi
     obtain ⟨q1,q2⟩:=h6 i row0 r1
     exact ⟨by rw [← (allP_get r2).1]; exact q1,q2⟩
    ·obtain ⟨row0,r1,r2⟩:=hg i row hi
     obtain ⟨t0,s1,s2⟩:=(allP_get r2).2 j t hj
     exact RepT.nlD k s2 (h7 i row0 j t0 r1 s1)
  ·exact one h
def nlAV (k:Nat):List AV→List AV→Prop
 | [],[]=>True
 | .tr t::l,.tr t'::l'=>nlD k t t'∧nlAV k l l'
 | _,_=>False
theorem nlAV_get {k:Nat} : ∀ {l l':List AV},nlAV k l l'→l.length=l'.length ∧ ∀ (i:Nat) (a':AV),l'[i]? = some a' → ∃ t t',l[i]? = some (.tr t)∧a' = .tr t'∧nlD k t t'
 | [],[],_=>⟨rfl,fun i t h=>by simp at h⟩
 | .tr t::l,.tr t'::l',h=>by
  obtain ⟨h1,h2⟩:=nlAV_get h.2
  refine ⟨by simp [h1],fun i a hi => ?_⟩
  cases i with
  | zero=>simp at hi; subst hi; exact ⟨t,t',rfl,rfl,h.1⟩
  | succ i=>exact h2 i a (by simpa using hi)
theorem Rep.nlAV {g:Gh} {w:World} {v:Value} {k:Nat} {l l':List AV} (h:am.nlAV k l l') (hr:Rep g w v (.agg l)):Rep g w v (.agg l'):=by
 obtain ⟨hl,hg⟩:=nlAV_get h
 cases hr with
 | agg h1 h2 h3 =>
  refine .agg (by rw [← hl]; exact h1) (fun a ha => ?_) (fun i c a hc ha => ?_)
  ·obtain ⟨i,hi⟩:=List.mem_iff_getElem?.1 ha
   obtain ⟨t,t',_,rfl,_⟩:=hg i a hi
   rfl
  ·obtain ⟨t,t',q1,rfl,q2⟩:=hg i a ha
   have:=h3 i c _ hc q1
   cases this with
   | tr hq=>exact .tr (hq.nlD k q2)
theorem Ctr.res {P:Program} {f:Nat} {args:List AV} {bin:List Blk} {a a':AV} {bout:List (Option Blk)} (h:Ctr P f args bin (.ret a) bout) (hc : ∀ (g:Gh) (w:World) (v:Value),Rep g w v a→Rep g w v a'):Ctr P f args bin (.ret a') bout :=
 ⟨h.callable,fun g w vs h1 h2 h3 h4=>(h.run g w vs h1 h2 h3 h4).mono fun e w' ⟨g',q1,q2,q3,q4⟩=>⟨g',q1,q2,q3,by
  cases e with
  | returned v=>exact hc g' w' v q4
  | _=>exact q4⟩⟩
def leafB (rows:List (List Tr)):Bool:=rows.all fun r=>r.all fun t=>match t with | .v _=>true | _=>false
theorem leafR_of {rows:List (List Tr)} (h:leafB rows=true):leafR rows:=fun row hr t ht=>by
 have:=List.all_eq_true.1 (List.all_eq_true.1 h row hr) t ht
 cases t with
 | v x=>exact ⟨x,rfl⟩
 | lst n B r=>cases this
def e0:Expr := .mk 2 0 0 ⟨#[120]⟩ [] 0
def b0:Stmt := .mk 7 ⟨#[]⟩ ⟨#[]⟩ [] [] [] 0
def w0:Stmt := .mk 4 ⟨#[]⟩ ⟨#[]⟩ [e0] [b0] [] 0
def p0:Prg:=⟨[⟨⟨#[120]⟩,0,0⟩],[],[⟨⟨#[97]⟩,[],[w0],0⟩]⟩
abbrev nilT:Tr := .v (.slice none 0 0)
def raw0:List AV:=[.tr (declsT p0.shared),.tr nilT,.tr (.lst 4 72 [[ts ⟨#[97]⟩,nilT,.lst 7 120 [[tu 4,ts ⟨#[]⟩,ts ⟨#[]⟩,.lst 6 64 [[tu 2,tu 0,ti 0,ts ⟨#[120]⟩,nilT,ti 0]],.lst 7 120 [[tu 7,ts ⟨#[]⟩,ts ⟨#[]⟩,nilT,nilT,nilT,ti 0]],nilT,ti 0]],ti 0]])]
set_option maxRecDepth 100000 in
theorem k_loopR:K 51 [] [] (.ret (.agg raw0)) []:=by
 refine Ctr.pk [] hT hmix Tryz.func51 rfl (fun _ _=>by kernel_rfl) rfl fun hok => ?_
 clear hok
 conv=>whnf
 refine ⟨[11,11,13],?_⟩
 conv=>whnf
 refine ⟨rfl,rfl,by decide,leafR_of rfl,?_⟩
 conv=>whnf
 refine ⟨rfl,rfl,by decide,leafR_of rfl,?_⟩
 conv=>whnf
 refine ⟨rfl,rfl,by decide,?_⟩
 exact ⟨[],rfl,rfl,⟨⟨rfl,by decide,rfl⟩,.inl rfl,⟨rfl,by decide,rfl⟩,trivial⟩,trivial⟩
theorem k_loop0:K 51 [] [] (.ret p0.av) []:=k_loopR.res fun g w v h=>h.nlAV (k:=9) (by simp [nlAV,nlD,allP,nl1,raw0,p0,w0,e0,b0,Expr.rows,Stmt.rows,Expr.cells,Stmt.cells,Thread.cells,Decl.cells])
end Go.Proofs.YthboippafkcoiaaGreatDoor.am
namespace Go.Proofs.YthboippafkcoiaaGreatDoor.am
open Go Go.Proofs
set_option linter.all false
abbrev ndsB (l:List Nd):Blk := .vec 75 13 96 (l.map Nd.cells)
abbrev nilA:AV := .tr nilT
abbrev setN (n:Nd) (x:Int):Nd := { n with next:=x }
abbrev setE (n:Nd) (x:Int):Nd := { n with els:=x }
abbrev setO (n:Nd) (x:Int):Nd := { n with origin:=x }
end Go.Proofs.YthboippafkcoiaaGreatDoor.am
namespace Go.Proofs.YthboippafkcoiaaGreatDoor.am
open Go Go.Proofs
set_option linter.all false
abbrev valA (s:Bool) (k w:Int):AV := .agg [.tr (tb s),.tr (ti k),.tr (ti w)]
set_option maxRecDepth 100000 in
theorem k_in (k:Int):K 135 [.tr (ti k)] [] (.ret (valA true k 0)) []:=by
 refine Ctr.of hT hmix Tryz.func135 rfl (fun _ _=>by kernel_rfl) rfl fun hok => ?_
 clear hok
 conv=>whnf
 exact aut
abbrev v0:Val:=⟨false,0,0⟩
abbrev vS (k:Int):Val:=⟨true,k,0⟩
def nd0:Nd:=⟨2,0,0,0,v0,v0,0,0,0⟩
abbrev xS:ByteArray:=⟨#[120]⟩
abbrev aS:ByteArray:=⟨#[97]⟩
def nd0a:Nd:=setN nd0 1
def brI:Nd:=⟨8,0,0,0,vS 0,v0,0,0,0⟩
def br0:Nd:=setO brI 1
abbrev graphsT (l:List Gr):Tr := .lst 4 56 (l.map Gr.cells)
def br0e:Nd:=setE br0 2
def enI:Nd:=⟨9,0,0,0,v0,v0,0,0,0⟩
def en0:Nd:=setO enI 2
def g0:Gr:=⟨aS,0,1,[nd0a,br0e,en0]⟩
abbrev S1:List (Nat × AV):=[(27,.tr (threadsT p0.threads)),(28,.tr (ti 1)),(29,.tr (ti 0))]
end Go.Proofs.YthboippafkcoiaaGreatDoor.am
