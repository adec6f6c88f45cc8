/- Contracts of cfg: held. Contracts of cfg: Check. Plain: lowering, as the program does it; how many places are open. Contracts of cfg's lowering: -/
import Derived.Test.YthboippafkcoiaaDoorT9
import Derived.Test.YthboippafkcoiaaDoorT6
set_option linter.all false
namespace Go.Proofs.YthboippafkcoiaaDoor.am
open Go Go.Proofs
set_option linter.all false
abbrev HSt:=List (Option (List Int)) × List Nat
def hrow:Option (List Int)→List Tr
 | none=>[nilT]
 | some l=>[intsT l]
abbrev hB (lk:List (Option (List Int))):Blk := .vec 33 1 24 (lk.map hrow)
abbrev heT (lk:List (Option (List Int))):Tr := .lst 1 24 (lk.map hrow)
theorem hrow_get {l:List (Option (List Int))} {i:Nat} {row:List Tr} (h:(l.map hrow)[i]? = some row) : ∃ d,l[i]? = some d∧row=hrow d:=by
 rw [List.getElem?_map,Option.map_eq_some_iff] at h
 obtain ⟨d,h1,rfl⟩:=h
 exact ⟨d,h1,rfl⟩
def nowN (n:Nd) (l:List Int):Option (List Int) :=
 bif n.kind == 5 then some (l++[n.thing])
 else bif n.kind == 6 then (bif (l.length:Int) == 0 then none else bif l.getD (l.length - 1) 0 != n.thing then none else some (l.take (l.length - 1)))
 else bif n.kind == 9 then (bif decide ((l.length:Int) > 0) then none else some l)
 else some l
def lkAt (lk:List (Option (List Int))) (a:Nat):List Int:=(lk.getD a none).getD []
def inH (now:List Int):List Nat→HSt→HSt × Option Nat
 | [],s=>(s,none)
 | y::r,s=>bif s.2.contains y then (bif eqI2 (lkAt s.1 y) now then inH now r s else (s,some y)) else inH now r (s.1.set y (some now),s.2++[y])
def contH (F:HSt→Nat→List (Option (List Int)) × Int) (k:Nat):HSt × Option Nat→List (Option (List Int)) × Int
 | (_,some y)=>([],(y:Int))
 | (s,none)=>F s k
def outH (g:Gr):Nat→HSt→Nat→List (Option (List Int)) × Int
 | 0,_,_=>([],0)
 | f+1,s,k=>match s.2[k]? with
  | none=>(s.1,-1)
  | some a=>match g.nodes[a]? with
   | none=>([],0)
   | some n=>match nowN n (lkAt s.1 a) with
    | none=>([],(a:Int))
    | some now=>contH (outH g f) (k+1) (inH now (fol g a) s)
def heldR (g:Gr):List (Option (List Int)) × Int:=outH g (g.nodes.length+1) (List.replicate g.nodes.length none,[0]) 0
theorem nowN_len {n:Nd} {l now:List Int} (h:nowN n l=some now):now.length≤l.length+1:=by
 unfold nowN at h
 cases h5:(n.kind == 5) with
 | true=>rw [h5,cond_true] at h; cases h; rw [List.length_append]; exact Nat.le_refl _
 | false =>
 rw [h5,cond_false] at h
 cases h6:(n.kind == 6) with
 | true =>
  rw [h6,cond_true] at h
  cases h1:((l.length:Int) == 0) with
  | true=>rw [h1] at h; cases h
  | false =>
   rw [h1,cond_false] at h
   cases h2:(l.getD (l.length - 1) 0 != n.thing) with
   | true=>rw [h2] at h; cases h
   | false=>rw [h2] at h; cases h; rw [List.length_take]; omega
 | false =>
 rw [h6,cond_false] at h
 cases h9:(n.kind == 9) with
 | true =>
  rw [h9,cond_true] at h
  cases h1:decide ((l.length:Int) > 0) with
  | true=>rw [h1] at h; cases h
  | false=>rw [h1] at h; cases h; omega
 | false=>rw [h9] at h; cases h; omega
structure HInv (N k:Nat) (lk:List (Option (List Int))) (todo:List Nat):Prop where
 len:lk.length=N
 nd:todo.Nodup
 lt : ∀ x ∈ todo,x<N
 most : ∀ (a:Nat) l,lk[a]? = some (some l)→l.length≤k
theorem HInv.todo_len {N k:Nat} {lk:List (Option (List Int))} {todo:List Nat} (h:HInv N k lk todo):todo.length≤N:=nodup_len N todo h.nd h.lt
theorem HInv.at {N k:Nat} {lk:List (Option (List Int))} {todo:List Nat} (h:HInv N k lk todo) (a:Nat):(lkAt lk a).length≤k:=by
 unfold lkAt
 rw [List.getD_eq_getElem?_getD]
 cases e:lk[a]? with
 | none=>exact Nat.zero_le _
 | some o =>
  cases o with
  | none=>exact Nat.zero_le _
  | some l=>exact h.most a l e
theorem HInv.mono {N k k':Nat} {lk:List (Option (List Int))} {todo:List Nat} (h:HInv N k lk todo) (hk:k≤k'):HInv N k' lk todo:=⟨h.len,h.nd,h.lt,fun a l e=>Nat.le_trans (h.most a l e) hk⟩
theorem HInv.put {N k:Nat} {lk:List (Option (List Int))} {todo:List Nat} (h:HInv N k lk todo) {y:Nat} {now:List Int} (hy:y<N) (hn:y ∉ todo) (hl:now.length≤k):HInv N k (lk.set y (some now)) (todo++[y]) where
 len:=by rw [List.length_set]; exact h.len
 nd:=List.nodup_append.2 ⟨h.nd,by simp,fun a ha b hb=>by rw [List.mem_singleton.1 hb]; exact fun e=>hn (e ▸ ha)⟩
 lt:=fun x hx=>(List.mem_append.1 hx).elim (h.lt x) fun w=>by rw [List.mem_singleton.1 w]; exact hy
 most:=fun a l e=>by
  by_cases ha:a=y
  ·subst ha
   rw [List.getElem?_set_self (by rw [h.len]; exact hy)] at e
   cases e; exact hl
  ·rw [List.getElem?_set_ne (fun w=>ha w.symm)] at e
   exact h.most a l e
set_option maxRecDepth 100000 in
set_option maxHeartbeats 4000000 in
theorem k_heldR (g:Gr) (hW:Whole g):K 31 [g.av] [] (.ret (.tup [.tr (heT (heldR g).1),.tr (ti (heldR g).2)])) []:=by
 have hR:heldR g=outH g (g.nodes.length+1) (List.replicate g.nodes.length none,[0]) 0:=rfl
 generalize heldR g=R at hR ⊢
 have hpos:=hW.pos
 have hmo:=hW.most
 have hlt:=hW.lt
 have hfI:=hW.fol
 have hfl:=hW.len
 have hkind:=hW.kind
 clear hW
 have hO : ∀ f s k,outH g (f+1) s k=match s.2[k]? with
  | none=>(s.1,-1)
  | some a=>match g.nodes[a]? with
   | none=>([],0)
   | some n=>match nowN n (lkAt s.1 a) with
    | none=>([],(a:Int))
    | some now=>contH (outH g f) (k+1) (inH now (fol g a) s):=fun f s k=>rfl
 generalize outH g=OH at hR hO
 have hln:(g.nodes.map Nd.cells).length=g.nodes.length:=List.length_map ..
 obtain ⟨N,hNe⟩ : ∃ N,g.nodes.length=N:=⟨_,rfl⟩
 rw [hNe] at hR hpos hmo hlt hln
 refine Ctr.cut [10,20] hT hmix Tryd.func31 rfl (fun _ _=>by kernel_rfl) rfl fun hok => ?_
 clear hok
 conv=>whnf
 refine ⟨(by rw [hln]; omega),Int.le_refl _,(by rw [hln]; show (N:Int)*24≤_; omega),?_⟩
 conv=>whnf
 rw [hln,Int.toNat_natCast]
 refine LoopL.by (fun x:HSt × Nat=>⟨[(1,.ptr 0 0),(4,.sl 1 N),(5,.mp 2),(6,.sl 3 x.1.2.length),(7,.tr (ti (x.2:Nat)))],[(0,grBl g),(1,hB x.1.1),(2,inB x.1.2),(3,natsB x.1.2)],10⟩) (fun x=>HInv N x.2 x.1.1 x.1.2∧x.2≤x.1.2.length∧R=OH (N+1 - x.2) x.1 x.2) (fun x=>N+1 - x.2) ((List.replicate N none,[0]),0) [0,_,_,_] []
  (Sub.mk' rfl ⟨⟨rfl,rfl⟩,⟨rfl,rfl⟩,rfl,⟨rfl,rfl⟩,.inl rfl,trivial⟩ ⟨⟨rfl,.inl rfl,.inl rfl,.inl rfl,.inl rfl,trivial⟩,⟨rfl,rfl,rfl,by rw [List.map_replicate]; rfl⟩,⟨rfl,rfl⟩,⟨rfl,rfl,rfl,rfl⟩,trivial⟩ rfl rfl) ⟨⟨List.length_replicate ..,by simp,fun x hx=>by rw [List.mem_singleton.1 hx]; exact hpos,fun a l e=>by
   have e:(List.replicate N none)[a]? = some (some l):=e
   rw [List.getElem?_replicate] at e
   split at e <;> cases e⟩,Nat.zero_le _,hR⟩ ?_
 clear hR
 rintro ⟨⟨lk,todo⟩,k⟩ ⟨hI,hk,hR⟩ -
 simp only at hI hk hR
 have htl:=hI.todo_len
 have hlkl:=hI.len
 have hO1:=hO (N - k) (lk,todo) k
 rw [show N - k+1=N+1 - k by omega,← hR] at hO1
 clear hR
 conv=>whnf
 refine csplit (fun hkt => ?_) (fun hkt => ?_)
 ·have hkt:k<todo.length:=by have:decide ((k:Int)<(todo.length:Int))=true:=hkt; have:=of_decide_eq_true this; omega
  obtain ⟨a,ha⟩ : ∃ a,todo[k]? = some a:=⟨_,List.getElem?_eq_getElem hkt⟩
  have haN:=hI.lt a (List.mem_of_getElem? ha)
  obtain ⟨n,hn⟩ : ∃ n,g.nodes[a]? = some n:=⟨_,List.getElem?_eq_getElem (by omega)⟩
  obtain ⟨o,ho⟩ : ∃ o,lk[a]? = some o:=⟨_,List.getElem?_eq_getElem (by omega)⟩
  have hlk:lkAt lk a=o.getD []:=by unfold lkAt; rw [List.getD_eq_getElem?_getD,ho]; rfl
  have hO2:R=match nowN n (lkAt lk a) with
    | none=>([],(a:Int))
    | some now=>contH (OH (N - k)) (k+1) (inH now (fol g a) (lk,todo)):=by
   rw [hO1]
   show (match todo[k]? with | none=>_ | some a=>_)=_
   rw [ha]
   show (match g.nodes[a]? with | none=>_ | some n=>_)=_
   rw [hn]
  clear hO1
  have hl0:=hI.at a
  have hf:=k_follows n
  rw [hfI a n hn] at hf
  have hflt:=hlt a
  have hfl:=hfl a
  conv=>whnf
  refine ⟨rfl,(show (0:Int)≤k by omega),(show (k:Int)<(todo.length:Int) by omega),?_⟩
  conv=>whnf
  refine ⟨rfl,(by show k<(todo.map nrow).length; rw [List.length_map]; omega),fun row hrow => ?_⟩
  obtain ⟨d,hd,rfl⟩:=nrow_get hrow
  obtain rfl:=Option.some.inj (ha.symm.trans hd)
  clear hrow hd
  refine ⟨(show 0<1 by decide),fun t ht => ?_⟩
  cases ht
  conv=>whnf
  refine ⟨rfl,(show (0:Int)≤a by omega),(show (a:Int)<((g.nodes.map Nd.cells).length:Int) by omega),fun row hrow => ?_⟩
  obtain ⟨d,hd,rfl⟩:=nd_get hrow
  obtain rfl:=Option.some.inj (hn.symm.trans hd)
  clear hrow hd
  conv=>whnf
  refine CutL.by (fun _:Unit=>⟨[(1,.ptr 0 0),(4,.sl 1 N),(5,.mp 2),(6,.sl 3 todo.length),(7,.tr (ti (k:Nat))),(8,.tr (ti (a:Nat))),(9,.ptr 4 0),(10,.tr (intsT (lkAt lk a)))],[(0,grBl g),(1,hB lk),(2,inB todo),(3,natsB todo),(4,.cells 54 (n.cells.map .tr))],10⟩) (fun _=>True) ?_ ?_
  ·conv=>whnf
   refine ⟨rfl,(show (0:Int)≤a by omega),(show (a:Int)<(N:Int) by omega),?_⟩
   conv=>whnf
   refine ⟨rfl,(by show a<(lk.map hrow).length; rw [List.length_map]; omega),fun row hrow => ?_⟩
   obtain ⟨d,hd,rfl⟩:=hrow_get hrow
   obtain rfl:=Option.some.inj (ho.symm.trans hd)
   clear hrow hd
   cases o with
   | none =>
    refine ⟨(show 0<1 by decide),fun t ht => ?_⟩
    cases ht
    conv=>whnf
    exact ⟨(),[0,1,2,3,_],[],Sub.mk' rfl ⟨⟨rfl,rfl⟩,⟨rfl,rfl⟩,rfl,⟨rfl,rfl⟩,.inl rfl,.inl rfl,⟨rfl,rfl⟩,.inr ⟨rfl,1,8,by rw [hlk]; rfl⟩,trivial⟩ ⟨⟨rfl,.inl rfl,.inl rfl,.inl rfl,.inl rfl,trivial⟩,⟨rfl,rfl,rfl,rfl⟩,⟨rfl,rfl⟩,⟨rfl,rfl,rfl,rfl⟩,⟨rfl,.inl rfl,.inl rfl,.inl rfl,.inl rfl,.inl rfl,.inl rfl,.inl rfl,.inl rfl,.inl rfl,.inl rfl,.inl rfl,.inl rfl,.inl rfl,trivial⟩,trivial⟩ rfl rfl,trivial⟩
   | some l =>
    refine ⟨(show 0<1 by decide),fun t ht => ?_⟩
    cases ht
    conv=>whnf
    exact ⟨(),[0,1,2,3,_],[],Sub.mk' rfl ⟨⟨rfl,rfl⟩,⟨rfl,rfl⟩,rfl,⟨rfl,rfl⟩,.inl rfl,.inl rfl,⟨rfl,rfl⟩,.inl (by rw [hlk]; rfl),trivial⟩ ⟨⟨rfl,.inl rfl,.inl rfl,.inl rfl,.inl rfl,trivial⟩,⟨rfl,rfl,rfl,rfl⟩,⟨rfl,rfl⟩,⟨rfl,rfl,rfl,rfl⟩,⟨rfl,.inl rfl,.inl rfl,.inl rfl,.inl rfl,.inl rfl,.inl rfl,.inl rfl,.inl rfl,.inl rfl,.inl rfl,.inl rfl,.inl rfl,.inl rfl,trivial⟩,trivial⟩ rfl rfl,trivial⟩
  rintro - - -
  clear hlk ho
  generalize lkAt lk a=l0 at hO2 hl0
  have hll0:(l0.map irow).length=l0.length:=List.length_map ..
  have hcl:=k_cloneO l0 (by omega)
  have hlw : ∀ m:Nat,m=l0.length→0<m→IntKind.i64.wrap ((m:Int) - 1)=((m - 1:Nat):Int):=fun m e h=>by rw [w64 (by omega) (by omega)]; omega
  conv=>whnf
  refine CutL.by (fun now:List Int=>⟨[(1,.ptr 0 0),(4,.sl 1 N),(5,.mp 2),(6,.sl 3 todo.length),(7,.tr (ti (k:Nat))),(8,.tr (ti (a:Nat))),(9,.ptr 4 0),(10,.tr (intsT now))],[(0,grBl g),(1,hB lk),(2,inB todo),(3,natsB todo),(4,.cells 54 (n.cells.map .tr))],10⟩) (fun now=>nowN n l0=some now) ?_ ?_
  ·conv=>whnf
   cases h5:(n.kind == 5) with
   | true =>
    conv=>whnf
    refine acall.new [] [] _ _ _ _ (hcl) rfl rfl rfl rfl aut aut rfl rfl ?_
    conv=>whnf
    refine ⟨rfl,rfl,rfl,Nat.le_of_eq hll0.symm,(show (l0.length+1)*8≤150000000000000 by omega),fun q hq => ?_,?_⟩
    ·cases hq with
     | head=>exact Nat.ne_of_beq_eq_false rfl
     | tail _ h=>cases h
    conv=>whnf
    refine ⟨by kernel_rfl,fun _ => ?_⟩
    conv=>whnf
    have htk:(l0.map irow).take l0.length++[[ti n.thing]]=(l0++[n.thing]).map irow:=by rw [List.take_of_length_le (Nat.le_of_eq hll0),List.map_append]; rfl
    have hle:l0.length+1≤((l0.map irow).take l0.length++[[ti n.thing]]).length:=by rw [htk,List.length_map,List.length_append]; exact Nat.le_refl _
    have heq:intsT (l0++[n.thing])=Tr.lst 1 8 (((l0.map irow).take l0.length++[[ti n.thing]]).take (l0.length+1)):=by rw [htk,List.take_of_length_le (by rw [List.length_map,List.length_append]; exact Nat.le_refl _)]
    exact ⟨l0++[n.thing],[0,1,2,3,4],[],Sub.mk' rfl ⟨⟨rfl,rfl⟩,⟨rfl,rfl⟩,rfl,⟨rfl,rfl⟩,.inl rfl,.inl rfl,⟨rfl,rfl⟩,⟨rfl,hle,heq⟩,trivial⟩ ⟨⟨rfl,.inl rfl,.inl rfl,.inl rfl,.inl rfl,trivial⟩,⟨rfl,rfl,rfl,rfl⟩,⟨rfl,rfl⟩,⟨rfl,rfl,rfl,rfl⟩,⟨rfl,.inl rfl,.inl rfl,.inl rfl,.inl rfl,.inl rfl,.inl rfl,.inl rfl,.inl rfl,.inl rfl,.inl rfl,.inl rfl,.inl rfl,.inl rfl,trivial⟩,trivial⟩ rfl rfl,by unfold nowN; rw [h5]; rfl⟩
   | false =>
   conv=>whnf
   cases h6:(n.kind == 6) with
   | true =>
    conv=>whnf
    cases h7:(((l0.map irow).length:Int) == 0) with
    | true =>
     conv=>whnf
     refine ⟨by kernel_rfl,fun _ => ?_⟩
     conv=>whnf
     rw [hll0] at h7
     have hRf:R=([],(a:Int)):=by rw [hO2]; unfold nowN; rw [h5,h6,h7]; rfl
     exact ⟨⟨.inr ⟨rfl,1,24,by rw [hRf]; rfl⟩,.inl (by rw [hRf]),trivial⟩,trivial⟩
    | false =>
    have h0:0<l0.length:=by
     have:=beq_eq_false_iff_ne.1 h7
     omega
    rw [hll0] at h7
    have hw1:=hlw _ hll0 (by omega)
    conv=>whnf
    rw [hw1]
    refine ⟨rfl,(show (0:Int)≤(((l0.map irow).length - 1:Nat):Int) by omega),(show (((l0.map irow).length - 1:Nat):Int)<((l0.map irow).length:Int) by omega),fun row hrow => ?_⟩
    obtain ⟨d,hd,rfl⟩:=int_get hrow
    replace hd:l0[l0.length - 1]? = some d:=by rw [← hll0]; exact hd
    have hgd:l0.getD (l0.length - 1) 0=d:=by rw [List.getD_eq_getElem?_getD,hd]; rfl
    clear hrow hd
    conv=>whnf
    refine ⟨by kernel_rfl,fun _ => ?_⟩
    conv=>whnf
    cases hne:(d != n.thing) with
    | true =>
     conv=>whnf
     have hRf:R=([],(a:Int)):=by rw [hO2]; unfold nowN; rw [h5,h6,h7,hgd,hne]; rfl
     exact ⟨⟨.inr ⟨rfl,1,24,by rw [hRf]; rfl⟩,.inl (by rw [hRf]),trivial⟩,trivial⟩
    | false =>
     conv=>whnf
     rw [hw1]
     refine ⟨rfl,Int.le_refl _,(show (0:Int)≤(((l0.map irow).length - 1:Nat):Int) by omega),(show (((l0.map irow).length - 1:Nat):Int)≤((l0.map irow).length:Int) by omega),?_⟩
     conv=>whnf
     exact ⟨l0.take (l0.length - 1),[0,1,2,3,4],[],Sub.mk' rfl ⟨⟨rfl,rfl⟩,⟨rfl,rfl⟩,rfl,⟨rfl,rfl⟩,.inl rfl,.inl rfl,⟨rfl,rfl⟩,.inl (by show (Tr.lst 1 8 (((l0.map irow).take ((l0.map irow).length - 1)).drop 0))=(Tr.lst 1 8 ((l0.take (l0.length - 1)).map irow)); rw [List.drop_zero,hll0,List.map_take]),trivial⟩ ⟨⟨rfl,.inl rfl,.inl rfl,.inl rfl,.inl rfl,trivial⟩,⟨rfl,rfl,rfl,rfl⟩,⟨rfl,rfl⟩,⟨rfl,rfl,rfl,rfl⟩,⟨rfl,.inl rfl,.inl rfl,.inl rfl,.inl rfl,.inl rfl,.inl rfl,.inl rfl,.inl rfl,.inl rfl,.inl rfl,.inl rfl,.inl rfl,.inl rfl,trivial⟩,trivial⟩ rfl rfl,by unfold nowN; rw [h5,h6,h7,hgd,hne]; rfl⟩
   | false =>
   conv=>whnf
   cases h9:(n.kind == 9) with
   | true =>
    conv=>whnf
    cases h7:decide (((l0.map irow).length:Int) > 0) with
    | true =>
     conv=>whnf
     rw [hll0] at h7
     have hRf:R=([],(a:Int)):=by rw [hO2]; unfold nowN; rw [h5,h6,h9,h7]; rfl
     exact ⟨⟨.inr ⟨rfl,1,24,by rw [hRf]; rfl⟩,.inl (by rw [hRf]),trivial⟩,trivial⟩
    | false =>
     conv=>whnf
     exact ⟨l0,[0,1,2,3,4],[],Sub.mk' rfl ⟨⟨rfl,rfl⟩,⟨rfl,rfl⟩,rfl,⟨rfl,rfl⟩,.inl rfl,.inl rfl,⟨rfl,rfl⟩,.inl rfl,trivial⟩ ⟨⟨rfl,.inl rfl,.inl rfl,.inl rfl,.inl rfl,trivial⟩,⟨rfl,rfl,rfl,rfl⟩,⟨rfl,rfl⟩,⟨rfl,rfl,rfl,rfl⟩,⟨rfl,.inl rfl,.inl rfl,.inl rfl,.inl rfl,.inl rfl,.inl rfl,.inl rfl,.inl rfl,.inl rfl,.inl rfl,.inl rfl,.inl rfl,.inl rfl,trivial⟩,trivial⟩ rfl rfl,by rw [hll0] at h7; unfold nowN; rw [h5,h6,h9,h7]; rfl⟩
   | false =>
    conv=>whnf
    exact ⟨l0,[0,1,2,3,4],[],Sub.mk' rfl ⟨⟨rfl,rfl⟩,⟨rfl,rfl⟩,rfl,⟨rfl,rfl⟩,.inl rfl,.inl rfl,⟨rfl,rfl⟩,.inl rfl,trivial⟩ ⟨⟨rfl,.inl rfl,.inl rfl,.inl rfl,.inl rfl,trivial⟩,⟨rfl,rfl,rfl,rfl⟩,⟨rfl,rfl⟩,⟨rfl,rfl,rfl,rfl⟩,⟨rfl,.inl rfl,.inl rfl,.inl rfl,.inl rfl,.inl rfl,.inl rfl,.inl rfl,.inl rfl,.inl rfl,.inl rfl,.inl rfl,.inl rfl,.inl rfl,trivial⟩,trivial⟩ rfl rfl,by unfold nowN; rw [h5,h6,h9]; rfl⟩
  rintro now hnow -
  have hO3:R=contH (OH (N - k)) (k+1) (inH now (fol g a) (lk,todo)):=by rw [hO2,hnow]
  have hnl:now.length≤k+1:=Nat.le_trans (nowN_len hnow) (by omega)
  have hI2:=hI.mono (Nat.le_succ k)
  have hcT:=k_cloneT now (by omega)
  have hnr:(now.map irow).length=now.length:=List.length_map ..
  obtain ⟨F,hF⟩ : ∃ F,fol g a=F:=⟨_,rfl⟩
  rw [hF] at hf hflt hfl hO3
  have hFl:=natsT_len F
  clear hO2 hnow hl0 hcl hlw hI
  conv=>whnf
  refine acall.pure _ (hf) rfl rfl fun _ => ?_
  conv=>whnf
  refine LoopL.by (fun x:HSt × Nat=>⟨[(1,.ptr 0 0),(4,.sl 1 N),(5,.mp 2),(6,.sl 3 x.1.2.length),(7,.tr (ti (k:Nat))),(10,.tr (intsT now)),(78,.tr (natsT F)),(79,.tr (ti F.length)),(80,.tr (ti (x.2:Nat)))],[(0,grBl g),(1,hB x.1.1),(2,inB x.1.2),(3,natsB x.1.2)],10⟩) (fun x=>HInv N (k+1) x.1.1 x.1.2∧k<x.1.2.length∧x.2≤F.length∧R=contH (OH (N - k)) (k+1) (inH now (F.drop x.2) x.1)) (fun x=>F.length - x.2) ((lk,todo),0) [0,1,2,3] []
   (Sub.mk' rfl ⟨⟨rfl,rfl⟩,⟨rfl,rfl⟩,rfl,⟨rfl,rfl⟩,.inl rfl,.inl rfl,.inl rfl,.inl (by rw [← hFl]),.inl rfl,trivial⟩ ⟨⟨rfl,.inl rfl,.inl rfl,.inl rfl,.inl rfl,trivial⟩,⟨rfl,rfl,rfl,rfl⟩,⟨rfl,rfl⟩,⟨rfl,rfl,rfl,rfl⟩,trivial⟩ rfl rfl) ⟨hI2,hkt,Nat.zero_le _,hO3⟩ ?_
  clear hO3 hI2
  rintro ⟨⟨lk,todo⟩,j⟩ ⟨hI,hk,hj,hR⟩ -
  simp only at hI hk hj hR
  have hlkl:=hI.len
  have htl:=hI.todo_len
  conv=>whnf
  refine csplit (fun hjt => ?_) (fun hjt => ?_)
  ·have hjL:j<F.length:=by have:decide ((j:Int)<(F.length:Int))=true:=hjt; have:=of_decide_eq_true this; omega
   clear hjt
   obtain ⟨y,hy⟩ : ∃ y,F[j]? = some y:=⟨_,List.getElem?_eq_getElem hjL⟩
   have hyN:=hflt y (List.mem_of_getElem? hy)
   rw [drop_cons hy] at hR
   obtain ⟨o,ho⟩ : ∃ o,lk[y]? = some o:=⟨_,List.getElem?_eq_getElem (by omega)⟩
   have hlk:lkAt lk y=o.getD []:=by unfold lkAt; rw [List.getD_eq_getElem?_getD,ho]; rfl
   have hR2:R=contH (OH (N - k)) (k+1) (bif todo.contains y then (bif eqI2 (lkAt lk y) now then inH now (F.drop (j+1)) (lk,todo) else ((lk,todo),some y)) else inH now (F.drop (j+1)) (lk.set y (some now),todo++[y])):=hR
   clear hR
   conv=>whnf
   refine ⟨rfl,(show (0:Int)≤j by omega),(show (j:Int)<((((F.map fun (x:Nat)=>(x:Int))).map irow).length:Int) by omega),fun row hrow => ?_⟩
   obtain ⟨d,hd,rfl⟩:=natsT_get hrow
   obtain rfl:=Option.some.inj (hy.symm.trans hd)
   clear hrow hd
   have hlk2:(mget (mapE ((lk,todo),j).1.2) (.ki .i64 (y:Int))).getD (Tr.v Z.b.val)=tb (todo.contains y):=by
    show (mget (mapE todo) (.ki .i64 (y:Int))).getD (Tr.v Z.b.val)=tb (todo.contains y)
    rw [mget_mapE]
    cases todo.contains y <;> rfl
   conv=>whnf
   rw [hlk2]
   clear hlk2
   cases hcon:todo.contains y with
   | false =>
    have hyT:y ∉ todo:=fun w=>by rw [List.contains_iff_mem.2 w] at hcon; cases hcon
    rw [hcon,cond_false] at hR2
    have hI3:=hI.put hyN hyT hnl
    have hmS:mput (mapE todo) (.ki .i64 (y:Int)) (tb true)=mapE (todo++[y]):=by rw [mput_mapE,hcon]; rfl
    conv=>whnf
    refine acall.pure _ (hcT) rfl rfl fun _ => ?_
    conv=>whnf
    refine ⟨rfl,(show (0:Int)≤y by omega),(show (y:Int)<(N:Int) by omega),?_⟩
    conv=>whnf
    refine ⟨rfl,rfl,(by show y<(lk.map hrow).length; rw [List.length_map]; omega),fun row hrw => ?_⟩
    obtain ⟨d,hd,rfl⟩:=hrow_get hrw
    clear hrw hd
    have hrl:(hrow d).length=1:=by cases d <;> rfl
    refine ⟨(by show 0+1≤(hrow d).length; omega),?_⟩
    conv=>whnf
    refine ⟨rfl,rfl,rfl,(by rw [List.length_map]; exact Nat.le_refl _),(show (todo.length+1)*8≤150000000000000 by omega),fun q hq => ?_,?_⟩
    ·cases hq with
     | head=>exact Nat.ne_of_beq_eq_false rfl
     | tail _ h=>cases h
    conv=>whnf
    have hda:(todo.map nrow).take todo.length++[[ti (y:Nat)]]=(todo++[y]).map nrow:=by rw [List.take_of_length_le (by rw [List.length_map]; exact Nat.le_refl _),List.map_append]; rfl
    have hset:(lk.map hrow).set y ((hrow d).take 0++[intsT now]++(hrow d).drop (0+1))=(lk.set y (some now)).map hrow:=by rw [List.map_set]; cases d <;> rfl
    exact ⟨((lk.set y (some now),todo++[y]),j+1),[0,1,2,_],[],Sub.mk' rfl ⟨⟨rfl,rfl⟩,⟨rfl,rfl⟩,rfl,⟨rfl,by rw [List.length_append]; rfl⟩,.inl rfl,.inl rfl,.inl rfl,.inl rfl,.inl (ti_succ hjL (by omega)),trivial⟩ ⟨⟨rfl,.inl rfl,.inl rfl,.inl rfl,.inl rfl,trivial⟩,⟨rfl,rfl,rfl,hset⟩,⟨rfl,hmS⟩,⟨rfl,rfl,rfl,hda⟩,trivial⟩ rfl rfl,⟨hI3,by show k<(todo++[y]).length; rw [List.length_append]; omega,hjL,hR2⟩,by show F.length - (j+1)<F.length - j; omega⟩
   | true =>
    rw [hcon,cond_true,hlk] at hR2
    conv=>whnf
    refine ⟨rfl,(show (0:Int)≤y by omega),(show (y:Int)<(N:Int) by omega),?_⟩
    conv=>whnf
    refine ⟨rfl,(by show y<(lk.map hrow).length; rw [List.length_map]; omega),fun row hrw => ?_⟩
    obtain ⟨d,hd,rfl⟩:=hrow_get hrw
    obtain rfl:=Option.some.inj (ho.symm.trans hd)
    clear hrw hd
    cases o with
    | none =>
     refine ⟨(show 0<1 by decide),fun t ht => ?_⟩
     cases ht
     conv=>whnf
     refine acall.gen [] [] [.tr (intsT []),.tr (intsT now)] [] _ [] (k_equal [] now) rfl rfl rfl rfl ⟨.inr ⟨rfl,1,8,rfl⟩,.inl rfl,trivial⟩ trivial rfl rfl fun _ => ?_
     conv=>whnf
     cases he:eqI2 [] now with
     | false =>
      have hRf:R=([],(y:Int)):=by rw [hR2]; show contH _ _ (bif eqI2 [] now then _ else _)=_; rw [he]; rfl
      conv=>whnf
      exact ⟨⟨.inr ⟨rfl,1,24,by rw [hRf]; rfl⟩,.inl (by rw [hRf]),trivial⟩,trivial⟩
     | true =>
      have hR3:R=contH (OH (N - k)) (k+1) (inH now (F.drop (j+1)) (lk,todo)):=by rw [hR2]; show contH _ _ (bif eqI2 [] now then _ else _)=_; rw [he]; rfl
      conv=>whnf
      exact ⟨((lk,todo),j+1),[0,1,2,3],[],Sub.mk' rfl ⟨⟨rfl,rfl⟩,⟨rfl,rfl⟩,rfl,⟨rfl,rfl⟩,.inl rfl,.inl rfl,.inl rfl,.inl rfl,.inl (ti_succ hjL (by omega)),trivial⟩ ⟨⟨rfl,.inl rfl,.inl rfl,.inl rfl,.inl rfl,trivial⟩,⟨rfl,rfl,rfl,rfl⟩,⟨rfl,rfl⟩,⟨rfl,rfl,rfl,rfl⟩,trivial⟩ rfl rfl,⟨hI,hk,hjL,hR3⟩,by show F.length - (j+1)<F.length - j; omega⟩
    | some l =>
     refine ⟨(show 0<1 by decide),fun t ht => ?_⟩
     cases ht
     conv=>whnf
     refine acall.pure _ (k_equal l now) rfl rfl fun _ => ?_
     conv=>whnf
     cases he:eqI2 l now with
     | false =>
      have hRf:R=([],(y:Int)):=by rw [hR2]; show contH _ _ (bif eqI2 l now then _ else _)=_; rw [he]; rfl
      conv=>whnf
      exact ⟨⟨.inr ⟨rfl,1,24,by rw [hRf]; rfl⟩,.inl (by rw [hRf]),trivial⟩,trivial⟩
     | true =>
      have hR3:R=contH (OH (N - k)) (k+1) (inH now (F.drop (j+1)) (lk,todo)):=by rw [hR2]; show contH _ _ (bif eqI2 l now then _ else _)=_; rw [he]; rfl
      conv=>whnf
      exact ⟨((lk,todo),j+1),[0,1,2,3],[],Sub.mk' rfl ⟨⟨rfl,rfl⟩,⟨rfl,rfl⟩,rfl,⟨rfl,rfl⟩,.inl rfl,.inl rfl,.inl rfl,.inl rfl,.inl (ti_succ hjL (by omega)),trivial⟩ ⟨⟨rfl,.inl rfl,.inl rfl,.inl rfl,.inl rfl,trivial⟩,⟨rfl,rfl,rfl,rfl⟩,⟨rfl,rfl⟩,⟨rfl,rfl,rfl,rfl⟩,trivial⟩ rfl rfl,⟨hI,hk,hjL,hR3⟩,by show F.length - (j+1)<F.length - j; omega⟩
  ·have hjt:F.length≤j:=by have:decide ((j:Int)<(F.length:Int))=false:=hjt; have:=of_decide_eq_false this; omega
   rw [List.drop_of_length_le hjt] at hR
   have hR2:R=OH (N - k) (lk,todo) (k+1):=hR
   conv=>whnf
   refine ⟨fun _ => ?_,fun h=>absurd rfl h⟩
   conv=>whnf
   exact ⟨((lk,todo),k+1),[0,1,2,3],[],Sub.mk' rfl ⟨⟨rfl,rfl⟩,⟨rfl,rfl⟩,rfl,⟨rfl,rfl⟩,.inl (ti_succ hk (by omega)),trivial⟩ ⟨⟨rfl,.inl rfl,.inl rfl,.inl rfl,.inl rfl,trivial⟩,⟨rfl,rfl,rfl,rfl⟩,⟨rfl,rfl⟩,⟨rfl,rfl,rfl,rfl⟩,trivial⟩ rfl rfl,⟨hI,hk,by rw [hR2,show N+1 - (k+1)=N - k by omega]⟩,by show N+1 - (k+1)<N+1 - k; omega⟩
 ·have hkt:todo.length≤k:=by have:decide ((k:Int)<(todo.length:Int))=false:=hkt; have:=of_decide_eq_false this; omega
  have hRe:R=(lk,-1):=by
   rw [hO1]
   show (match todo[k]? with | none=>_ | some a=>_)=_
   rw [List.getElem?_eq_none hkt]
  subst hRe
  conv=>whnf
  refine ⟨fun _ => ?_,fun h=>absurd rfl h⟩
  conv=>whnf
  exact ⟨⟨⟨rfl,(by show N≤(lk.map hrow).length; rw [List.length_map]; omega),(by show heT lk=Tr.lst 1 24 ((lk.map hrow).take N); rw [List.take_of_length_le (by rw [List.length_map]; omega)])⟩,.inl rfl,trivial⟩,trivial⟩
end Go.Proofs.YthboippafkcoiaaDoor.am
namespace Go.Proofs.YthboippafkcoiaaDoor.am
open Go Go.Proofs
set_option linter.all false
def grBad (g:Gr):Bool:=decide (g.locals<0) || decide (g.locals > 64) || decide (g.slots<g.locals) || decide (g.slots > 4160) || decide ((g.nodes.length:Int)<1) || decide ((g.nodes.length:Int) > 4096)
def ndBad (u:Un) (g:Gr):List Nd→Int→Option Int
 | [],_=>none
 | n::r,i=>bif rightB u g n then ndBad u g r (i+1) else some i
def contC (g:Gr) (t:Int) (R:Int × Int × Int):Option Int→Int × Int × Int
 | some i=>(60,t,i)
 | none=>bif decide ((heldR g).2 ≥ 0) then (60,t,(heldR g).2) else R
def ckG (u:Un):List Gr→Int→Int × Int × Int
 | [],_=>(0,0,0)
 | g::r,t=>bif grBad g then (60,t,0) else contC g t (ckG u r (t+1)) (ndBad u g g.nodes 0)
def checkU (u:Un):Int × Int × Int:=bif namedB u then ckG u u.graphs 0 else (60,0,0)
theorem within_hi {p has k most:Int} (h:withinB p has k most=true) (hp:(andP p has == 0)=false):0≤k∧k<most:=by
 unfold withinB at h
 rw [hp] at h
 simp only [Bool.false_and,Bool.false_or,Bool.and_eq_true,decide_eq_true_eq] at h
 exact ⟨h.1.2,h.2⟩
theorem right_ok {u:Un} {g:Gr} {n:Nd} (h:rightB u g n=true) (h0:0≤n.kind):nodeOk g.nodes.length n=true:=by
 unfold rightB at h
 cases hh:headR n with
 | true=>rw [hh] at h; cases h
 | false =>
  rw [hh,cond_false] at h
  unfold headR at hh
  simp only [Bool.or_eq_false_iff] at hh
  have hk:=kinds hh.1.1.1 hh.1.1.2 h0
  unfold fieldsR at h
  simp only [Bool.and_eq_true] at h
  have hnx:=h.1.1.1.2
  have hel:=h.1.1.2
  obtain ⟨kind,op,slot,thing,a,b,next,els,origin⟩:=n
  simp only at hk hnx hel
  unfold nodeOk folI
  simp only
  rcases hk with rfl | rfl | rfl | rfl | rfl | rfl | rfl | rfl | rfl
  case inr.inr.inr.inr.inr.inr.inr.inr=>rfl
  case inr.inr.inr.inr.inr.inr.inr.inl =>
   have h1:=within_hi hnx (by kernel_rfl)
   have h2:=within_hi hel (by kernel_rfl)
   cases hb:(els != next) <;> simp [hb] <;> omega
  case inl =>
   have h1:0≤next∧next<(g.nodes.length:Int):=within_hi hnx (by unfold partsI; cases two op <;> kernel_rfl)
   simp; omega
  all_goals
   have h1:=within_hi hnx (by kernel_rfl)
   simp; omega
theorem whole_right {u:Un} {g:Gr} (hb:grBad g=false) (hr : ∀ n ∈ g.nodes,rightB u g n=true∧0≤n.kind):wholeB g=true:=by
 unfold grBad at hb
 simp only [Bool.or_eq_false_iff] at hb
 unfold wholeB
 rw [hb.1.2,hb.2]
 exact List.all_eq_true.2 fun n hn=>right_ok (hr n hn).1 (hr n hn).2
set_option maxRecDepth 100000 in
set_option maxHeartbeats 2000000 in
theorem k_check (u:Un):K 12 [u.av] [] (.ret (.tup [.tr (ti (checkU u).1),.tr (ti (checkU u).2.1),.tr (ti (checkU u).2.2)])) []:=by
 have hn:=k_named u
 have hC:checkU u=bif namedB u then ckG u u.graphs 0 else (60,0,0):=rfl
 generalize checkU u=R at hC ⊢
 have hlg:(u.graphs.map Gr.cells).length=u.graphs.length:=List.length_map ..
 refine Ctr.of hT hmix Tryd.func12 rfl (fun _ _=>by kernel_rfl) rfl fun hok => ?_
 obtain ⟨_,hl3,hrw⟩:=((hok.slot 0 rfl).agg _ (.tail _ (.tail _ (.head _)))).tr.lst
 have hbd : ∀ g ∈ u.graphs,∀ n ∈ g.nodes,0≤n.kind∧0≤n.op∧n.op≤255:=fun g hg n hnn=>by
  have h1:=(hrw g.cells (List.mem_map_of_mem hg)).2 (nodesT g.nodes) (.tail _ (.tail _ (.tail _ (.head _))))
  have h2:=(h1.lst.2.2 n.cells (List.mem_map_of_mem hnn)).2
  have h3:=(h2 (tu n.kind) (.head _)).u8
  have h4:=(h2 (tu n.op) (.tail _ (.head _))).u8
  exact ⟨h3.1,h4.1,h4.2⟩
 rw [List.length_map] at hl3
 clear hok hrw
 conv=>whnf
 refine acall.pure _ (hn) rfl rfl fun _ => ?_
 conv=>whnf
 cases hnm:namedB u with
 | false =>
  conv=>whnf
  have hRf:R=(60,0,0):=by rw [hC,hnm]; rfl
  exact ⟨⟨.inl (by rw [hRf]),.inl (by rw [hRf]),.inl (by rw [hRf]),trivial⟩,trivial⟩
 | true =>
 have hR:R=ckG u u.graphs 0:=by rw [hC,hnm]; rfl
 clear hC
 conv=>whnf
 refine LoopL.by (fun t:Nat=>⟨[(1,.ptr 0 0),(15,.tr (graphsT u.graphs)),(16,.tr (ti u.graphs.length)),(17,.tr (ti t))],[(0,.cells 29 [.tr (declsT u.shared),.tr (declsT u.locks),.tr (graphsT u.graphs)])],10⟩) (fun t=>t≤u.graphs.length∧R=ckG u (u.graphs.drop t) t) (fun t=>u.graphs.length - t) 0 [_] []
  (Sub.mk' rfl ⟨⟨rfl,rfl⟩,.inl rfl,.inl (by rw [← hlg]),.inl rfl,trivial⟩ ⟨⟨rfl,.inl rfl,.inl rfl,.inl rfl,trivial⟩,trivial⟩ rfl rfl) ⟨Nat.zero_le _,hR⟩ ?_
 clear hR
 rintro t ⟨ht,hR⟩ -
 conv=>whnf
 refine csplit (fun htt => ?_) (fun htt => ?_)
 ·have htt:t<u.graphs.length:=by have:decide ((t:Int)<(u.graphs.length:Int))=true:=htt; have:=of_decide_eq_true this; omega
  obtain ⟨g,hg⟩ : ∃ g,u.graphs[t]? = some g:=⟨_,List.getElem?_eq_getElem htt⟩
  rw [drop_cons hg] at hR
  have hbd:=hbd g (List.mem_of_getElem? hg)
  have hR2:R=bif grBad g then (60,(t:Int),0) else contC g t (ckG u (u.graphs.drop (t+1)) ((t:Int)+1)) (ndBad u g g.nodes 0):=hR
  clear hR
  have hgl:(g.nodes.map Nd.cells).length=g.nodes.length:=List.length_map ..
  conv=>whnf
  refine ⟨rfl,(show (0:Int)≤t by omega),(show (t:Int)<((u.graphs.map Gr.cells).length:Int) by omega),fun row hrow => ?_⟩
  obtain ⟨d,hd,rfl⟩:=gr_get hrow
  obtain rfl:=Option.some.inj (hg.symm.trans hd)
  clear hrow hd hg
  conv=>whnf
  cases b1:decide (g.locals<0) with
  | true =>
   conv=>whnf
   have hRf:R=(60,(t:Int),0):=by rw [hR2]; unfold grBad; rw [b1]; rfl
   exact ⟨⟨.inl (by rw [hRf]),.inl (by rw [hRf]),.inl (by rw [hRf]),trivial⟩,trivial⟩
  | false =>
  conv=>whnf
  cases b2:decide (g.locals > 64) with
  | true =>
   conv=>whnf
   have hRf:R=(60,(t:Int),0):=by rw [hR2]; unfold grBad; rw [b1,b2]; rfl
   exact ⟨⟨.inl (by rw [hRf]),.inl (by rw [hRf]),.inl (by rw [hRf]),trivial⟩,trivial⟩
  | false =>
  conv=>whnf
  cases b3:decide (g.slots<g.locals) with
  | true =>
   conv=>whnf
   have hRf:R=(60,(t:Int),0):=by rw [hR2]; unfold grBad; rw [b1,b2,b3]; rfl
   exact ⟨⟨.inl (by rw [hRf]),.inl (by rw [hRf]),.inl (by rw [hRf]),trivial⟩,trivial⟩
  | false =>
  conv=>whnf
  cases b4:decide (g.slots > 4160) with
  | true =>
   conv=>whnf
   have hRf:R=(60,(t:Int),0):=by rw [hR2]; unfold grBad; rw [b1,b2,b3,b4]; rfl
   exact ⟨⟨.inl (by rw [hRf]),.inl (by rw [hRf]),.inl (by rw [hRf]),trivial⟩,trivial⟩
  | false =>
  conv=>whnf
  cases b5:decide (((g.nodes.map Nd.cells).length:Int)<1) with
  | true =>
   conv=>whnf
   rw [hgl] at b5
   have hRf:R=(60,(t:Int),0):=by rw [hR2]; unfold grBad; rw [b1,b2,b3,b4,b5]; rfl
   exact ⟨⟨.inl (by rw [hRf]),.inl (by rw [hRf]),.inl (by rw [hRf]),trivial⟩,trivial⟩
  | false =>
  conv=>whnf
  cases b6:decide (((g.nodes.map Nd.cells).length:Int) > 4096) with
  | true =>
   conv=>whnf
   rw [hgl] at b5 b6
   have hRf:R=(60,(t:Int),0):=by rw [hR2]; unfold grBad; rw [b1,b2,b3,b4,b5,b6]; rfl
   exact ⟨⟨.inl (by rw [hRf]),.inl (by rw [hRf]),.inl (by rw [hRf]),trivial⟩,trivial⟩
  | false =>
  conv=>whnf
  have hgb:grBad g=false:=by rw [hgl] at b5 b6; unfold grBad; rw [b1,b2,b3,b4,b5,b6]; rfl
  rw [hgb,cond_false] at hR2
  have hmo:g.nodes.length≤4096:=by have:=of_decide_eq_false b6; omega
  clear b1 b2 b3 b4 b5 b6
  generalize hRR:ckG u (u.graphs.drop (t+1)) ((t:Int)+1)=RR at hR2
  refine LoopL.by (fun i:Nat=>⟨[(1,.ptr 0 0),(5,.tr (ti t)),(6,.ptr 1 0),(15,.tr (graphsT u.graphs)),(16,.tr (ti u.graphs.length)),(17,.tr (ti t)),(56,.tr (nodesT g.nodes)),(57,.tr (ti g.nodes.length)),(58,.tr (ti i))],[(0,.cells 29 [.tr (declsT u.shared),.tr (declsT u.locks),.tr (graphsT u.graphs)]),(1,grBl g)],10⟩) (fun i=>i≤g.nodes.length∧R=contC g t RR (ndBad u g (g.nodes.drop i) i) ∧ ∀ n ∈ g.nodes.take i,rightB u g n=true) (fun i=>g.nodes.length - i) 0 [0,_] []
   (Sub.mk' rfl ⟨⟨rfl,rfl⟩,.inl rfl,⟨rfl,rfl⟩,.inl rfl,.inl rfl,.inl rfl,.inl rfl,.inl (by rw [← hgl]),.inl rfl,trivial⟩ ⟨⟨rfl,.inl rfl,.inl rfl,.inl rfl,trivial⟩,⟨rfl,.inl rfl,.inl rfl,.inl rfl,.inl rfl,trivial⟩,trivial⟩ rfl rfl) ⟨Nat.zero_le _,hR2,fun n hn=>by cases hn⟩ ?_
  clear hR2
  rintro i ⟨hi,hR,hal⟩ -
  conv=>whnf
  refine csplit (fun hit => ?_) (fun hit => ?_)
  ·have hit:i<g.nodes.length:=by have:decide ((i:Int)<(g.nodes.length:Int))=true:=hit; have:=of_decide_eq_true this; omega
   obtain ⟨n,hn⟩ : ∃ n,g.nodes[i]? = some n:=⟨_,List.getElem?_eq_getElem hit⟩
   rw [drop_cons hn] at hR
   obtain ⟨q0,q1,q2⟩:=hbd n (List.mem_of_getElem? hn)
   have hri:=k_right u g n q0 ⟨q1,q2⟩
   have hR2:R=contC g t RR (bif rightB u g n then ndBad u g (g.nodes.drop (i+1)) ((i:Int)+1) else some (i:Int)):=hR
   clear hR
   conv=>whnf
   refine ⟨rfl,(show (0:Int)≤i by omega),(show (i:Int)<((g.nodes.map Nd.cells).length:Int) by omega),fun row hrow => ?_⟩
   obtain ⟨d,hd,rfl⟩:=nd_get hrow
   obtain rfl:=Option.some.inj (hn.symm.trans hd)
   clear hrow hd
   conv=>whnf
   refine acall.pure _ (hri) rfl rfl fun _ => ?_
   conv=>whnf
   cases hrb:rightB u g n with
   | false =>
    have hRf:R=(60,(t:Int),(i:Int)):=by rw [hR2,hrb]; rfl
    conv=>whnf
    exact ⟨⟨.inl (by rw [hRf]),.inl (by rw [hRf]),.inl (by rw [hRf]),trivial⟩,trivial⟩
   | true =>
    rw [hrb,cond_true] at hR2
    conv=>whnf
    exact ⟨i+1,[0,1],[],Sub.mk' rfl ⟨⟨rfl,rfl⟩,.inl rfl,⟨rfl,rfl⟩,.inl rfl,.inl rfl,.inl rfl,.inl rfl,.inl rfl,.inl (ti_succ hit (by omega)),trivial⟩ ⟨⟨rfl,.inl rfl,.inl rfl,.inl rfl,trivial⟩,⟨rfl,.inl rfl,.inl rfl,.inl rfl,.inl rfl,trivial⟩,trivial⟩ rfl rfl,⟨hit,hR2,fun m hm=>by
     rw [take_snoc hn] at hm
     rcases List.mem_append.1 hm with w | w
     ·exact hal m w
     ·rw [List.mem_singleton.1 w]; exact hrb⟩,by show g.nodes.length - (i+1)<g.nodes.length - i; omega⟩
  have hit:g.nodes.length≤i:=by have:decide ((i:Int)<(g.nodes.length:Int))=false:=hit; have:=of_decide_eq_false this; omega
  rw [List.drop_of_length_le hit] at hR
  rw [List.take_of_length_le hit] at hal
  have hW:=whole_of (whole_right hgb fun n hn=>⟨hal n hn,(hbd n hn).1⟩)
  have hhe:=k_heldR g hW
  have hR2:R=bif decide ((heldR g).2 ≥ 0) then (60,(t:Int),(heldR g).2) else RR:=hR
  clear hR
  conv=>whnf
  refine ⟨fun _ => ?_,fun h=>absurd rfl h⟩
  conv=>whnf
  refine acall.pure _ (hhe) rfl rfl fun _ => ?_
  conv=>whnf
  cases hf:decide ((heldR g).2 ≥ 0) with
  | true =>
   have hRf:R=(60,(t:Int),(heldR g).2):=by rw [hR2,hf]; rfl
   conv=>whnf
   exact ⟨⟨.inl (by rw [hRf]),.inl (by rw [hRf]),.inl (by rw [hRf]),trivial⟩,trivial⟩
  | false =>
   have hR3:R=ckG u (u.graphs.drop (t+1)) ((t+1:Nat):Int):=by rw [hR2,hf,cond_false,← hRR]; rfl
   conv=>whnf
   exact ⟨t+1,[0],[],Sub.mk' rfl ⟨⟨rfl,rfl⟩,.inl rfl,.inl rfl,.inl (ti_succ htt (by omega)),trivial⟩ ⟨⟨rfl,.inl rfl,.inl rfl,.inl rfl,trivial⟩,trivial⟩ rfl rfl,⟨htt,hR3⟩,by show u.graphs.length - (t+1)<u.graphs.length - t; omega⟩
 ·have htt:u.graphs.length≤t:=by have:decide ((t:Int)<(u.graphs.length:Int))=false:=htt; have:=of_decide_eq_false this; omega
  rw [List.drop_of_length_le htt] at hR
  have hRf:R=(0,0,0):=hR
  conv=>whnf
  refine ⟨fun _ => ?_,fun h=>absurd rfl h⟩
  conv=>whnf
  exact ⟨⟨.inl (by rw [hRf]),.inl (by rw [hRf]),.inl (by rw [hRf]),trivial⟩,trivial⟩
end Go.Proofs.YthboippafkcoiaaDoor.am
namespace Go.Proofs.YthboippafkcoiaaDoor.am
open Go Go.Proofs
set_option linter.all false
structure LowC where
 p:Prg
 t:Nat
 name:ByteArray
 loc:Int
structure LowS where
 slots:Int
 nodes:List Nd
 opens:List (Bool × Nat)
 over:Bool
def fillN (to:Int) (L:List Nd) (o:Bool × Nat):List Nd:=match L[o.2]? with
 | some n=>L.set o.2 (bif o.1 then { n with els:=to } else { n with next:=to })
 | none=>L
def leadN (to:Int) (os:List (Bool × Nat)) (L:List Nd):List Nd:=os.foldl (fillN to) L
def wI (x:Int):Int:=IntKind.i64.wrap x
def slotS (s:LowS):LowS := { s with slots:=wI (s.slots+1) }
def slotI (s:LowS):Int:=wI (wI (s.slots+1) - 1)
def putS (n:Nd) (s:LowS):LowS:=bif decide ((s.nodes.length:Int) ≥ 4096) then { s with over:=true } else { s with nodes:=leadN s.nodes.length s.opens s.nodes++[{ n with origin:=s.nodes.length }],opens:=[(false,s.nodes.length)] }
def putI (s:LowS):Int:=bif decide ((s.nodes.length:Int) ≥ 4096) then 0 else s.nodes.length
abbrev v00:Val:=⟨false,0,0⟩
abbrev nd00:Nd:=⟨0,0,0,0,v00,v00,0,0,0⟩
def inV (k:Int):Val:=⟨true,k,0⟩
mutual
def exprS (c:LowC):Expr→LowS→LowS × Val
 | .mk kind op word name kids _,s =>
  bif kind == 1 then (s,⟨false,0,word⟩)
  else bif kind == 2 then (bif decide (localI c.p c.t name ≥ 0) then (s,inV (localI c.p c.t name))
   else (putS { nd00 with kind:=2,thing:=findI c.p.shared name 0,slot:=slotI s } (slotS s),inV (slotI s)))
  else bif two op then (putS { nd00 with kind:=1,op:=op,a:=(kid0S c kids s).2,b:=(kid1S c kids (kid0S c kids s).1).2,slot:=slotI (kid1S c kids (kid0S c kids s).1).1 } (slotS (kid1S c kids (kid0S c kids s).1).1),inV (slotI (kid1S c kids (kid0S c kids s).1).1))
  else (putS { nd00 with kind:=1,op:=op,a:=(kid0S c kids s).2,slot:=slotI (kid0S c kids s).1 } (slotS (kid0S c kids s).1),inV (slotI (kid0S c kids s).1))
def kid0S (c:LowC):List Expr→LowS→LowS × Val
 | [],s=>(s,v00)
 | e::_,s=>exprS c e s
def kid1S (c:LowC):List Expr→LowS→LowS × Val
 | [],s=>(s,v00)
 | _::r,s=>kid0S c r s
end
def giveS (c:LowC) (name:ByteArray) (v:Val) (s:LowS):LowS:=bif decide (localI c.p c.t name ≥ 0) then putS { nd00 with kind:=1,slot:=localI c.p c.t name,a:=v } s else putS { nd00 with kind:=3,thing:=findI c.p.shared name 0,a:=v } s
def swapS (c:LowC) (name other:ByteArray) (v:Val) (s:LowS):LowS:=bif decide (localI c.p c.t name ≥ 0) then putS { nd00 with kind:=4,a:=v,thing:=findI c.p.shared other 0,slot:=localI c.p c.t name } s
 else giveS c name (inV (slotI s)) (putS { nd00 with kind:=4,a:=v,thing:=findI c.p.shared other 0,slot:=slotI s } (slotS s))
def openS (os:List (Bool × Nat)) (s:LowS):LowS := { s with opens:=os }
mutual
def stmtS (c:LowC):Stmt→LowS→LowS
 | .mk kind name other e body els _,s =>
  bif kind == 1 then giveS c name (kid0S c e s).2 (kid0S c e s).1
  else bif kind == 2 then swapS c name other (kid0S c e s).2 (kid0S c e s).1
  else bif kind == 3 then
   openS ((blockS c body (putS { nd00 with kind:=8,a:=(kid0S c e s).2 } (kid0S c e s).1)).opens++(blockS c els (openS [(true,(putI (kid0S c e s).1).toNat)] (blockS c body (putS { nd00 with kind:=8,a:=(kid0S c e s).2 } (kid0S c e s).1)))).opens)
    (blockS c els (openS [(true,(putI (kid0S c e s).1).toNat)] (blockS c body (putS { nd00 with kind:=8,a:=(kid0S c e s).2 } (kid0S c e s).1))))
  else bif kind == 4 then
   (bif (blockS c body (putS { nd00 with kind:=8,a:=(kid0S c e s).2 } (kid0S c e s).1)).over then blockS c body (putS { nd00 with kind:=8,a:=(kid0S c e s).2 } (kid0S c e s).1)
    else { blockS c body (putS { nd00 with kind:=8,a:=(kid0S c e s).2 } (kid0S c e s).1) with nodes:=leadN s.nodes.length (blockS c body (putS { nd00 with kind:=8,a:=(kid0S c e s).2 } (kid0S c e s).1)).opens (blockS c body (putS { nd00 with kind:=8,a:=(kid0S c e s).2 } (kid0S c e s).1)).nodes,opens:=[(true,(putI (kid0S c e s).1).toNat)] })
  else bif kind == 5 then putS { nd00 with kind:=6,thing:=findI c.p.locks name 0 } (blockS c body (putS { nd00 with kind:=5,thing:=findI c.p.locks name 0 } s))
  else bif kind == 6 then putS { nd00 with kind:=7,a:=(kid0S c e s).2 } (kid0S c e s).1
  else s
def blockS (c:LowC):List Stmt→LowS→LowS
 | [],s=>s
 | x::r,s=>bif s.over then s else blockS c r (stmtS c x s)
end
end Go.Proofs.YthboippafkcoiaaDoor.am
namespace Go.Proofs.YthboippafkcoiaaDoor.am
open Go Go.Proofs
set_option linter.all false
abbrev lwB (c:LowC) (sl:Int) (N M:Nat) (ov:Bool) (hn ho:Nat):Blk := .cells 71 [.tr (declsT c.p.shared),.tr (declsT c.p.locks),.tr (threadsT c.p.threads),.tr (ti (c.t:Nat)),.tr (ts c.name),.tr (ti c.loc),.tr (ti sl),.sl hn N,.sl ho M,.tr (tb ov)]
abbrev lwN (c:LowC) (sl:Int) (N:Nat) (ov:Bool) (hn:Nat):Blk := .cells 71 [.tr (declsT c.p.shared),.tr (declsT c.p.locks),.tr (threadsT c.p.threads),.tr (ti (c.t:Nat)),.tr (ts c.name),.tr (ti c.loc),.tr (ti sl),.sl hn N,nilA,.tr (tb ov)]
abbrev nxG:Nat := 72
abbrev otG:Nat := 85
def cloD (o:Bool × Nat):Nat × List Tr:=(bif o.1 then otG else nxG,[ti (o.2:Nat)])
abbrev opsB (l:List (Bool × Nat)):Blk := .fns 103 8 0 (l.map cloD)
abbrev fzA:AV := .ifc (4*HMod) (.fn 0 [.ptr 0 0])
abbrev cloA (o:Bool × Nat):AV := .fn (bif o.1 then otG else nxG) [fzA,.ept [ti (o.2:Nat)]]
theorem fillN_len (to:Int) (L:List Nd) (o:Bool × Nat):(fillN to L o).length=L.length:=by
 unfold fillN
 cases L[o.2]? with
 | none=>rfl
 | some n=>exact List.length_set
theorem leadN_len (to:Int) : ∀ (os:List (Bool × Nat)) (L:List Nd),(leadN to os L).length=L.length
 | [],_=>rfl
 | o::r,L=>(leadN_len to r (fillN to L o)).trans (fillN_len to L o)
theorem leadN_snoc (to:Int) (os:List (Bool × Nat)) (o:Bool × Nat) (L:List Nd):leadN to (os++[o]) L=fillN to (leadN to os L) o:=by
 unfold leadN
 rw [List.foldl_append]; rfl
set_option maxRecDepth 100000 in
theorem k_slotG (c:LowC) (s:LowS):K 68 [.ptr 0 0] [lwB c s.slots s.nodes.length s.opens.length s.over 1 2,ndsB s.nodes,opsB s.opens] (.ret (.tr (ti (slotI s)))) [some (lwB c (slotS s).slots s.nodes.length s.opens.length s.over 1 2),some (ndsB s.nodes),some (opsB s.opens)]:=by
 refine Ctr.of hT hmix Tryd.func68 rfl (fun _ _=>by kernel_rfl) rfl fun hok => ?_
 clear hok
 conv=>whnf
 exact ⟨.inl rfl,⟨rfl,.inl rfl,.inl rfl,.inl rfl,.inl rfl,.inl rfl,.inl rfl,.inl rfl,⟨rfl,rfl⟩,⟨rfl,rfl⟩,.inl rfl,trivial⟩,⟨rfl,rfl,rfl,rfl⟩,⟨rfl,rfl,rfl,rfl⟩,trivial⟩
set_option maxRecDepth 100000 in
theorem k_nextGN (c:LowC) (sl:Int) (N k:Nat) (ov:Bool) (L:List Nd):K 47 [.ptr 0 0,.tr (ti (k:Nat))] [lwN c sl N ov 1,ndsB L] (.ret (cloA (false,k))) [some (lwN c sl N ov 1),some (ndsB L)]:=by
 refine Ctr.of hT hmix Tryd.func47 rfl (fun _ _=>by kernel_rfl) rfl fun hok => ?_
 clear hok
 conv=>whnf
 exact ⟨⟨rfl,⟨rfl,rfl,rfl,rfl,rfl⟩,⟨rfl,rfl⟩,trivial⟩,⟨rfl,.inl rfl,.inl rfl,.inl rfl,.inl rfl,.inl rfl,.inl rfl,.inl rfl,⟨rfl,rfl⟩,.inl rfl,.inl rfl,trivial⟩,⟨rfl,rfl,rfl,rfl⟩,trivial⟩
set_option maxRecDepth 100000 in
theorem k_otherG (c:LowC) (sl:Int) (N M k:Nat) (ov:Bool) (L:List Nd) (os:List (Bool × Nat)):K 70 [.ptr 0 0,.tr (ti (k:Nat))] [lwB c sl N M ov 1 2,ndsB L,opsB os] (.ret (cloA (true,k))) [some (lwB c sl N M ov 1 2),some (ndsB L),some (opsB os)]:=by
 refine Ctr.of hT hmix Tryd.func70 rfl (fun _ _=>by kernel_rfl) rfl fun hok => ?_
 clear hok
 conv=>whnf
 exact ⟨⟨rfl,⟨rfl,rfl,rfl,rfl,rfl⟩,⟨rfl,rfl⟩,trivial⟩,⟨rfl,.inl rfl,.inl rfl,.inl rfl,.inl rfl,.inl rfl,.inl rfl,.inl rfl,⟨rfl,rfl⟩,⟨rfl,rfl⟩,.inl rfl,trivial⟩,⟨rfl,rfl,rfl,rfl⟩,⟨rfl,rfl,rfl,rfl⟩,trivial⟩
set_option maxRecDepth 100000 in
theorem k_otherGN (c:LowC) (sl:Int) (N k:Nat) (ov:Bool) (L:List Nd):K 70 [.ptr 0 0,.tr (ti (k:Nat))] [lwN c sl N ov 1,ndsB L] (.ret (cloA (true,k))) [some (lwN c sl N ov 1),some (ndsB L)]:=by
 refine Ctr.of hT hmix Tryd.func70 rfl (fun _ _=>by kernel_rfl) rfl fun hok => ?_
 clear hok
 conv=>whnf
 exact ⟨⟨rfl,⟨rfl,rfl,rfl,rfl,rfl⟩,⟨rfl,rfl⟩,trivial⟩,⟨rfl,.inl rfl,.inl rfl,.inl rfl,.inl rfl,.inl rfl,.inl rfl,.inl rfl,⟨rfl,rfl⟩,.inl rfl,.inl rfl,trivial⟩,⟨rfl,rfl,rfl,rfl⟩,trivial⟩
set_option maxRecDepth 100000 in
theorem k_nextF (c:LowC) (sl:Int) (M k:Nat) (ov:Bool) (to_:Int) (L:List Nd) (os:List (Bool × Nat)) (hk:k<L.length):K 72 [.tr (ti to_),fzA,.ept [ti (k:Nat)]] [lwB c sl L.length M ov 1 2,ndsB L,opsB os] (.ret (.tup [])) [some (lwB c sl L.length M ov 1 2),some (ndsB (fillN to_ L (false,k))),some (opsB os)]:=by
 obtain ⟨n,hn⟩ : ∃ n,L[k]? = some n:=⟨_,List.getElem?_eq_getElem hk⟩
 have hf:fillN to_ L (false,k)=L.set k { n with next:=to_ }:=by unfold fillN; simp only [hn]; rfl
 rw [hf]
 refine Ctr.of hT hmix Tryd.func72 rfl (fun _ _=>by kernel_rfl) rfl fun hok => ?_
 clear hok
 conv=>whnf
 refine ⟨rfl,(show (0:Int)≤k by omega),(show (k:Int)<(L.length:Int) by omega),?_⟩
 conv=>whnf
 refine ⟨rfl,rfl,(by show k<(L.map Nd.cells).length; rw [List.length_map]; omega),fun row hrow => ?_⟩
 obtain ⟨d,hd,rfl⟩:=nd_get hrow
 obtain rfl:=Option.some.inj (hn.symm.trans hd)
 clear hrow hd
 refine ⟨(show 10+1≤13 by decide),?_⟩
 conv=>whnf
 refine ⟨by kernel_rfl,fun _ => ?_⟩
 conv=>whnf
 exact ⟨trivial,⟨rfl,.inl rfl,.inl rfl,.inl rfl,.inl rfl,.inl rfl,.inl rfl,.inl rfl,⟨rfl,rfl⟩,⟨rfl,rfl⟩,.inl rfl,trivial⟩,⟨rfl,rfl,rfl,by rw [List.map_set]; rfl⟩,⟨rfl,rfl,rfl,rfl⟩,trivial⟩
set_option maxRecDepth 100000 in
theorem k_otherF (c:LowC) (sl:Int) (M k:Nat) (ov:Bool) (to_:Int) (L:List Nd) (os:List (Bool × Nat)) (hk:k<L.length):K 85 [.tr (ti to_),fzA,.ept [ti (k:Nat)]] [lwB c sl L.length M ov 1 2,ndsB L,opsB os] (.ret (.tup [])) [some (lwB c sl L.length M ov 1 2),some (ndsB (fillN to_ L (true,k))),some (opsB os)]:=by
 obtain ⟨n,hn⟩ : ∃ n,L[k]? = some n:=⟨_,List.getElem?_eq_getElem hk⟩
 have hf:fillN to_ L (true,k)=L.set k { n with els:=to_ }:=by unfold fillN; simp only [hn]; rfl
 rw [hf]
 refine Ctr.of hT hmix Tryd.func85 rfl (fun _ _=>by kernel_rfl) rfl fun hok => ?_
 clear hok
 conv=>whnf
 refine ⟨rfl,(show (0:Int)≤k by omega),(show (k:Int)<(L.length:Int) by omega),?_⟩
 conv=>whnf
 refine ⟨rfl,rfl,(by show k<(L.map Nd.cells).length; rw [List.length_map]; omega),fun row hrow => ?_⟩
 obtain ⟨d,hd,rfl⟩:=nd_get hrow
 obtain rfl:=Option.some.inj (hn.symm.trans hd)
 clear hrow hd
 refine ⟨(show 11+1≤13 by decide),?_⟩
 conv=>whnf
 refine ⟨by kernel_rfl,fun _ => ?_⟩
 conv=>whnf
 exact ⟨trivial,⟨rfl,.inl rfl,.inl rfl,.inl rfl,.inl rfl,.inl rfl,.inl rfl,.inl rfl,⟨rfl,rfl⟩,⟨rfl,rfl⟩,.inl rfl,trivial⟩,⟨rfl,rfl,rfl,by rw [List.map_set]; rfl⟩,⟨rfl,rfl,rfl,rfl⟩,trivial⟩
set_option maxRecDepth 100000 in
theorem k_leadG (c:LowC) (sl:Int) (ov:Bool) (to_:Int) (L:List Nd) (os:List (Bool × Nat)) (hop : ∀ o ∈ os,o.2<L.length) (hM:os.length≤1000000):K 46 [.ptr 0 0,.tr (ti to_)] [lwB c sl L.length os.length ov 1 2,ndsB L,opsB os] (.ret (.tup [])) [some (lwN c sl L.length ov 1),some (ndsB (leadN to_ os L)),none]:=by
 refine Ctr.of hT hmix Tryd.func46 rfl (fun _ _=>by kernel_rfl) rfl fun hok => ?_
 clear hok
 conv=>whnf
 refine LoopL.by (fun i:Nat=>⟨[(0,.ptr 0 0),(1,.tr (ti to_)),(9,.sl 2 os.length),(10,.tr (ti (os.length:Nat))),(11,.tr (ti (i:Nat)))],[(0,lwB c sl L.length os.length ov 1 2),(1,ndsB (leadN to_ (os.take i) L)),(2,opsB os)],12⟩) (fun i=>i≤os.length) (fun i=>os.length - i) 0 [0,1,2] []
  (Sub.mk' rfl ⟨⟨rfl,rfl⟩,.inl rfl,⟨rfl,rfl⟩,.inl rfl,.inl rfl,trivial⟩ ⟨⟨rfl,.inl rfl,.inl rfl,.inl rfl,.inl rfl,.inl rfl,.inl rfl,.inl rfl,⟨rfl,rfl⟩,⟨rfl,rfl⟩,.inl rfl,trivial⟩,⟨rfl,rfl,rfl,rfl⟩,⟨rfl,rfl,rfl,rfl⟩,trivial⟩ rfl rfl) (Nat.zero_le _) ?_
 rintro i hi -
 conv=>whnf
 refine csplit (fun hit => ?_) (fun hit => ?_)
 ·replace hit:i<os.length:=by have:decide ((i:Int)<(os.length:Int))=true:=hit; have:=of_decide_eq_true this; omega
  obtain ⟨o,ho⟩ : ∃ o,os[i]? = some o:=⟨_,List.getElem?_eq_getElem hit⟩
  have hol:=hop o (List.mem_of_getElem? ho)
  have hLl:=leadN_len to_ (os.take i) L
  have hnx:leadN to_ (os.take (i+1)) L=fillN to_ (leadN to_ (os.take i) L) o:=by rw [take_snoc ho,leadN_snoc]
  generalize leadN to_ (os.take i) L=L1 at hLl hnx
  rw [← hLl]
  have hcall:=fun (h:o.2<L1.length)=>k_nextF c sl os.length o.2 ov to_ L1 os h
  have hcall2:=fun (h:o.2<L1.length)=>k_otherF c sl os.length o.2 ov to_ L1 os h
  obtain ⟨b,k⟩:=o
  simp only at hol hcall hcall2
  conv=>whnf
  refine ⟨rfl,(show (0:Int)≤i by omega),(show (i:Int)<(os.length:Int) by omega),?_⟩
  conv=>whnf
  refine ⟨rfl,rfl,(by rw [List.length_map]; exact hit),fun q hq => ?_⟩
  obtain rfl:cloD (b,k)=q:=by
   rw [List.getElem?_map,Int.toNat_natCast,ho] at hq
   exact Option.some.inj hq
  clear hq
  cases b with
  | false =>
   conv=>whnf
   refine acall.au [0,1,2] [] (hcall (by omega)) ?_
   intro _
   conv=>whnf
   exact ⟨i+1,[0,1,2],[],Sub.mk' rfl ⟨⟨rfl,rfl⟩,.inl rfl,⟨rfl,rfl⟩,.inl rfl,.inl (ti_succ hit (by omega)),trivial⟩ ⟨⟨rfl,.inl rfl,.inl rfl,.inl rfl,.inl rfl,.inl rfl,.inl rfl,.inl rfl,⟨rfl,rfl⟩,⟨rfl,rfl⟩,.inl rfl,trivial⟩,⟨rfl,rfl,rfl,by rw [hnx]⟩,⟨rfl,rfl,rfl,rfl⟩,trivial⟩ rfl rfl,hit,by show os.length - (i+1)<os.length - i; omega⟩
  | true =>
   conv=>whnf
   refine acall.au [0,1,2] [] (hcall2 (by omega)) ?_
   intro _
   conv=>whnf
   exact ⟨i+1,[0,1,2],[],Sub.mk' rfl ⟨⟨rfl,rfl⟩,.inl rfl,⟨rfl,rfl⟩,.inl rfl,.inl (ti_succ hit (by omega)),trivial⟩ ⟨⟨rfl,.inl rfl,.inl rfl,.inl rfl,.inl rfl,.inl rfl,.inl rfl,.inl rfl,⟨rfl,rfl⟩,⟨rfl,rfl⟩,.inl rfl,trivial⟩,⟨rfl,rfl,rfl,by rw [hnx]⟩,⟨rfl,rfl,rfl,rfl⟩,trivial⟩ rfl rfl,hit,by show os.length - (i+1)<os.length - i; omega⟩
 replace hit:i=os.length:=by have:decide ((i:Int)<(os.length:Int))=false:=hit; have:=of_decide_eq_false this; omega
 subst hit
 rw [List.take_length]
 conv=>whnf
 refine ⟨fun _ => ?_,fun h=>absurd rfl h⟩
 conv=>whnf
 exact ⟨trivial,⟨rfl,.inl rfl,.inl rfl,.inl rfl,.inl rfl,.inl rfl,.inl rfl,.inl rfl,⟨rfl,rfl⟩,.inl rfl,.inl rfl,trivial⟩,⟨rfl,rfl,rfl,rfl⟩,trivial⟩
end Go.Proofs.YthboippafkcoiaaDoor.am
namespace Go.Proofs.YthboippafkcoiaaDoor.am
open Go Go.Proofs
set_option linter.all false
abbrev stB (c:LowC) (s:LowS) (hn ho:Nat):Blk:=lwB c s.slots s.nodes.length s.opens.length s.over hn ho
abbrev stI (c:LowC) (s:LowS):List Blk:=[stB c s 1 2,ndsB s.nodes,opsB s.opens]
abbrev stO (c:LowC) (s:LowS):List (Option Blk):=[some (stB c s 3 4),none,none,some (ndsB s.nodes),some (opsB s.opens)]
structure OkS (s:LowS):Prop where
 inn : ∀ o ∈ s.opens,o.2<s.nodes.length
 few:s.opens.length≤1000000
theorem slotS_ok {s:LowS} (h:OkS s):OkS (slotS s):=⟨h.inn,h.few⟩
theorem putS_ok {s:LowS} (n:Nd) (h:OkS s):OkS (putS n s):=by
 unfold putS
 cases decide ((s.nodes.length:Int) ≥ 4096) with
 | true=>exact ⟨h.inn,h.few⟩
 | false =>
  refine ⟨fun o ho => ?_,by show 1≤1000000; decide⟩
  have ho:o ∈ [(false,s.nodes.length)]:=ho
  simp only [List.mem_singleton] at ho
  subst ho
  show s.nodes.length<(leadN s.nodes.length s.opens s.nodes++[_]).length
  rw [List.length_append,leadN_len]
  exact Nat.lt_succ_self _
set_option maxRecDepth 100000 in
set_option maxHeartbeats 1000000 in
theorem k_putG (c:LowC) (n:Nd) (s:LowS) (h:OkS s):K 23 [.ptr 0 0,n.av] (stI c s) (.ret (.tr (ti (putI s)))) (stO c (putS n s)):=by
 have hP:putS n s=bif decide ((s.nodes.length:Int) ≥ 4096) then { s with over:=true } else { s with nodes:=leadN s.nodes.length s.opens s.nodes++[{ n with origin:=s.nodes.length }],opens:=[(false,s.nodes.length)] }:=rfl
 have hI:putI s=bif decide ((s.nodes.length:Int) ≥ 4096) then (0:Int) else ((s.nodes.length:Nat):Int):=rfl
 have hld:=k_leadG c s.slots s.over s.nodes.length s.nodes s.opens h.inn h.few
 have hLl:=leadN_len s.nodes.length s.opens s.nodes
 generalize putS n s=S at hP ⊢
 generalize putI s=R at hI ⊢
 obtain ⟨sl,L,os,ov⟩:=s
 simp only at hP hI hld hLl
 generalize leadN L.length os L=L1 at hP hld hLl
 refine Ctr.mv [8] [0,3,4] 5 hT hmix Tryd.func23 rfl (fun _ _=>by kernel_rfl) rfl (fun hok => ?_)
 clear hok
 conv=>whnf
 cases e0:decide (((L.length:Nat):Int) ≥ 4096) with
 | true =>
  rw [e0,cond_true] at hP hI
  subst hP hI
  conv=>whnf
  exact ⟨[0,1,2,3,4],rfl,rfl,.inl rfl,⟨rfl,.inl rfl,.inl rfl,.inl rfl,.inl rfl,.inl rfl,.inl rfl,.inl rfl,⟨rfl,rfl⟩,⟨rfl,rfl⟩,.inl rfl,trivial⟩,⟨rfl,rfl,rfl,rfl⟩,⟨rfl,rfl,rfl,rfl⟩,trivial⟩
 | false =>
 rw [e0,cond_false] at hP hI
 subst hP hI
 have hm:=of_decide_eq_false e0
 conv=>whnf
 refine acall.au [0,3,4] [] (hld) ?_
 intro _
 conv=>whnf
 refine CutL.by (fun _:Unit=>⟨[(0,.ptr 0 0),(5,.tr (ti (L.length:Nat)))],[(0,lwN c sl (L.length+1) ov 3),(3,ndsB (L1++[{ n with origin:=L.length }]))],10⟩) (fun _=>True) ?_ ?_
 ·conv=>whnf
  refine ⟨rfl,rfl,rfl,(by rw [List.length_map]; omega),(show (L.length+1)*96≤150000000000000 by omega),fun q hq => ?_,?_⟩
  ·cases hq with
   | head=>exact Nat.ne_of_beq_eq_false rfl
   | tail _ h =>
    first
    | (cases h; done)
    | (cases h with
     | head=>exact Nat.ne_of_beq_eq_false rfl
     | tail _ h=>cases h)
  conv=>whnf
  refine ⟨by kernel_rfl,fun _ => ?_⟩
  conv=>whnf
  have hda:(L1.map Nd.cells).take L.length++[({ n with origin:=L.length }:Nd).cells]=(L1++[{ n with origin:=L.length }]).map Nd.cells:=by
   rw [List.take_of_length_le (by rw [List.length_map]; omega),List.map_append]; rfl
  exact ⟨(),[0,1,2,_],[],Sub.mk' rfl ⟨⟨rfl,rfl⟩,.inl rfl,trivial⟩ ⟨⟨rfl,.inl rfl,.inl rfl,.inl rfl,.inl rfl,.inl rfl,.inl rfl,.inl rfl,⟨rfl,rfl⟩,.inl rfl,.inl rfl,trivial⟩,⟨rfl,rfl,rfl,hda⟩,trivial⟩ rfl rfl,trivial⟩
 rintro - - -
 conv=>whnf
 refine acall.au [0,3] [] (k_nextGN c sl (L.length+1) L.length ov (L1++[{ n with origin:=L.length }])) ?_
 intro _
 conv=>whnf
 have hl2:(L1++[({ n with origin:=(L.length:Nat) }:Nd)]).length=L.length+1:=by rw [List.length_append,hLl]; rfl
 exact ⟨[0,1,2,3,14],rfl,rfl,.inl rfl,⟨rfl,.inl rfl,.inl rfl,.inl rfl,.inl rfl,.inl rfl,.inl rfl,.inl rfl,⟨rfl,hl2.symm⟩,⟨rfl,rfl⟩,.inl rfl,trivial⟩,⟨rfl,rfl,rfl,rfl⟩,⟨rfl,rfl,rfl,rfl⟩,trivial⟩
end Go.Proofs.YthboippafkcoiaaDoor.am
namespace Go.Proofs.YthboippafkcoiaaDoor.am
open Go Go.Proofs
set_option linter.all false
mutual
def wfE:Expr→Bool
 | .mk kind op _ _ kids _=>(kind == 1 || kind == 2 || (bif two op then decide (2≤kids.length) else decide (1≤kids.length))) && wfEs kids
def wfEs:List Expr→Bool
 | []=>true
 | e::l=>wfE e && wfEs l
end
mutual
theorem exprS_ok (c:LowC) : ∀ (e:Expr) (s:LowS),OkS s→OkS (exprS c e s).1
 | .mk kind op word name kids _,s,h=>by
  have h0:=kid0S_ok c kids s h
  have h1:=kid1S_ok c kids _ h0
  unfold exprS
  cases kind == 1 with
  | true=>exact h
  | false =>
  cases kind == 2 with
  | true =>
   cases decide (localI c.p c.t name ≥ 0) with
   | true=>exact h
   | false=>exact putS_ok _ (slotS_ok h)
  | false =>
  cases two op with
  | true=>exact putS_ok _ (slotS_ok h1)
  | false=>exact putS_ok _ (slotS_ok h0)
theorem kid0S_ok (c:LowC) : ∀ (l:List Expr) (s:LowS),OkS s→OkS (kid0S c l s).1
 | [],s,h=>by unfold kid0S; exact h
 | e::_,s,h=>by unfold kid0S; exact exprS_ok c e s h
theorem kid1S_ok (c:LowC) : ∀ (l:List Expr) (s:LowS),OkS s→OkS (kid1S c l s).1
 | [],s,h=>by unfold kid1S; exact h
 | _::r,s,h=>by unfold kid1S; exact kid0S_ok c r s h
end
abbrev vA (v:Val):AV := .agg [.tr (tb v.s),.tr (ti v.k),.tr (ti v.w)]
theorem k_inV (k:Int):K 69 [.tr (ti k)] [] (.ret (vA (inV k))) []:=k_in k
set_option maxRecDepth 100000 in
set_option maxHeartbeats 2000000 in
theorem k_valueG (c:LowC) : ∀ (n:Nat) (e:Expr) (s:LowS),SizeOf.sizeOf e<n→wfE e=true→OkS s→K 65 [.ptr 0 0,e.av] (stI c s) (.ret (vA (exprS c e s).2)) (stO c (exprS c e s).1):=by
 intro n
 induction n with
 | zero=>intro e s h; omega
 | succ n ih =>
 intro e s hsz hwf hS
 obtain ⟨kind,op,word,name,kids,at_⟩:=e
 simp only [Expr.mk.sizeOf_spec] at hsz
 have hloc:=k20 c.p (c.t:Nat) name
 have hsh:=k16 c.p name
 have hE:exprS c (.mk kind op word name kids at_) s=bif kind == 1 then (s,⟨false,0,word⟩)
  else bif kind == 2 then (bif decide (localI c.p c.t name ≥ 0) then (s,inV (localI c.p c.t name))
   else (putS { nd00 with kind:=2,thing:=findI c.p.shared name 0,slot:=slotI s } (slotS s),inV (slotI s)))
  else bif two op then (putS { nd00 with kind:=1,op:=op,a:=(kid0S c kids s).2,b:=(kid1S c kids (kid0S c kids s).1).2,slot:=slotI (kid1S c kids (kid0S c kids s).1).1 } (slotS (kid1S c kids (kid0S c kids s).1).1),inV (slotI (kid1S c kids (kid0S c kids s).1).1))
  else (putS { nd00 with kind:=1,op:=op,a:=(kid0S c kids s).2,slot:=slotI (kid0S c kids s).1 } (slotS (kid0S c kids s).1),inV (slotI (kid0S c kids s).1)):=by rw [exprS]
 generalize exprS c (.mk kind op word name kids at_) s=R at hE ⊢
 unfold wfE at hwf
 rw [Bool.and_eq_true] at hwf
 refine Ctr.mv [9,10,11,12,14,16] [0,3,4] 5 hT hmix Tryd.func65 rfl (fun _ _=>by kernel_rfl) rfl (fun hok => ?_)
 clear hok
 conv=>whnf
 refine CutL.by (fun _:Unit=>⟨[(0,.ptr 0 0),(3,.ptr 5 0),(4,.ptr 6 0)],[(0,stB c s 3 4),(3,ndsB s.nodes),(4,opsB s.opens),(5,.cells 81 ((Expr.mk kind op word name kids at_).cells.map .tr)),(6,.cells 52 [.tr (tb false),.tr (ti 0),.tr (ti 0)])],20⟩) (fun _=>(kind == 1)=false∧(kind == 2)=false) ?_ ?_
 ·conv=>whnf
  cases h1:(kind == 1) with
  | true =>
   rw [h1,cond_true] at hE
   subst hE
   conv=>whnf
   exact ⟨[0,1,2,3,4],rfl,rfl,⟨.inl rfl,.inl rfl,.inl rfl,trivial⟩,⟨rfl,.inl rfl,.inl rfl,.inl rfl,.inl rfl,.inl rfl,.inl rfl,.inl rfl,⟨rfl,rfl⟩,⟨rfl,rfl⟩,.inl rfl,trivial⟩,⟨rfl,rfl,rfl,rfl⟩,⟨rfl,rfl,rfl,rfl⟩,trivial⟩
  | false =>
  rw [h1,cond_false] at hE
  conv=>whnf
  cases h2:(kind == 2) with
  | true =>
   rw [h2,cond_true] at hE
   generalize localI c.p (c.t:Nat) name=LI at hloc hE
   generalize findI c.p.shared name 0=FI at hsh hE
   conv=>whnf
   refine acall.pure _ (hloc) rfl rfl ?_
   conv=>whnf
   refine ⟨by kernel_rfl,fun _ => ?_⟩
   conv=>whnf
   cases h3:decide (LI ≥ 0) with
   | true =>
    rw [h3,cond_true] at hE
    subst hE
    conv=>whnf
    refine acall.pure _ (k_inV LI) rfl rfl fun _ => ?_
    conv=>whnf
    exact ⟨[0,1,2,3,4],rfl,rfl,⟨.inl rfl,.inl rfl,.inl rfl,trivial⟩,⟨rfl,.inl rfl,.inl rfl,.inl rfl,.inl rfl,.inl rfl,.inl rfl,.inl rfl,⟨rfl,rfl⟩,⟨rfl,rfl⟩,.inl rfl,trivial⟩,⟨rfl,rfl,rfl,rfl⟩,⟨rfl,rfl,rfl,rfl⟩,trivial⟩
   | false =>
   rw [h3,cond_false] at hE
   subst hE
   conv=>whnf
   refine CutL.by (fun _:Unit=>⟨[(0,.ptr 0 0),(3,.ptr 5 0),(4,.ptr 6 0),(6,.ptr 7 0)],[(0,stB c (slotS s) 3 4),(3,ndsB (slotS s).nodes),(4,opsB (slotS s).opens),(5,.cells 81 ((Expr.mk kind op word name kids at_).cells.map .tr)),(6,.cells 52 [.tr (tb false),.tr (ti 0),.tr (ti 0)]),(7,.cells 54 (({ nd00 with kind:=2,thing:=FI,slot:=slotI s }:Nd).cells.map .tr))],20⟩) (fun _=>True) ?_ ?_
   ·conv=>whnf
    refine acall.pure _ (hsh) rfl rfl ?_
    conv=>whnf
    refine acall.au [0,3,4] [] (k_slotG c s) ?_
    conv=>whnf
    refine ⟨by kernel_rfl,fun _ => ?_⟩
    conv=>whnf
    exact ⟨(),[0,1,2,3,4,5,6,_],[],Sub.mk' rfl ⟨⟨rfl,rfl⟩,⟨rfl,rfl⟩,⟨rfl,rfl⟩,⟨rfl,rfl⟩,trivial⟩ ⟨⟨rfl,.inl rfl,.inl rfl,.inl rfl,.inl rfl,.inl rfl,.inl rfl,.inl rfl,⟨rfl,rfl⟩,⟨rfl,rfl⟩,.inl rfl,trivial⟩,⟨rfl,rfl,rfl,rfl⟩,⟨rfl,rfl,rfl,rfl⟩,⟨rfl,.inl rfl,.inl rfl,.inl rfl,.inl rfl,.inl rfl,.inl rfl,trivial⟩,⟨rfl,.inl rfl,.inl rfl,.inl rfl,trivial⟩,⟨rfl,.inl rfl,.inl rfl,.inl rfl,.inl rfl,.inl rfl,.inl rfl,.inl rfl,.inl rfl,.inl rfl,.inl rfl,.inl rfl,.inl rfl,.inl rfl,trivial⟩,trivial⟩ rfl rfl,trivial⟩
   rintro - - -
   conv=>whnf
   refine CutL.by (fun _:Unit=>⟨[(0,.ptr 0 0),(3,.ptr 5 0),(4,.ptr 6 0),(6,.ptr 7 0)],[(0,stB c (putS { nd00 with kind:=2,thing:=FI,slot:=slotI s } (slotS s)) 3 4),(3,ndsB (putS { nd00 with kind:=2,thing:=FI,slot:=slotI s } (slotS s)).nodes),(4,opsB (putS { nd00 with kind:=2,thing:=FI,slot:=slotI s } (slotS s)).opens),(5,.cells 81 ((Expr.mk kind op word name kids at_).cells.map .tr)),(6,.cells 52 [.tr (tb false),.tr (ti 0),.tr (ti 0)]),(7,.cells 54 (({ nd00 with kind:=2,thing:=FI,slot:=slotI s }:Nd).cells.map .tr))],20⟩) (fun _=>True) ?_ ?_
   ·have hp:=k_putG c { nd00 with kind:=2,thing:=FI,slot:=slotI s } (slotS s) (slotS_ok hS)
    generalize putS { nd00 with kind:=2,thing:=FI,slot:=slotI s } (slotS s)=S2 at hp ⊢
    conv=>whnf
    refine acall.new [0,3,4] [] _ _ _ _ (hp) rfl rfl rfl rfl aut aut rfl rfl ?_
    conv=>whnf
    intro _
    conv=>whnf
    exact ⟨(),[0,1,2,_,_,5,6,7],[],Sub.mk' rfl ⟨⟨rfl,rfl⟩,⟨rfl,rfl⟩,⟨rfl,rfl⟩,⟨rfl,rfl⟩,trivial⟩ ⟨⟨rfl,.inl rfl,.inl rfl,.inl rfl,.inl rfl,.inl rfl,.inl rfl,.inl rfl,⟨rfl,rfl⟩,⟨rfl,rfl⟩,.inl rfl,trivial⟩,⟨rfl,rfl,rfl,rfl⟩,⟨rfl,rfl,rfl,rfl⟩,⟨rfl,.inl rfl,.inl rfl,.inl rfl,.inl rfl,.inl rfl,.inl rfl,trivial⟩,⟨rfl,.inl rfl,.inl rfl,.inl rfl,trivial⟩,⟨rfl,.inl rfl,.inl rfl,.inl rfl,.inl rfl,.inl rfl,.inl rfl,.inl rfl,.inl rfl,.inl rfl,.inl rfl,.inl rfl,.inl rfl,.inl rfl,trivial⟩,trivial⟩ rfl rfl,trivial⟩
   rintro - - -
   generalize putS { nd00 with kind:=2,thing:=FI,slot:=slotI s } (slotS s)=S2
   conv=>whnf
   refine acall.pure _ (k_inV (slotI s)) rfl rfl fun _ => ?_
   conv=>whnf
   exact ⟨[0,1,2,3,4],rfl,rfl,⟨.inl rfl,.inl rfl,.inl rfl,trivial⟩,⟨rfl,.inl rfl,.inl rfl,.inl rfl,.inl rfl,.inl rfl,.inl rfl,.inl rfl,⟨rfl,rfl⟩,⟨rfl,rfl⟩,.inl rfl,trivial⟩,⟨rfl,rfl,rfl,rfl⟩,⟨rfl,rfl,rfl,rfl⟩,trivial⟩
  | false =>
   conv=>whnf
   exact ⟨(),[0,1,2,3,4,5,6],[],Sub.mk' rfl ⟨⟨rfl,rfl⟩,⟨rfl,rfl⟩,⟨rfl,rfl⟩,trivial⟩ ⟨⟨rfl,.inl rfl,.inl rfl,.inl rfl,.inl rfl,.inl rfl,.inl rfl,.inl rfl,⟨rfl,rfl⟩,⟨rfl,rfl⟩,.inl rfl,trivial⟩,⟨rfl,rfl,rfl,rfl⟩,⟨rfl,rfl,rfl,rfl⟩,⟨rfl,.inl rfl,.inl rfl,.inl rfl,.inl rfl,.inl rfl,.inl rfl,trivial⟩,⟨rfl,.inl rfl,.inl rfl,.inl rfl,trivial⟩,trivial⟩ rfl rfl,rfl,rfl⟩
 rintro - ⟨h1,h2⟩ -
 rw [h1,cond_false] at hE
 rw [h2,cond_false] at hE
 have hkl:1≤kids.length∧(two op=true→2≤kids.length):=by
  have:=hwf.1
  rw [h1,h2] at this
  cases ht:two op with
  | true=>rw [ht] at this; have:=of_decide_eq_true (show decide (2≤kids.length)=true by simpa using this); exact ⟨by omega,fun _=>this⟩
  | false=>rw [ht] at this; have:=of_decide_eq_true (show decide (1≤kids.length)=true by simpa using this); exact ⟨this,fun h=>by cases h⟩
 obtain ⟨k0,kr,rfl⟩ : ∃ k0 kr,kids=k0::kr:=by
  cases kids with
  | nil=>exact absurd hkl.1 (by simp)
  | cons a r=>exact ⟨a,r,rfl⟩
 have hw0:wfE k0=true∧wfEs kr=true:=by have:=hwf.2; unfold wfEs at this; rw [Bool.and_eq_true] at this; exact this
 simp only [List.cons.sizeOf_spec] at hsz
 have hv0:=ih k0 s (by omega) hw0.1 hS
 have hA:kid0S c (k0::kr) s=exprS c k0 s:=by rw [kid0S]
 have hSA:=exprS_ok c k0 s hS
 have hB : ∀ s,kid1S c (k0::kr) s=kid0S c kr s:=fun s=>by rw [kid1S]
 rw [hA] at hE
 simp only [hB] at hE
 generalize exprS c k0 s=A at hE hv0 hSA
 have htw:=k_two op
 clear hA hB
 conv=>whnf
 refine CutL.by (fun _:Unit=>⟨[(0,.ptr 0 0),(3,.ptr 5 0),(4,.ptr 6 0),(7,.ptr 7 0)],[(0,stB c (A.1) 3 4),(3,ndsB (A.1).nodes),(4,opsB (A.1).opens),(5,.cells 81 ((Expr.mk kind op word name (k0::kr) at_).cells.map .tr)),(6,.cells 52 [.tr (tb false),.tr (ti 0),.tr (ti 0)]),(7,.cells 54 (({ nd00 with kind:=1,op:=op,a:=A.2 }:Nd).cells.map .tr))],20⟩) (fun _=>True) ?_ ?_
 ·obtain ⟨q1,q2,q3,q4,q5,q6⟩:=k0
  conv=>whnf
  refine ⟨rfl,Int.le_refl 0,(show (0:Int)<((Expr.rows (Expr.mk q1 q2 q3 q4 q5 q6::kr)).length:Int) by rw [erows_len,List.length_cons]; omega),fun row hrow => ?_⟩
  obtain rfl:Expr.cells (.mk q1 q2 q3 q4 q5 q6)=row:=Option.some.inj hrow
  clear hrow
  conv=>whnf
  refine acall.new [0,3,4] [] _ _ _ _ (hv0) rfl rfl rfl rfl aut aut rfl rfl ?_
  conv=>whnf
  refine ⟨by kernel_rfl,fun _ => ?_⟩
  conv=>whnf
  exact ⟨(),[0,1,2,_,_,5,6,_],[],Sub.mk' rfl ⟨⟨rfl,rfl⟩,⟨rfl,rfl⟩,⟨rfl,rfl⟩,⟨rfl,rfl⟩,trivial⟩ ⟨⟨rfl,.inl rfl,.inl rfl,.inl rfl,.inl rfl,.inl rfl,.inl rfl,.inl rfl,⟨rfl,rfl⟩,⟨rfl,rfl⟩,.inl rfl,trivial⟩,⟨rfl,rfl,rfl,rfl⟩,⟨rfl,rfl,rfl,rfl⟩,⟨rfl,.inl rfl,.inl rfl,.inl rfl,.inl rfl,.inl rfl,.inl rfl,trivial⟩,⟨rfl,.inl rfl,.inl rfl,.inl rfl,trivial⟩,⟨rfl,.inl rfl,.inl rfl,.inl rfl,.inl rfl,.inl rfl,.inl rfl,.inl rfl,.inl rfl,.inl rfl,.inl rfl,.inl rfl,.inl rfl,.inl rfl,trivial⟩,trivial⟩ rfl rfl,trivial⟩
 rintro - - -
 conv=>whnf
 refine CutL.by (fun _:Unit=>⟨[(0,.ptr 0 0),(3,.ptr 5 0),(4,.ptr 6 0),(7,.ptr 7 0)],[(0,stB c (bif two op then (kid0S c kr A.1).1 else A.1) 3 4),(3,ndsB (bif two op then (kid0S c kr A.1).1 else A.1).nodes),(4,opsB (bif two op then (kid0S c kr A.1).1 else A.1).opens),(5,.cells 81 ((Expr.mk kind op word name (k0::kr) at_).cells.map .tr)),(6,.cells 52 [.tr (tb false),.tr (ti 0),.tr (ti 0)]),(7,.cells 54 (({ nd00 with kind:=1,op:=op,a:=A.2,b:=bif two op then (kid0S c kr A.1).2 else v00 }:Nd).cells.map .tr))],20⟩) (fun _=>True) ?_ ?_
 ·conv=>whnf
  refine acall.pure _ (htw) rfl rfl fun _ => ?_
  conv=>whnf
  cases ht:two op with
  | false =>
   conv=>whnf
   exact ⟨(),[0,1,2,3,4,5,6,7],[],Sub.mk' rfl ⟨⟨rfl,rfl⟩,⟨rfl,rfl⟩,⟨rfl,rfl⟩,⟨rfl,rfl⟩,trivial⟩ ⟨⟨rfl,.inl rfl,.inl rfl,.inl rfl,.inl rfl,.inl rfl,.inl rfl,.inl rfl,⟨rfl,rfl⟩,⟨rfl,rfl⟩,.inl rfl,trivial⟩,⟨rfl,rfl,rfl,rfl⟩,⟨rfl,rfl,rfl,rfl⟩,⟨rfl,.inl rfl,.inl rfl,.inl rfl,.inl rfl,.inl rfl,.inl rfl,trivial⟩,⟨rfl,.inl rfl,.inl rfl,.inl rfl,trivial⟩,⟨rfl,.inl rfl,.inl rfl,.inl rfl,.inl rfl,.inl rfl,.inl rfl,.inl rfl,.inl rfl,.inl rfl,.inl rfl,.inl rfl,.inl rfl,.inl rfl,trivial⟩,trivial⟩ rfl rfl,trivial⟩
  | true =>
  obtain ⟨k1,kr,rfl⟩ : ∃ k0 kr',kr=k0::kr':=by
   have:=hkl.2 ht
   cases kr with
   | nil=>simp at this
   | cons a r=>exact ⟨a,r,rfl⟩
  have hw1:wfE k1=true:=by have:=hw0.2; unfold wfEs at this; rw [Bool.and_eq_true] at this; exact this.1
  simp only [List.cons.sizeOf_spec] at hsz
  have hv1:=ih k1 A.1 (by omega) hw1 hSA
  have hA1:kid0S c (k1::kr) A.1=exprS c k1 A.1:=by rw [kid0S]
  rw [hA1]
  generalize exprS c k1 A.1=B at hv1 ⊢
  obtain ⟨q1,q2,q3,q4,q5,q6⟩:=k1
  conv=>whnf
  refine ⟨rfl,(show (0:Int)≤1 by decide),(show (1:Int)<((Expr.rows (k0::Expr.mk q1 q2 q3 q4 q5 q6::kr)).length:Int) by rw [erows_len,List.length_cons,List.length_cons]; omega),fun row hrow => ?_⟩
  obtain rfl:Expr.cells (.mk q1 q2 q3 q4 q5 q6)=row:=Option.some.inj hrow
  clear hrow
  conv=>whnf
  refine acall.new [0,3,4] [] _ _ _ _ (hv1) rfl rfl rfl rfl aut aut rfl rfl ?_
  conv=>whnf
  intro _
  conv=>whnf
  exact ⟨(),[0,1,2,_,_,5,6,7],[],Sub.mk' rfl ⟨⟨rfl,rfl⟩,⟨rfl,rfl⟩,⟨rfl,rfl⟩,⟨rfl,rfl⟩,trivial⟩ ⟨⟨rfl,.inl rfl,.inl rfl,.inl rfl,.inl rfl,.inl rfl,.inl rfl,.inl rfl,⟨rfl,rfl⟩,⟨rfl,rfl⟩,.inl rfl,trivial⟩,⟨rfl,rfl,rfl,rfl⟩,⟨rfl,rfl,rfl,rfl⟩,⟨rfl,.inl rfl,.inl rfl,.inl rfl,.inl rfl,.inl rfl,.inl rfl,trivial⟩,⟨rfl,.inl rfl,.inl rfl,.inl rfl,trivial⟩,⟨rfl,.inl rfl,.inl rfl,.inl rfl,.inl rfl,.inl rfl,.inl rfl,.inl rfl,.inl rfl,.inl rfl,.inl rfl,.inl rfl,.inl rfl,.inl rfl,trivial⟩,trivial⟩ rfl rfl,trivial⟩
 rintro - - -
 have hS2:OkS (bif two op then (kid0S c kr A.1).1 else A.1):=by
  cases two op with
  | true=>exact kid0S_ok c kr _ hSA
  | false=>exact hSA
 have hR:R=(putS { nd00 with kind:=1,op:=op,a:=A.2,b:=bif two op then (kid0S c kr A.1).2 else v00,slot:=slotI (bif two op then (kid0S c kr A.1).1 else A.1) } (slotS (bif two op then (kid0S c kr A.1).1 else A.1)),inV (slotI (bif two op then (kid0S c kr A.1).1 else A.1))):=by
  rw [hE]
  cases two op <;> rfl
 generalize (bif two op then (kid0S c kr A.1).1 else A.1)=S1 at hR hS2 ⊢
 generalize (bif two op then (kid0S c kr A.1).2 else v00)=B2 at hR ⊢
 clear hE hv0
 subst hR
 have hp:=k_putG c { nd00 with kind:=1,op:=op,a:=A.2,b:=B2,slot:=slotI S1 } (slotS S1) (slotS_ok hS2)
 generalize putS { nd00 with kind:=1,op:=op,a:=A.2,b:=B2,slot:=slotI S1 } (slotS S1)=S3 at hp ⊢
 conv=>whnf
 refine acall.au [0,3,4] [] (k_slotG c S1) ?_
 intro _
 conv=>whnf
 refine CutL.by (fun _:Unit=>⟨[(0,.ptr 0 0),(3,.ptr 5 0),(4,.ptr 6 0),(7,.ptr 7 0)],[(0,stB c (S3) 3 4),(3,ndsB (S3).nodes),(4,opsB (S3).opens),(5,.cells 81 ((Expr.mk kind op word name (k0::kr) at_).cells.map .tr)),(6,.cells 52 [.tr (tb false),.tr (ti 0),.tr (ti 0)]),(7,.cells 54 (({ nd00 with kind:=1,op:=op,a:=A.2,b:=B2,slot:=slotI S1 }:Nd).cells.map .tr))],20⟩) (fun _=>True) ?_ ?_
 ·conv=>whnf
  refine acall.new [0,3,4] [] _ _ _ _ (hp) rfl rfl rfl rfl aut aut rfl rfl ?_
  conv=>whnf
  intro _
  conv=>whnf
  exact ⟨(),[0,1,2,_,_,5,6,7],[],Sub.mk' rfl ⟨⟨rfl,rfl⟩,⟨rfl,rfl⟩,⟨rfl,rfl⟩,⟨rfl,rfl⟩,trivial⟩ ⟨⟨rfl,.inl rfl,.inl rfl,.inl rfl,.inl rfl,.inl rfl,.inl rfl,.inl rfl,⟨rfl,rfl⟩,⟨rfl,rfl⟩,.inl rfl,trivial⟩,⟨rfl,rfl,rfl,rfl⟩,⟨rfl,rfl,rfl,rfl⟩,⟨rfl,.inl rfl,.inl rfl,.inl rfl,.inl rfl,.inl rfl,.inl rfl,trivial⟩,⟨rfl,.inl rfl,.inl rfl,.inl rfl,trivial⟩,⟨rfl,.inl rfl,.inl rfl,.inl rfl,.inl rfl,.inl rfl,.inl rfl,.inl rfl,.inl rfl,.inl rfl,.inl rfl,.inl rfl,.inl rfl,.inl rfl,trivial⟩,trivial⟩ rfl rfl,trivial⟩
 rintro - - -
 conv=>whnf
 refine acall.pure _ (k_inV (slotI S1)) rfl rfl fun _ => ?_
 conv=>whnf
 exact ⟨[0,1,2,3,4],rfl,rfl,⟨.inl rfl,.inl rfl,.inl rfl,trivial⟩,⟨rfl,.inl rfl,.inl rfl,.inl rfl,.inl rfl,.inl rfl,.inl rfl,.inl rfl,⟨rfl,rfl⟩,⟨rfl,rfl⟩,.inl rfl,trivial⟩,⟨rfl,rfl,rfl,rfl⟩,⟨rfl,rfl,rfl,rfl⟩,trivial⟩
end Go.Proofs.YthboippafkcoiaaDoor.am
namespace Go.Proofs.YthboippafkcoiaaDoor.am
open Go Go.Proofs
set_option linter.all false
def ov (b:Bool):Nat:=match b with | true=>1 | false=>0
def innS (s:LowS):Prop := ∀ o ∈ s.opens,o.2<s.nodes.length
structure RelE (s s':LowS):Prop where
 nodes:s.nodes.length≤s'.nodes.length
 cap:s.nodes.length≤4096→s'.nodes.length≤4096
 over:ov s.over≤ov s'.over
 opens:s'.opens.length+s.nodes.length≤s.opens.length+(1 - s.opens.length)+s'.nodes.length
 inn:innS s→innS s'
structure RelS (s s':LowS):Prop where
 nodes:s.nodes.length≤s'.nodes.length
 cap:s.nodes.length≤4096→s'.nodes.length≤4096
 over:ov s.over≤ov s'.over
 opens:s'.opens.length+s.nodes.length+ov s.over≤s.opens.length+(1 - s.opens.length)+s'.nodes.length+ov s'.over
 inn:innS s→innS s'
theorem RelE.refl (s:LowS):RelE s s:=⟨Nat.le_refl _,id,Nat.le_refl _,by omega,id⟩
theorem RelE.trans {a b c:LowS} (h:RelE a b) (k:RelE b c):RelE a c:=by
 refine ⟨Nat.le_trans h.nodes k.nodes,fun q=>k.cap (h.cap q),Nat.le_trans h.over k.over,?_,fun q=>k.inn (h.inn q)⟩
 have:=h.nodes; have:=k.nodes; have:=h.opens; have:=k.opens
 omega
theorem RelE.toS {a b:LowS} (h:RelE a b):RelS a b:=by
 refine ⟨h.nodes,h.cap,h.over,?_,h.inn⟩
 have:=h.over; have:=h.opens
 omega
theorem RelS.refl (s:LowS):RelS s s:=(RelE.refl s).toS
theorem RelS.trans {a b c:LowS} (h:RelS a b) (k:RelS b c):RelS a c:=by
 refine ⟨Nat.le_trans h.nodes k.nodes,fun q=>k.cap (h.cap q),Nat.le_trans h.over k.over,?_,fun q=>k.inn (h.inn q)⟩
 have:=h.nodes; have:=k.nodes; have:=h.opens; have:=k.opens; have:=h.over; have:=k.over
 omega
theorem slotS_rel (s:LowS):RelE s (slotS s):=⟨Nat.le_refl _,id,Nat.le_refl _,by show s.opens.length+s.nodes.length≤_+s.nodes.length; omega,id⟩
theorem putS_big {s:LowS} (n:Nd) (h:decide ((s.nodes.length:Int) ≥ 4096)=true):putS n s = { s with over:=true }:=by unfold putS; rw [h]; rfl
theorem putS_small {s:LowS} (n:Nd) (h:decide ((s.nodes.length:Int) ≥ 4096)=false):putS n s = { s with nodes:=leadN s.nodes.length s.opens s.nodes++[{ n with origin:=s.nodes.length }],opens:=[(false,s.nodes.length)] }:=by unfold putS; rw [h]; rfl
theorem putS_len {s:LowS} (n:Nd) (h:decide ((s.nodes.length:Int) ≥ 4096)=false):(putS n s).nodes.length=s.nodes.length+1:=by
 rw [putS_small n h]
 show (leadN s.nodes.length s.opens s.nodes++[_]).length=_
 rw [List.length_append,leadN_len]; rfl
theorem putS_rel (n:Nd) (s:LowS):RelE s (putS n s):=by
 cases h:decide ((s.nodes.length:Int) ≥ 4096) with
 | true =>
  rw [putS_big n h]
  refine ⟨Nat.le_refl _,id,?_,by show s.opens.length+s.nodes.length≤_+s.nodes.length; omega,id⟩
  show ov s.over≤1
  cases s.over <;> decide
 | false =>
  have hl:=putS_len n h
  have hlt:=of_decide_eq_false h
  refine ⟨by omega,fun _=>by omega,?_,?_,fun hi => ?_⟩
  ·rw [putS_small n h]; exact Nat.le_refl _
  ·have:(putS n s).opens.length=1:=by rw [putS_small n h]; rfl
   omega
  ·intro o ho
   have ho:o ∈ (putS n s).opens:=ho
   have e:(putS n s).opens=[(false,s.nodes.length)]:=by rw [putS_small n h]
   rw [e,List.mem_singleton] at ho
   subst ho
   rw [hl]
   exact Nat.lt_succ_self _
mutual
theorem exprS_rel (c:LowC) : ∀ (e:Expr) (s:LowS),RelE s (exprS c e s).1
 | .mk kind op word name kids _,s=>by
  have h0:=kid0S_rel c kids s
  have h1:=kid1S_rel c kids (kid0S c kids s).1
  unfold exprS
  cases kind == 1 with
  | true=>exact .refl s
  | false =>
  cases kind == 2 with
  | true =>
   cases decide (localI c.p c.t name ≥ 0) with
   | true=>exact .refl s
   | false=>exact (slotS_rel s).trans (putS_rel _ _)
  | false =>
  cases two op with
  | true=>exact h0.trans (h1.trans ((slotS_rel _).trans (putS_rel _ _)))
  | false=>exact h0.trans ((slotS_rel _).trans (putS_rel _ _))
theorem kid0S_rel (c:LowC) : ∀ (l:List Expr) (s:LowS),RelE s (kid0S c l s).1
 | [],s=>by unfold kid0S; exact .refl s
 | e::_,s=>by unfold kid0S; exact exprS_rel c e s
theorem kid1S_rel (c:LowC) : ∀ (l:List Expr) (s:LowS),RelE s (kid1S c l s).1
 | [],s=>by unfold kid1S; exact .refl s
 | _::r,s=>by unfold kid1S; exact kid0S_rel c r s
end
theorem giveS_rel (c:LowC) (name:ByteArray) (v:Val) (s:LowS):RelE s (giveS c name v s):=by
 unfold giveS
 cases decide (localI c.p c.t name ≥ 0) <;> exact putS_rel _ _
theorem swapS_rel (c:LowC) (name other:ByteArray) (v:Val) (s:LowS):RelE s (swapS c name other v s):=by
 unfold swapS
 cases decide (localI c.p c.t name ≥ 0) with
 | true=>exact putS_rel _ _
 | false=>exact (slotS_rel s).trans ((putS_rel _ _).trans (giveS_rel c _ _ _))
theorem blockS_over (c:LowC) (l:List Stmt) {s:LowS} (h:s.over=true):blockS c l s=s:=by
 cases l with
 | nil=>rw [blockS]
 | cons x r=>rw [blockS,h]; rfl
theorem putI_in {s s3:LowS} (n:Nd) (h:RelS (putS n s) s3):(putI s).toNat<s3.nodes.length:=by
 unfold putI
 cases hb:decide ((s.nodes.length:Int) ≥ 4096) with
 | true =>
  have:=of_decide_eq_true hb
  have h1:=h.nodes
  rw [putS_big n hb] at h1
  have h1:s.nodes.length≤s3.nodes.length:=h1
  show 0<s3.nodes.length
  omega
 | false =>
  have h1:=h.nodes
  rw [putS_len n hb] at h1
  show ((s.nodes.length:Int)).toNat<_
  rw [Int.toNat_natCast]
  omega
theorem cond_rel {s s1 s2 s3 s5:LowS} (n:Nd) (ho:s.over=false) (h1:RelE s s1) (h2:s2=putS n s1) (h3:RelS s2 s3) (h3o:s2.over=true→s3=s2) (h5:RelS (openS [(true,(putI s1).toNat)] s3) s5) (h5o:s3.over=true→s5=openS [(true,(putI s1).toNat)] s3):RelS s (openS (s3.opens++s5.opens) s5):=by
 have hp:=putS_rel n s1
 rw [← h2] at hp
 have hb:(putI s1).toNat<s3.nodes.length:=putI_in n (by rw [← h2]; exact h3)
 have hn5:s3.nodes.length≤s5.nodes.length:=h5.nodes
 have hin3:innS s→innS s3:=fun q=>h3.inn (hp.inn (h1.inn q))
 refine ⟨?_,fun q => ?_,?_,?_,fun q => ?_⟩
 ·have:=h1.nodes; have:=hp.nodes; have:=h3.nodes
  show s.nodes.length≤s5.nodes.length
  omega
 ·exact h5.cap (h3.cap (hp.cap (h1.cap q)))
 ·exact Nat.le_trans h1.over (Nat.le_trans hp.over (Nat.le_trans h3.over h5.over))
 ·show (s3.opens++s5.opens).length+s.nodes.length+ov s.over≤s.opens.length+(1 - s.opens.length)+s5.nodes.length+ov s5.over
  rw [List.length_append]
  have o5:s5.opens.length+s3.nodes.length+ov s3.over≤1+s5.nodes.length+ov s5.over:=h5.opens
  have e0:ov s.over=0:=by rw [ho]; rfl
  have n1:=h1.nodes
  have o1:=h1.opens
  cases hbig:decide ((s1.nodes.length:Int) ≥ 4096) with
  | true =>
   have e2:s2 = { s1 with over:=true }:=by rw [h2,putS_big n hbig]
   have e3:s3=s2:=h3o (by rw [e2])
   have e5:=h5o (by rw [e3,e2])
   subst e5
   rw [e3,e2]
   show s1.opens.length+1+s.nodes.length+ov s.over≤s.opens.length+(1 - s.opens.length)+s1.nodes.length+1
   omega
  | false =>
   have l2:s2.nodes.length=s1.nodes.length+1:=by rw [h2,putS_len n hbig]
   have p2:s2.opens.length=1:=by rw [h2,putS_small n hbig]; rfl
   have o3:=h3.opens
   have n3:=h3.nodes
   rw [p2] at o3
   omega
 ·intro o hm
  have hm:o ∈ s3.opens++s5.opens:=hm
  show o.2<s5.nodes.length
  rcases List.mem_append.1 hm with hm | hm
  ·exact Nat.lt_of_lt_of_le (hin3 q o hm) hn5
  ·refine h5.inn (fun o' ho' => ?_) o hm
   have ho':o' ∈ [(true,(putI s1).toNat)]:=ho'
   rw [List.mem_singleton] at ho'
   subst ho'
   exact hb
theorem loop_rel {s s1 s2 s3:LowS} (n:Nd) (h1:RelE s s1) (h2:s2=putS n s1) (h3:RelS s2 s3) (hov:s3.over=false) (to:Int):RelS s { s3 with nodes:=leadN to s3.opens s3.nodes,opens:=[(true,(putI s1).toNat)] }:=by
 have hp:=putS_rel n s1
 rw [← h2] at hp
 have hb:(putI s1).toNat<s3.nodes.length:=putI_in n (by rw [← h2]; exact h3)
 have hl:=leadN_len to s3.opens s3.nodes
 have hm:=h1.toS.trans (hp.toS.trans h3)
 refine ⟨?_,fun q => ?_,hm.over,?_,fun q => ?_⟩
 ·show s.nodes.length≤(leadN to s3.opens s3.nodes).length
  rw [hl]; exact hm.nodes
 ·show (leadN to s3.opens s3.nodes).length≤4096
  rw [hl]; exact hm.cap q
 ·show 1+s.nodes.length+ov s.over≤s.opens.length+(1 - s.opens.length)+(leadN to s3.opens s3.nodes).length+ov s3.over
  rw [hl]
  have:=hm.over; have:=hm.nodes
  omega
 ·intro o ho
  have ho:o ∈ [(true,(putI s1).toNat)]:=ho
  rw [List.mem_singleton] at ho
  subst ho
  show _<(leadN to s3.opens s3.nodes).length
  rw [hl]; exact hb
mutual
theorem stmtS_rel (c:LowC) : ∀ (x:Stmt) (s:LowS),s.over=false→RelS s (stmtS c x s)
 | .mk kind name other e body els _,s,ho=>by
  have h0:=kid0S_rel c e s
  have hb:=fun s=>blockS_rel c body s
  have hl:=fun s=>blockS_rel c els s
  unfold stmtS
  cases kind == 1 with
  | true=>exact (h0.trans (giveS_rel c _ _ _)).toS
  | false =>
  cases kind == 2 with
  | true=>exact (h0.trans (swapS_rel c _ _ _ _)).toS
  | false =>
  cases kind == 3 with
  | true=>exact cond_rel _ ho h0 rfl (hb _) (fun q=>blockS_over c body q) (hl _) (fun q=>blockS_over c els q)
  | false =>
  cases kind == 4 with
  | true =>
   cases hv:(blockS c body (putS { nd00 with kind:=8,a:=(kid0S c e s).2 } (kid0S c e s).1)).over with
   | true=>exact h0.toS.trans ((putS_rel _ _).toS.trans (hb _))
   | false=>exact loop_rel _ h0 rfl (hb _) hv _
  | false =>
  cases kind == 5 with
  | true=>exact (putS_rel _ _).toS.trans ((hb _).trans (putS_rel _ _).toS)
  | false =>
  cases kind == 6 with
  | true=>exact (h0.trans (putS_rel _ _)).toS
  | false=>exact .refl s
theorem blockS_rel (c:LowC) : ∀ (l:List Stmt) (s:LowS),RelS s (blockS c l s)
 | [],s=>by unfold blockS; exact .refl s
 | x::r,s=>by
  unfold blockS
  cases h:s.over with
  | true=>exact .refl s
  | false=>exact (stmtS_rel c x s h).trans (blockS_rel c r _)
end
structure OkA (s:LowS):Prop where
 inn:innS s
 cap:s.nodes.length≤4096
 bnd:s.opens.length≤1+s.nodes.length+ov s.over
theorem ov_le (b:Bool):ov b≤1:=by cases b <;> decide
theorem OkA.ok {s:LowS} (h:OkA s):OkS s:=⟨h.inn,by have:=h.cap; have:=h.bnd; have:=ov_le s.over; omega⟩
theorem OkA.rel {s s':LowS} (h:OkA s) (k:RelS s s'):OkA s':=by
 refine ⟨k.inn h.inn,k.cap h.cap,?_⟩
 have:=h.bnd; have:=k.opens; have:=k.over; have:=k.nodes
 omega
theorem OkA.relE {s s':LowS} (h:OkA s) (k:RelE s s'):OkA s':=h.rel k.toS
mutual
def wfS:Stmt→Bool
 | .mk kind _ _ e body els _=>(decide (1≤kind) && decide (kind≤7)) && (kind == 5 || kind == 7 || decide (1≤e.length)) && wfEs e && wfSs body && wfSs els
def wfSs:List Stmt→Bool
 | []=>true
 | x::r=>wfS x && wfSs r
end
end Go.Proofs.YthboippafkcoiaaDoor.am
namespace Go.Proofs.YthboippafkcoiaaDoor.am
open Go Go.Proofs
set_option linter.all false
def KBlk (c:LowC) (l:List Stmt):Prop := ∀ s,OkA s→K 22 [.ptr 0 0,.tr (stmtsT l)] (stI c s) (.ret (.tup [])) (stO c (blockS c l s))
theorem k_valG (c:LowC) (e:Expr) (s:LowS) (hw:wfE e=true) (h:OkA s):K 65 [.ptr 0 0,e.av] (stI c s) (.ret (vA (exprS c e s).2)) (stO c (exprS c e s).1):=k_valueG c _ e s (Nat.lt_succ_self _) hw h.ok
set_option maxRecDepth 100000 in
theorem k_giveG (c:LowC) (name:ByteArray) (v:Val) (s:LowS) (h:OkA s):K 64 [.ptr 0 0,.tr (ts name),vA v] (stI c s) (.ret (.tup [])) (stO c (giveS c name v s)):=by
 have hloc:=k20 c.p (c.t:Nat) name
 have hsh:=k16 c.p name
 have hE:giveS c name v s=bif decide (localI c.p c.t name ≥ 0) then putS { nd00 with kind:=1,slot:=localI c.p c.t name,a:=v } s else putS { nd00 with kind:=3,thing:=findI c.p.shared name 0,a:=v } s:=rfl
 generalize giveS c name v s=R at hE ⊢
 generalize localI c.p (c.t:Nat) name=LI at hloc hE
 generalize findI c.p.shared name 0=FI at hsh hE
 refine Ctr.mv [2,4] [0,3,4] 5 hT hmix Tryd.func64 rfl (fun _ _=>by kernel_rfl) rfl (fun hok => ?_)
 clear hok
 conv=>whnf
 refine CutL.by (fun _:Unit=>⟨[(0,.ptr 0 0),(1,.tr (ts name)),(5,.ptr 5 0)],[(0,stB c (s) 3 4),(3,ndsB (s).nodes),(4,opsB (s).opens),(5,.cells 52 [.tr (tb v.s),.tr (ti v.k),.tr (ti v.w)])],20⟩) (fun _=>decide (LI ≥ 0)=false) ?_ ?_
 ·refine CutL.by (fun _:Unit=>⟨[(0,.ptr 0 0),(1,.tr (ts name)),(5,.ptr 5 0),(6,.tr (ti LI))],[(0,stB c (s) 3 4),(3,ndsB (s).nodes),(4,opsB (s).opens),(5,.cells 52 [.tr (tb v.s),.tr (ti v.k),.tr (ti v.w)])],20⟩) (fun _=>True) ?_ ?_
  ·conv=>whnf
   refine acall.pure _ (hloc) rfl rfl ?_
   conv=>whnf
   refine ⟨by kernel_rfl,fun _ => ?_⟩
   conv=>whnf
   exact ⟨(),[0,1,2,3,4,5],[],Sub.mk' rfl ⟨⟨rfl,rfl⟩,.inl rfl,⟨rfl,rfl⟩,.inl rfl,trivial⟩ ⟨⟨rfl,.inl rfl,.inl rfl,.inl rfl,.inl rfl,.inl rfl,.inl rfl,.inl rfl,⟨rfl,rfl⟩,⟨rfl,rfl⟩,.inl rfl,trivial⟩,⟨rfl,rfl,rfl,rfl⟩,⟨rfl,rfl,rfl,rfl⟩,⟨rfl,.inl rfl,.inl rfl,.inl rfl,trivial⟩,trivial⟩ rfl rfl,trivial⟩
  rintro - - -
  conv=>whnf
  cases h3:decide (LI ≥ 0) with
  | true =>
   rw [h3,cond_true] at hE
   have hp:=k_putG c { nd00 with kind:=1,slot:=LI,a:=v } s h.ok
   rw [← hE] at hp
   clear hE
   conv=>whnf
   refine acall.new [0,3,4] [] _ _ _ _ (hp) rfl rfl rfl rfl aut aut rfl rfl ?_
   conv=>whnf
   intro _
   conv=>whnf
   exact ⟨[0,1,2,_,_],rfl,rfl,trivial,⟨rfl,.inl rfl,.inl rfl,.inl rfl,.inl rfl,.inl rfl,.inl rfl,.inl rfl,⟨rfl,rfl⟩,⟨rfl,rfl⟩,.inl rfl,trivial⟩,⟨rfl,rfl,rfl,rfl⟩,⟨rfl,rfl,rfl,rfl⟩,trivial⟩
  | false =>
   conv=>whnf
   exact ⟨(),[0,1,2,3,4,5],[],Sub.mk' rfl ⟨⟨rfl,rfl⟩,.inl rfl,⟨rfl,rfl⟩,trivial⟩ ⟨⟨rfl,.inl rfl,.inl rfl,.inl rfl,.inl rfl,.inl rfl,.inl rfl,.inl rfl,⟨rfl,rfl⟩,⟨rfl,rfl⟩,.inl rfl,trivial⟩,⟨rfl,rfl,rfl,rfl⟩,⟨rfl,rfl,rfl,rfl⟩,⟨rfl,.inl rfl,.inl rfl,.inl rfl,trivial⟩,trivial⟩ rfl rfl,rfl⟩
 rintro - h3 -
 rw [h3,cond_false] at hE
 have hp:=k_putG c { nd00 with kind:=3,thing:=FI,a:=v } s h.ok
 rw [← hE] at hp
 clear hE
 conv=>whnf
 refine acall.pure _ (hsh) rfl rfl ?_
 conv=>whnf
 refine acall.new [0,3,4] [] _ _ _ _ (hp) rfl rfl rfl rfl aut aut rfl rfl ?_
 conv=>whnf
 refine ⟨by kernel_rfl,fun _ => ?_⟩
 conv=>whnf
 exact ⟨[0,1,2,_,_],rfl,rfl,trivial,⟨rfl,.inl rfl,.inl rfl,.inl rfl,.inl rfl,.inl rfl,.inl rfl,.inl rfl,⟨rfl,rfl⟩,⟨rfl,rfl⟩,.inl rfl,trivial⟩,⟨rfl,rfl,rfl,rfl⟩,⟨rfl,rfl,rfl,rfl⟩,trivial⟩
set_option maxRecDepth 100000 in
set_option maxHeartbeats 2000000 in
theorem k_assignG (c:LowC) (kind:Int) (name other:ByteArray) (e:List Expr) (body els:List Stmt) (at_:Int) (s:LowS) (he:1≤e.length) (hw:wfEs e=true) (h:OkA s):K 39 [.ptr 0 0,(Stmt.mk kind name other e body els at_).av] (stI c s) (.ret (.tup [])) (stO c (giveS c name (kid0S c e s).2 (kid0S c e s).1)):=by
 obtain ⟨e0,er,rfl⟩ : ∃ e0 er,e=e0::er:=by
  cases e with
  | nil=>exact absurd he (by simp)
  | cons a r=>exact ⟨a,r,rfl⟩
 have hw0:wfE e0=true:=by unfold wfEs at hw; rw [Bool.and_eq_true] at hw; exact hw.1
 have hk0:kid0S c (e0::er) s=exprS c e0 s:=by rw [kid0S]
 have hv:=k_valG c e0 s hw0 h
 have hRel:=exprS_rel c e0 s
 rw [hk0]
 clear hk0
 generalize exprS c e0 s=A at hv hRel ⊢
 have hA:=h.relE hRel
 obtain ⟨q1,q2,q3,q4,q5,q6⟩:=e0
 have hg:=k_giveG c name A.2 A.1 hA
 generalize giveS c name A.2 A.1=R at hg ⊢
 refine Ctr.mv [1] [0,3,4] 5 hT hmix Tryd.func39 rfl (fun _ _=>by kernel_rfl) rfl (fun hok => ?_)
 clear hok
 conv=>whnf
 refine CutL.by (fun _:Unit=>⟨[(0,.ptr 0 0),(3,.ptr 5 0)],[(0,stB c (s) 3 4),(3,ndsB (s).nodes),(4,opsB (s).opens),(5,.cells 77 ((Stmt.mk kind name other (Expr.mk q1 q2 q3 q4 q5 q6::er) body els at_).cells.map .tr))],20⟩) (fun _=>True) ?_ ?_
 ·conv=>whnf
  exact ⟨(),[0,1,2,3,4,5],[],Sub.mk' rfl ⟨⟨rfl,rfl⟩,⟨rfl,rfl⟩,trivial⟩ ⟨⟨rfl,.inl rfl,.inl rfl,.inl rfl,.inl rfl,.inl rfl,.inl rfl,.inl rfl,⟨rfl,rfl⟩,⟨rfl,rfl⟩,.inl rfl,trivial⟩,⟨rfl,rfl,rfl,rfl⟩,⟨rfl,rfl,rfl,rfl⟩,⟨rfl,.inl rfl,.inl rfl,.inl rfl,.inl rfl,.inl rfl,.inl rfl,.inl rfl,trivial⟩,trivial⟩ rfl rfl,trivial⟩
 rintro - - -
 conv=>whnf
 refine ⟨rfl,Int.le_refl 0,(show (0:Int)<((Expr.rows (Expr.mk q1 q2 q3 q4 q5 q6::er)).length:Int) by rw [erows_len,List.length_cons]; omega),fun row hrow => ?_⟩
 obtain rfl:Expr.cells (.mk q1 q2 q3 q4 q5 q6)=row:=Option.some.inj hrow
 clear hrow
 conv=>whnf
 refine acall.new [0,3,4] [] _ _ _ _ (hv) rfl rfl rfl rfl aut aut rfl rfl ?_
 conv=>whnf
 refine acall.new [0,28,1048604] [] _ _ _ _ (hg) rfl rfl rfl rfl aut aut rfl rfl ?_
 conv=>whnf
 refine ⟨by kernel_rfl,fun _ => ?_⟩
 conv=>whnf
 exact ⟨[0,1,2,_,_],rfl,rfl,trivial,⟨rfl,.inl rfl,.inl rfl,.inl rfl,.inl rfl,.inl rfl,.inl rfl,.inl rfl,⟨rfl,rfl⟩,⟨rfl,rfl⟩,.inl rfl,trivial⟩,⟨rfl,rfl,rfl,rfl⟩,⟨rfl,rfl,rfl,rfl⟩,trivial⟩
set_option maxRecDepth 100000 in
set_option maxHeartbeats 2000000 in
theorem k_printG (c:LowC) (kind:Int) (name other:ByteArray) (e:List Expr) (body els:List Stmt) (at_:Int) (s:LowS) (he:1≤e.length) (hw:wfEs e=true) (h:OkA s):K 44 [.ptr 0 0,(Stmt.mk kind name other e body els at_).av] (stI c s) (.ret (.tup [])) (stO c (putS { nd00 with kind:=7,a:=(kid0S c e s).2 } (kid0S c e s).1)):=by
 obtain ⟨e0,er,rfl⟩ : ∃ e0 er,e=e0::er:=by
  cases e with
  | nil=>exact absurd he (by simp)
  | cons a r=>exact ⟨a,r,rfl⟩
 have hw0:wfE e0=true:=by unfold wfEs at hw; rw [Bool.and_eq_true] at hw; exact hw.1
 have hk0:kid0S c (e0::er) s=exprS c e0 s:=by rw [kid0S]
 have hv:=k_valG c e0 s hw0 h
 have hRel:=exprS_rel c e0 s
 rw [hk0]
 clear hk0
 generalize exprS c e0 s=A at hv hRel ⊢
 have hA:=h.relE hRel
 obtain ⟨q1,q2,q3,q4,q5,q6⟩:=e0
 have hg:=k_putG c { nd00 with kind:=7,a:=A.2 } A.1 hA.ok
 generalize putS { nd00 with kind:=7,a:=A.2 } A.1=R at hg ⊢
 refine Ctr.mv [1] [0,3,4] 5 hT hmix Tryd.func44 rfl (fun _ _=>by kernel_rfl) rfl (fun hok => ?_)
 clear hok
 conv=>whnf
 refine CutL.by (fun _:Unit=>⟨[(0,.ptr 0 0),(3,.ptr 5 0)],[(0,stB c (s) 3 4),(3,ndsB (s).nodes),(4,opsB (s).opens),(5,.cells 77 ((Stmt.mk kind name other (Expr.mk q1 q2 q3 q4 q5 q6::er) body els at_).cells.map .tr))],20⟩) (fun _=>True) ?_ ?_
 ·conv=>whnf
  exact ⟨(),[0,1,2,3,4,5],[],Sub.mk' rfl ⟨⟨rfl,rfl⟩,⟨rfl,rfl⟩,trivial⟩ ⟨⟨rfl,.inl rfl,.inl rfl,.inl rfl,.inl rfl,.inl rfl,.inl rfl,.inl rfl,⟨rfl,rfl⟩,⟨rfl,rfl⟩,.inl rfl,trivial⟩,⟨rfl,rfl,rfl,rfl⟩,⟨rfl,rfl,rfl,rfl⟩,⟨rfl,.inl rfl,.inl rfl,.inl rfl,.inl rfl,.inl rfl,.inl rfl,.inl rfl,trivial⟩,trivial⟩ rfl rfl,trivial⟩
 rintro - - -
 conv=>whnf
 refine ⟨rfl,Int.le_refl 0,(show (0:Int)<((Expr.rows (Expr.mk q1 q2 q3 q4 q5 q6::er)).length:Int) by rw [erows_len,List.length_cons]; omega),fun row hrow => ?_⟩
 obtain rfl:Expr.cells (.mk q1 q2 q3 q4 q5 q6)=row:=Option.some.inj hrow
 clear hrow
 conv=>whnf
 refine acall.new [0,3,4] [] _ _ _ _ (hv) rfl rfl rfl rfl aut aut rfl rfl ?_
 conv=>whnf
 intro _
 conv=>whnf
 refine acall.new [0,26,1048602] [] _ _ _ _ (hg) rfl rfl rfl rfl aut aut rfl rfl ?_
 conv=>whnf
 intro _
 conv=>whnf
 exact ⟨[0,1,2,_,_],rfl,rfl,trivial,⟨rfl,.inl rfl,.inl rfl,.inl rfl,.inl rfl,.inl rfl,.inl rfl,.inl rfl,⟨rfl,rfl⟩,⟨rfl,rfl⟩,.inl rfl,trivial⟩,⟨rfl,rfl,rfl,rfl⟩,⟨rfl,rfl,rfl,rfl⟩,trivial⟩
set_option maxRecDepth 100000 in
set_option maxHeartbeats 2000000 in
theorem k_skipG (c:LowC) (kind:Int) (name other:ByteArray) (e:List Expr) (body els:List Stmt) (at_:Int) (s:LowS):K 45 [.ptr 0 0,(Stmt.mk kind name other e body els at_).av] (stI c s) (.ret (.tup [])) (stO c (s)):=by
 refine Ctr.mv [] [0,3,4] 5 hT hmix Tryd.func45 rfl (fun _ _=>by kernel_rfl) rfl (fun hok => ?_)
 clear hok
 conv=>whnf
 exact ⟨[0,1,2,3,4],rfl,rfl,trivial,⟨rfl,.inl rfl,.inl rfl,.inl rfl,.inl rfl,.inl rfl,.inl rfl,.inl rfl,⟨rfl,rfl⟩,⟨rfl,rfl⟩,.inl rfl,trivial⟩,⟨rfl,rfl,rfl,rfl⟩,⟨rfl,rfl,rfl,rfl⟩,trivial⟩
set_option maxRecDepth 100000 in
set_option maxHeartbeats 2000000 in
theorem k_lockG (c:LowC) (kind:Int) (name other:ByteArray) (e:List Expr) (body els:List Stmt) (at_:Int) (s:LowS) (h:OkA s) (hB:KBlk c body):K 43 [.ptr 0 0,(Stmt.mk kind name other e body els at_).av] (stI c s) (.ret (.tup [])) (stO c (putS { nd00 with kind:=6,thing:=findI c.p.locks name 0 } (blockS c body (putS { nd00 with kind:=5,thing:=findI c.p.locks name 0 } s)))):=by
 have hlk:=k18 c.p name
 generalize findI c.p.locks name 0=LI at hlk ⊢
 have hp:=k_putG c { nd00 with kind:=5,thing:=LI } s h.ok
 have h2:=h.relE (putS_rel { nd00 with kind:=5,thing:=LI } s)
 generalize putS { nd00 with kind:=5,thing:=LI } s=S2 at hp h2 ⊢
 have hb:=hB S2 h2
 have h3:=h2.rel (blockS_rel c body S2)
 generalize blockS c body S2=S3 at hb h3 ⊢
 have hp2:=k_putG c { nd00 with kind:=6,thing:=LI } S3 h3.ok
 generalize putS { nd00 with kind:=6,thing:=LI } S3=R at hp2 ⊢
 refine Ctr.mv [2,3,4] [0,3,4] 5 hT hmix Tryd.func43 rfl (fun _ _=>by kernel_rfl) rfl (fun hok => ?_)
 clear hok
 conv=>whnf
 refine CutL.by (fun _:Unit=>⟨[(0,.ptr 0 0),(3,.ptr 5 0),(4,.tr (ti LI))],[(0,stB c (s) 3 4),(3,ndsB (s).nodes),(4,opsB (s).opens),(5,.cells 77 ((Stmt.mk kind name other e body els at_).cells.map .tr))],20⟩) (fun _=>True) ?_ ?_
 ·conv=>whnf
  refine acall.pure _ (hlk) rfl rfl ?_
  conv=>whnf
  refine ⟨by kernel_rfl,fun _ => ?_⟩
  conv=>whnf
  exact ⟨(),[0,1,2,3,4,5],[],Sub.mk' rfl ⟨⟨rfl,rfl⟩,⟨rfl,rfl⟩,.inl rfl,trivial⟩ ⟨⟨rfl,.inl rfl,.inl rfl,.inl rfl,.inl rfl,.inl rfl,.inl rfl,.inl rfl,⟨rfl,rfl⟩,⟨rfl,rfl⟩,.inl rfl,trivial⟩,⟨rfl,rfl,rfl,rfl⟩,⟨rfl,rfl,rfl,rfl⟩,⟨rfl,.inl rfl,.inl rfl,.inl rfl,.inl rfl,.inl rfl,.inl rfl,.inl rfl,trivial⟩,trivial⟩ rfl rfl,trivial⟩
 rintro - - -
 conv=>whnf
 refine CutL.by (fun _:Unit=>⟨[(0,.ptr 0 0),(3,.ptr 5 0),(4,.tr (ti LI))],[(0,stB c (S2) 3 4),(3,ndsB (S2).nodes),(4,opsB (S2).opens),(5,.cells 77 ((Stmt.mk kind name other e body els at_).cells.map .tr))],20⟩) (fun _=>True) ?_ ?_
 ·conv=>whnf
  refine acall.new [0,3,4] [] _ _ _ _ (hp) rfl rfl rfl rfl aut aut rfl rfl ?_
  conv=>whnf
  intro _
  conv=>whnf
  exact ⟨(),[0,1,2,_,_,5],[],Sub.mk' rfl ⟨⟨rfl,rfl⟩,⟨rfl,rfl⟩,.inl rfl,trivial⟩ ⟨⟨rfl,.inl rfl,.inl rfl,.inl rfl,.inl rfl,.inl rfl,.inl rfl,.inl rfl,⟨rfl,rfl⟩,⟨rfl,rfl⟩,.inl rfl,trivial⟩,⟨rfl,rfl,rfl,rfl⟩,⟨rfl,rfl,rfl,rfl⟩,⟨rfl,.inl rfl,.inl rfl,.inl rfl,.inl rfl,.inl rfl,.inl rfl,.inl rfl,trivial⟩,trivial⟩ rfl rfl,trivial⟩
 rintro - - -
 conv=>whnf
 refine CutL.by (fun _:Unit=>⟨[(0,.ptr 0 0),(4,.tr (ti LI))],[(0,stB c (S3) 3 4),(3,ndsB (S3).nodes),(4,opsB (S3).opens)],20⟩) (fun _=>True) ?_ ?_
 ·conv=>whnf
  refine acall.new [0,3,4] [] _ _ _ _ (hb) rfl rfl rfl rfl aut aut rfl rfl ?_
  conv=>whnf
  intro _
  conv=>whnf
  exact ⟨(),[0,1,2,_,_],[],Sub.mk' rfl ⟨⟨rfl,rfl⟩,.inl rfl,trivial⟩ ⟨⟨rfl,.inl rfl,.inl rfl,.inl rfl,.inl rfl,.inl rfl,.inl rfl,.inl rfl,⟨rfl,rfl⟩,⟨rfl,rfl⟩,.inl rfl,trivial⟩,⟨rfl,rfl,rfl,rfl⟩,⟨rfl,rfl,rfl,rfl⟩,trivial⟩ rfl rfl,trivial⟩
 rintro - - -
 conv=>whnf
 refine acall.new [0,3,4] [] _ _ _ _ (hp2) rfl rfl rfl rfl aut aut rfl rfl ?_
 conv=>whnf
 intro _
 conv=>whnf
 exact ⟨[0,1,2,_,_],rfl,rfl,trivial,⟨rfl,.inl rfl,.inl rfl,.inl rfl,.inl rfl,.inl rfl,.inl rfl,.inl rfl,⟨rfl,rfl⟩,⟨rfl,rfl⟩,.inl rfl,trivial⟩,⟨rfl,rfl,rfl,rfl⟩,⟨rfl,rfl,rfl,rfl⟩,trivial⟩
set_option maxRecDepth 100000 in
set_option maxHeartbeats 2000000 in
theorem k_condG (c:LowC) (kind:Int) (name other:ByteArray) (e:List Expr) (body els:List Stmt) (at_:Int) (s:LowS) (he:1≤e.length) (hw:wfEs e=true) (h:OkA s) (ho:s.over=false) (hB:KBlk c body) (hL:KBlk c els):K 41 [.ptr 0 0,(Stmt.mk kind name other e body els at_).av] (stI c s) (.ret (.tup [])) (stO c (openS ((blockS c body (putS { nd00 with kind:=8,a:=(kid0S c e s).2 } (kid0S c e s).1)).opens++(blockS c els (openS [(true,(putI (kid0S c e s).1).toNat)] (blockS c body (putS { nd00 with kind:=8,a:=(kid0S c e s).2 } (kid0S c e s).1)))).opens) (blockS c els (openS [(true,(putI (kid0S c e s).1).toNat)] (blockS c body (putS { nd00 with kind:=8,a:=(kid0S c e s).2 } (kid0S c e s).1)))))):=by
 obtain ⟨e0,er,rfl⟩ : ∃ e0 er,e=e0::er:=by
  cases e with
  | nil=>exact absurd he (by simp)
  | cons a r=>exact ⟨a,r,rfl⟩
 have hw0:wfE e0=true:=by unfold wfEs at hw; rw [Bool.and_eq_true] at hw; exact hw.1
 have hk0:kid0S c (e0::er) s=exprS c e0 s:=by rw [kid0S]
 have hv:=k_valG c e0 s hw0 h
 have hRel:=exprS_rel c e0 s
 rw [hk0]
 clear hk0
 generalize exprS c e0 s=A at hv hRel ⊢
 have hA:=h.relE hRel
 obtain ⟨q1,q2,q3,q4,q5,q6⟩:=e0
 have hp:=k_putG c { nd00 with kind:=8,a:=A.2 } A.1 hA.ok
 have hpr:=putS_rel { nd00 with kind:=8,a:=A.2 } A.1
 have hcr:=fun s2 s3 s5 h2 h3 h3o h5 h5o=>cond_rel (s:=s) (s1:=A.1) (s2:=s2) (s3:=s3) (s5:=s5) { nd00 with kind:=8,a:=A.2 } ho hRel h2 h3 h3o h5 h5o
 have hpin:=fun s3 h3=>putI_in (s:=A.1) (s3:=s3) { nd00 with kind:=8,a:=A.2 } h3
 have hPb : ∃ b:Nat,putI A.1=b∧(putI A.1).toNat=b:=by
  unfold putI
  cases decide ((A.1.nodes.length:Int) ≥ 4096) with
  | true=>exact ⟨0,rfl,rfl⟩
  | false=>exact ⟨_,rfl,Int.toNat_natCast _⟩
 obtain ⟨b,hb1,hb2⟩:=hPb
 rw [hb2] at hcr hpin ⊢
 rw [hb1] at hp
 have hS2 : ∃ S2,S2=putS { nd00 with kind:=8,a:=A.2 } A.1:=⟨_,rfl⟩
 obtain ⟨S2,hS2⟩:=hS2
 rw [← hS2] at hp hpr hpin ⊢
 have hcr:=fun s3 s5 h3 h3o h5 h5o=>hcr S2 s3 s5 hS2 h3 h3o h5 h5o
 have h2:=hA.relE hpr
 have hbk:=hB S2 h2
 have hr3:=blockS_rel c body S2
 have h3:=h2.rel hr3
 have hcr:=fun s5 h5 h5o=>hcr (blockS c body S2) s5 hr3 (fun q=>blockS_over c body q) h5 h5o
 have hpin:=hpin (blockS c body S2) hr3
 clear hS2 hpr
 generalize blockS c body S2=S3 at hbk h3 hcr hpin ⊢
 have h4:OkA (openS [(true,b)] S3):=⟨fun o ho=>by
   have ho:o ∈ [(true,b)]:=ho
   rw [List.mem_singleton] at ho
   subst ho
   exact hpin,h3.cap,by show 1≤1+S3.nodes.length+ov S3.over; omega⟩
 have hlk:=hL (openS [(true,b)] S3) h4
 have hr5:=blockS_rel c els (openS [(true,b)] S3)
 have h5:=h4.rel hr5
 have hcr:=h.rel (hcr (blockS c els (openS [(true,b)] S3)) hr5 (fun q=>blockS_over c els q))
 generalize blockS c els (openS [(true,b)] S3)=S5 at hlk h5 hcr ⊢
 have hfew:(S3.opens.length+S5.opens.length)*8≤150000000000000:=by
  have:=hcr.ok.few
  have this:(S3.opens++S5.opens).length≤1000000:=this
  rw [List.length_append] at this
  omega
 clear hB hL hr3 hr5 h4 hcr
 refine Ctr.mv [1,2,3,5,6] [0,3,4] 5 hT hmix Tryd.func41 rfl (fun _ _=>by kernel_rfl) rfl (fun hok => ?_)
 clear hok
 conv=>whnf
 refine CutL.by (fun _:Unit=>⟨[(0,.ptr 0 0),(3,.ptr 5 0)],[(0,stB c (s) 3 4),(3,ndsB (s).nodes),(4,opsB (s).opens),(5,.cells 77 ((Stmt.mk kind name other (Expr.mk q1 q2 q3 q4 q5 q6::er) body els at_).cells.map .tr))],20⟩) (fun _=>True) ?_ ?_
 ·conv=>whnf
  exact ⟨(),[0,1,2,3,4,5],[],Sub.mk' rfl ⟨⟨rfl,rfl⟩,⟨rfl,rfl⟩,trivial⟩ ⟨⟨rfl,.inl rfl,.inl rfl,.inl rfl,.inl rfl,.inl rfl,.inl rfl,.inl rfl,⟨rfl,rfl⟩,⟨rfl,rfl⟩,.inl rfl,trivial⟩,⟨rfl,rfl,rfl,rfl⟩,⟨rfl,rfl,rfl,rfl⟩,⟨rfl,.inl rfl,.inl rfl,.inl rfl,.inl rfl,.inl rfl,.inl rfl,.inl rfl,trivial⟩,trivial⟩ rfl rfl,trivial⟩
 rintro - - -
 conv=>whnf
 refine CutL.by (fun _:Unit=>⟨[(0,.ptr 0 0),(3,.ptr 5 0),(4,.tr (ti (b:Nat)))],[(0,stB c (S2) 3 4),(3,ndsB (S2).nodes),(4,opsB (S2).opens),(5,.cells 77 ((Stmt.mk kind name other (Expr.mk q1 q2 q3 q4 q5 q6::er) body els at_).cells.map .tr))],20⟩) (fun _=>True) ?_ ?_
 ·conv=>whnf
  refine ⟨rfl,Int.le_refl 0,(show (0:Int)<((Expr.rows (Expr.mk q1 q2 q3 q4 q5 q6::er)).length:Int) by rw [erows_len,List.length_cons]; omega),fun row hrow => ?_⟩
  obtain rfl:Expr.cells (.mk q1 q2 q3 q4 q5 q6)=row:=Option.some.inj hrow
  clear hrow
  conv=>whnf
  refine acall.new [0,3,4] [] _ _ _ _ (hv) rfl rfl rfl rfl aut aut rfl rfl ?_
  conv=>whnf
  intro _
  conv=>whnf
  refine acall.new [0,26,1048602] [] _ _ _ _ (hp) rfl rfl rfl rfl aut aut rfl rfl ?_
  conv=>whnf
  intro _
  conv=>whnf
  exact ⟨(),[0,1,2,_,_,5],[],Sub.mk' rfl ⟨⟨rfl,rfl⟩,⟨rfl,rfl⟩,.inl rfl,trivial⟩ ⟨⟨rfl,.inl rfl,.inl rfl,.inl rfl,.inl rfl,.inl rfl,.inl rfl,.inl rfl,⟨rfl,rfl⟩,⟨rfl,rfl⟩,.inl rfl,trivial⟩,⟨rfl,rfl,rfl,rfl⟩,⟨rfl,rfl,rfl,rfl⟩,⟨rfl,.inl rfl,.inl rfl,.inl rfl,.inl rfl,.inl rfl,.inl rfl,.inl rfl,trivial⟩,trivial⟩ rfl rfl,trivial⟩
 rintro - - -
 conv=>whnf
 refine CutL.by (fun _:Unit=>⟨[(0,.ptr 0 0),(3,.ptr 5 0),(4,.tr (ti (b:Nat)))],[(0,stB c (S3) 3 4),(3,ndsB (S3).nodes),(4,opsB (S3).opens),(5,.cells 77 ((Stmt.mk kind name other (Expr.mk q1 q2 q3 q4 q5 q6::er) body els at_).cells.map .tr))],20⟩) (fun _=>True) ?_ ?_
 ·conv=>whnf
  refine acall.new [0,3,4] [] _ _ _ _ (hbk) rfl rfl rfl rfl aut aut rfl rfl ?_
  conv=>whnf
  intro _
  conv=>whnf
  exact ⟨(),[0,1,2,_,_,5],[],Sub.mk' rfl ⟨⟨rfl,rfl⟩,⟨rfl,rfl⟩,.inl rfl,trivial⟩ ⟨⟨rfl,.inl rfl,.inl rfl,.inl rfl,.inl rfl,.inl rfl,.inl rfl,.inl rfl,⟨rfl,rfl⟩,⟨rfl,rfl⟩,.inl rfl,trivial⟩,⟨rfl,rfl,rfl,rfl⟩,⟨rfl,rfl,rfl,rfl⟩,⟨rfl,.inl rfl,.inl rfl,.inl rfl,.inl rfl,.inl rfl,.inl rfl,.inl rfl,trivial⟩,trivial⟩ rfl rfl,trivial⟩
 rintro - - -
 conv=>whnf
 refine CutL.by (fun _:Unit=>⟨[(0,.ptr 0 0),(3,.ptr 5 0),(5,.sl 6 S3.opens.length)],[(0,stB c (openS [(true,b)] S3) 3 4),(3,ndsB (openS [(true,b)] S3).nodes),(4,opsB (openS [(true,b)] S3).opens),(5,.cells 77 ((Stmt.mk kind name other (Expr.mk q1 q2 q3 q4 q5 q6::er) body els at_).cells.map .tr)),(6,opsB S3.opens)],20⟩) (fun _=>True) ?_ ?_
 ·conv=>whnf
  refine acall.au [0,3,4] [] (k_otherG c S3.slots S3.nodes.length S3.opens.length b S3.over S3.nodes S3.opens) ?_
  intro _
  conv=>whnf
  exact ⟨(),[0,1,2,3,_,5,4],[],Sub.mk' rfl ⟨⟨rfl,rfl⟩,⟨rfl,rfl⟩,⟨rfl,rfl⟩,trivial⟩ ⟨⟨rfl,.inl rfl,.inl rfl,.inl rfl,.inl rfl,.inl rfl,.inl rfl,.inl rfl,⟨rfl,rfl⟩,⟨rfl,rfl⟩,.inl rfl,trivial⟩,⟨rfl,rfl,rfl,rfl⟩,⟨rfl,rfl,rfl,rfl⟩,⟨rfl,.inl rfl,.inl rfl,.inl rfl,.inl rfl,.inl rfl,.inl rfl,.inl rfl,trivial⟩,⟨rfl,rfl,rfl,rfl⟩,trivial⟩ rfl rfl,trivial⟩
 rintro - - -
 conv=>whnf
 refine CutL.by (fun _:Unit=>⟨[(0,.ptr 0 0),(5,.sl 6 S3.opens.length)],[(0,stB c (S5) 3 4),(3,ndsB (S5).nodes),(4,opsB (S5).opens),(6,opsB S3.opens)],20⟩) (fun _=>True) ?_ ?_
 ·conv=>whnf
  refine acall.new [0,3,4] [] _ _ _ _ (hlk) rfl rfl rfl rfl aut aut rfl rfl ?_
  conv=>whnf
  intro _
  conv=>whnf
  exact ⟨(),[0,1,2,_,_,5,6],[],Sub.mk' rfl ⟨⟨rfl,rfl⟩,⟨rfl,rfl⟩,trivial⟩ ⟨⟨rfl,.inl rfl,.inl rfl,.inl rfl,.inl rfl,.inl rfl,.inl rfl,.inl rfl,⟨rfl,rfl⟩,⟨rfl,rfl⟩,.inl rfl,trivial⟩,⟨rfl,rfl,rfl,rfl⟩,⟨rfl,rfl,rfl,rfl⟩,⟨rfl,rfl,rfl,rfl⟩,trivial⟩ rfl rfl,trivial⟩
 rintro - - -
 conv=>whnf
 refine ⟨(List.length_map ..).symm,(List.length_map ..).symm,hfew,?_⟩
 conv=>whnf
 exact ⟨[0,1,2,3,_],rfl,rfl,trivial,⟨rfl,.inl rfl,.inl rfl,.inl rfl,.inl rfl,.inl rfl,.inl rfl,.inl rfl,⟨rfl,rfl⟩,⟨rfl,(List.length_append ..).symm⟩,.inl rfl,trivial⟩,⟨rfl,rfl,rfl,rfl⟩,⟨rfl,rfl,rfl,(List.map_append ..).symm⟩,trivial⟩
end Go.Proofs.YthboippafkcoiaaDoor.am
namespace Go.Proofs.YthboippafkcoiaaDoor.am
open Go Go.Proofs
set_option linter.all false
set_option maxRecDepth 100000 in
set_option maxHeartbeats 2000000 in
theorem k_loopG (c:LowC) (kind:Int) (name other:ByteArray) (e:List Expr) (body els:List Stmt) (at_:Int) (s:LowS) (he:1≤e.length) (hw:wfEs e=true) (h:OkA s) (hB:KBlk c body):K 42 [.ptr 0 0,(Stmt.mk kind name other e body els at_).av] (stI c s) (.ret (.tup [])) (stO c (bif (blockS c body (putS { nd00 with kind:=8,a:=(kid0S c e s).2 } (kid0S c e s).1)).over then (blockS c body (putS { nd00 with kind:=8,a:=(kid0S c e s).2 } (kid0S c e s).1)) else { (blockS c body (putS { nd00 with kind:=8,a:=(kid0S c e s).2 } (kid0S c e s).1)) with nodes:=leadN s.nodes.length (blockS c body (putS { nd00 with kind:=8,a:=(kid0S c e s).2 } (kid0S c e s).1)).opens (blockS c body (putS { nd00 with kind:=8,a:=(kid0S c e s).2 } (kid0S c e s).1)).nodes,opens:=[(true,(putI (kid0S c e s).1).toNat)] })):=by
 obtain ⟨e0,er,rfl⟩ : ∃ e0 er,e=e0::er:=by
  cases e with
  | nil=>exact absurd he (by simp)
  | cons a r=>exact ⟨a,r,rfl⟩
 have hw0:wfE e0=true:=by unfold wfEs at hw; rw [Bool.and_eq_true] at hw; exact hw.1
 have hk0:kid0S c (e0::er) s=exprS c e0 s:=by rw [kid0S]
 have hv:=k_valG c e0 s hw0 h
 have hRel:=exprS_rel c e0 s
 rw [hk0]
 clear hk0
 generalize exprS c e0 s=A at hv hRel ⊢
 have hA:=h.relE hRel
 obtain ⟨q1,q2,q3,q4,q5,q6⟩:=e0
 have hp:=k_putG c { nd00 with kind:=8,a:=A.2 } A.1 hA.ok
 have hpr:=putS_rel { nd00 with kind:=8,a:=A.2 } A.1
 have hPb : ∃ b:Nat,putI A.1=b∧(putI A.1).toNat=b:=by
  unfold putI
  cases decide ((A.1.nodes.length:Int) ≥ 4096) with
  | true=>exact ⟨0,rfl,rfl⟩
  | false=>exact ⟨_,rfl,Int.toNat_natCast _⟩
 obtain ⟨b,hb1,hb2⟩:=hPb
 rw [hb2]
 rw [hb1] at hp
 generalize putS { nd00 with kind:=8,a:=A.2 } A.1=S2 at hp hpr ⊢
 have h2:=hA.relE hpr
 have hbk:=hB S2 h2
 have h3:=h2.rel (blockS_rel c body S2)
 generalize blockS c body S2=S3 at hbk h3 ⊢
 have hLl:=leadN_len s.nodes.length S3.opens S3.nodes
 have hld:=k_leadG c S3.slots S3.over s.nodes.length S3.nodes S3.opens h3.inn h3.ok.few
 generalize leadN s.nodes.length S3.opens S3.nodes=L3 at hLl hld ⊢
 clear hB
 refine Ctr.mv [2,3,4,5,6] [0,3,4] 5 hT hmix Tryd.func42 rfl (fun _ _=>by kernel_rfl) rfl (fun hok => ?_)
 clear hok
 conv=>whnf
 refine CutL.by (fun _:Unit=>⟨[(0,.ptr 0 0),(3,.ptr 5 0),(4,.tr (ti (s.nodes.length:Nat)))],[(0,stB c (s) 3 4),(3,ndsB (s).nodes),(4,opsB (s).opens),(5,.cells 77 ((Stmt.mk kind name other (Expr.mk q1 q2 q3 q4 q5 q6::er) body els at_).cells.map .tr))],20⟩) (fun _=>True) ?_ ?_
 ·conv=>whnf
  exact ⟨(),[0,1,2,3,4,5],[],Sub.mk' rfl ⟨⟨rfl,rfl⟩,⟨rfl,rfl⟩,.inl rfl,trivial⟩ ⟨⟨rfl,.inl rfl,.inl rfl,.inl rfl,.inl rfl,.inl rfl,.inl rfl,.inl rfl,⟨rfl,rfl⟩,⟨rfl,rfl⟩,.inl rfl,trivial⟩,⟨rfl,rfl,rfl,rfl⟩,⟨rfl,rfl,rfl,rfl⟩,⟨rfl,.inl rfl,.inl rfl,.inl rfl,.inl rfl,.inl rfl,.inl rfl,.inl rfl,trivial⟩,trivial⟩ rfl rfl,trivial⟩
 rintro - - -
 conv=>whnf
 refine CutL.by (fun _:Unit=>⟨[(0,.ptr 0 0),(3,.ptr 5 0),(4,.tr (ti (s.nodes.length:Nat))),(5,.tr (ti (b:Nat)))],[(0,stB c (S2) 3 4),(3,ndsB (S2).nodes),(4,opsB (S2).opens),(5,.cells 77 ((Stmt.mk kind name other (Expr.mk q1 q2 q3 q4 q5 q6::er) body els at_).cells.map .tr))],20⟩) (fun _=>True) ?_ ?_
 ·conv=>whnf
  refine ⟨rfl,Int.le_refl 0,(show (0:Int)<((Expr.rows (Expr.mk q1 q2 q3 q4 q5 q6::er)).length:Int) by rw [erows_len,List.length_cons]; omega),fun row hrow => ?_⟩
  obtain rfl:Expr.cells (.mk q1 q2 q3 q4 q5 q6)=row:=Option.some.inj hrow
  clear hrow
  conv=>whnf
  refine acall.new [0,3,4] [] _ _ _ _ (hv) rfl rfl rfl rfl aut aut rfl rfl ?_
  conv=>whnf
  intro _
  conv=>whnf
  refine acall.new [0,26,1048602] [] _ _ _ _ (hp) rfl rfl rfl rfl aut aut rfl rfl ?_
  conv=>whnf
  intro _
  conv=>whnf
  exact ⟨(),[0,1,2,_,_,5],[],Sub.mk' rfl ⟨⟨rfl,rfl⟩,⟨rfl,rfl⟩,.inl rfl,.inl rfl,trivial⟩ ⟨⟨rfl,.inl rfl,.inl rfl,.inl rfl,.inl rfl,.inl rfl,.inl rfl,.inl rfl,⟨rfl,rfl⟩,⟨rfl,rfl⟩,.inl rfl,trivial⟩,⟨rfl,rfl,rfl,rfl⟩,⟨rfl,rfl,rfl,rfl⟩,⟨rfl,.inl rfl,.inl rfl,.inl rfl,.inl rfl,.inl rfl,.inl rfl,.inl rfl,trivial⟩,trivial⟩ rfl rfl,trivial⟩
 rintro - - -
 conv=>whnf
 refine CutL.by (fun _:Unit=>⟨[(0,.ptr 0 0),(4,.tr (ti (s.nodes.length:Nat))),(5,.tr (ti (b:Nat)))],[(0,stB c (S3) 3 4),(3,ndsB (S3).nodes),(4,opsB (S3).opens)],20⟩) (fun _=>True) ?_ ?_
 ·conv=>whnf
  refine acall.new [0,3,4] [] _ _ _ _ (hbk) rfl rfl rfl rfl aut aut rfl rfl ?_
  conv=>whnf
  intro _
  conv=>whnf
  exact ⟨(),[0,1,2,_,_],[],Sub.mk' rfl ⟨⟨rfl,rfl⟩,.inl rfl,.inl rfl,trivial⟩ ⟨⟨rfl,.inl rfl,.inl rfl,.inl rfl,.inl rfl,.inl rfl,.inl rfl,.inl rfl,⟨rfl,rfl⟩,⟨rfl,rfl⟩,.inl rfl,trivial⟩,⟨rfl,rfl,rfl,rfl⟩,⟨rfl,rfl,rfl,rfl⟩,trivial⟩ rfl rfl,trivial⟩
 rintro - - -
 obtain ⟨sl3,n3,o3,v3⟩:=S3
 simp only at hLl hld ⊢
 cases v3 with
 | true =>
  conv=>whnf
  refine CutL.by (fun _:Unit=>⟨[(0,.ptr 0 0)],[(0,stB c ⟨sl3,n3,o3,true⟩ 3 4),(3,ndsB n3),(4,opsB o3)],20⟩) (fun _=>False) ?_ ?_
  ·conv=>whnf
   exact ⟨[0,1,2,3,4],rfl,rfl,trivial,⟨rfl,.inl rfl,.inl rfl,.inl rfl,.inl rfl,.inl rfl,.inl rfl,.inl rfl,⟨rfl,rfl⟩,⟨rfl,rfl⟩,.inl rfl,trivial⟩,⟨rfl,rfl,rfl,rfl⟩,⟨rfl,rfl,rfl,rfl⟩,trivial⟩
  rintro - hF
  exact hF.elim
 | false =>
  conv=>whnf
  refine CutL.by (fun _:Unit=>⟨[(0,.ptr 0 0),(4,.tr (ti (s.nodes.length:Nat))),(5,.tr (ti (b:Nat)))],[(0,stB c ⟨sl3,n3,o3,false⟩ 3 4),(3,ndsB n3),(4,opsB o3)],20⟩) (fun _=>True) ?_ ?_
  ·conv=>whnf
   exact ⟨(),[0,1,2,3,4],[],Sub.mk' rfl ⟨⟨rfl,rfl⟩,.inl rfl,.inl rfl,trivial⟩ ⟨⟨rfl,.inl rfl,.inl rfl,.inl rfl,.inl rfl,.inl rfl,.inl rfl,.inl rfl,⟨rfl,rfl⟩,⟨rfl,rfl⟩,.inl rfl,trivial⟩,⟨rfl,rfl,rfl,rfl⟩,⟨rfl,rfl,rfl,rfl⟩,trivial⟩ rfl rfl,trivial⟩
  rintro - - -
  conv=>whnf
  refine CutL.by (fun _:Unit=>⟨[(0,.ptr 0 0),(5,.tr (ti (b:Nat)))],[(0,lwN c sl3 n3.length false 3),(3,ndsB L3)],20⟩) (fun _=>True) ?_ ?_
  ·conv=>whnf
   refine acall.au [0,3,4] [] (hld) ?_
   intro _
   conv=>whnf
   exact ⟨(),[0,1,2,3],[],Sub.mk' rfl ⟨⟨rfl,rfl⟩,.inl rfl,trivial⟩ ⟨⟨rfl,.inl rfl,.inl rfl,.inl rfl,.inl rfl,.inl rfl,.inl rfl,.inl rfl,⟨rfl,rfl⟩,.inl rfl,.inl rfl,trivial⟩,⟨rfl,rfl,rfl,rfl⟩,trivial⟩ rfl rfl,trivial⟩
  rintro - - -
  conv=>whnf
  refine acall.au [0,3] [] (k_otherGN c sl3 n3.length b false L3) ?_
  intro _
  conv=>whnf
  exact ⟨[0,1,2,3,_],rfl,rfl,trivial,⟨rfl,.inl rfl,.inl rfl,.inl rfl,.inl rfl,.inl rfl,.inl rfl,.inl rfl,⟨rfl,hLl.symm⟩,⟨rfl,rfl⟩,.inl rfl,trivial⟩,⟨rfl,rfl,rfl,rfl⟩,⟨rfl,rfl,rfl,rfl⟩,trivial⟩
def KSwp (c:LowC):Prop := ∀ (kind:Int) (name other:ByteArray) (e:List Expr) (body els:List Stmt) (at_:Int) (s:LowS),1≤e.length→wfEs e=true→OkA s→K 40 [.ptr 0 0,(Stmt.mk kind name other e body els at_).av] (stI c s) (.ret (.tup [])) (stO c (swapS c name other (kid0S c e s).2 (kid0S c e s).1))
theorem blockS_at (c:LowC) {l:List Stmt} {i:Nat} {x:Stmt} {s:LowS} (h:l[i]? = some x):blockS c (l.drop i) s=bif s.over then s else blockS c (l.drop (i+1)) (stmtS c x s):=by
 rw [drop_cons h,blockS]
theorem size_stmt {l:List Stmt} {i:Nat} {x:Stmt} (h:l[i]? = some x):SizeOf.sizeOf x<SizeOf.sizeOf l:=List.sizeOf_lt_of_mem (List.mem_of_getElem? h)
theorem wfSs_at : ∀ {l:List Stmt} {i:Nat} {x:Stmt},wfSs l=true→l[i]? = some x→wfS x=true
 | [],i,x,_,h=>by simp at h
 | y::r,0,x,hw,h=>by
  unfold wfSs at hw
  rw [Bool.and_eq_true] at hw
  simp at h
  subst h
  exact hw.1
 | y::r,i+1,x,hw,h=>by
  unfold wfSs at hw
  rw [Bool.and_eq_true] at hw
  exact wfSs_at hw.2 (by simpa using h)
set_option maxRecDepth 100000 in
set_option maxHeartbeats 4000000 in
theorem k_blockG (c:LowC) (hSw:KSwp c) : ∀ (n:Nat) (l:List Stmt),SizeOf.sizeOf l<n→wfSs l=true→KBlk c l:=by
 intro n
 induction n with
 | zero=>intro l h; omega
 | succ n ih =>
 intro l hsz hwf s0 hS0
 obtain ⟨R,hR⟩ : ∃ R,R=blockS c l s0:=⟨_,rfl⟩
 rw [← hR]
 refine Ctr.mv [5] [0,3,4] 5 hT hmix Tryd.func22 rfl (fun _ _=>by kernel_rfl) rfl (fun hok => ?_)
 have hll:=(hok.slot 1 rfl).tr.lst.2.1
 rw [srows_len] at hll
 clear hok
 conv=>whnf
 refine LoopL.by (fun x:Nat × LowS=>⟨[(0,.ptr 0 0),(4,.ptr 5 0),(8,.tr (stmtsT l)),(9,.tr (ti ((Stmt.rows l).length:Nat))),(10,.tr (ti (x.1:Nat)))],[(0,stB c (x.2) 3 4),(3,ndsB (x.2).nodes),(4,opsB (x.2).opens),(5,.cells 102 [.tr (.v .nilFunc),.fn 39 [],.fn 40 [],.fn 41 [],.fn 42 [],.fn 43 [],.fn 44 [],.fn 45 []])],20⟩)
  (fun x=>x.1≤l.length∧R=blockS c (l.drop x.1) x.2∧OkA x.2) (fun x=>l.length - x.1) (0,s0) [0,1,2,3,4,_] []
  (Sub.mk' rfl ⟨⟨rfl,rfl⟩,⟨rfl,rfl⟩,.inl rfl,.inl rfl,.inl rfl,trivial⟩ ⟨⟨rfl,.inl rfl,.inl rfl,.inl rfl,.inl rfl,.inl rfl,.inl rfl,.inl rfl,⟨rfl,rfl⟩,⟨rfl,rfl⟩,.inl rfl,trivial⟩,⟨rfl,rfl,rfl,rfl⟩,⟨rfl,rfl,rfl,rfl⟩,⟨rfl,.inl rfl,⟨rfl,trivial⟩,⟨rfl,trivial⟩,⟨rfl,trivial⟩,⟨rfl,trivial⟩,⟨rfl,trivial⟩,⟨rfl,trivial⟩,⟨rfl,trivial⟩,trivial⟩,trivial⟩ rfl rfl) ⟨Nat.zero_le _,hR,hS0⟩ ?_
 clear hR hS0
 rintro ⟨i,s⟩ ⟨hi,hR,hS⟩ -
 simp only at hi hR hS
 conv=>whnf
 refine csplit (fun hit => ?_) (fun hit => ?_)
 ·replace hit:i<l.length:=by have:decide ((i:Int)<((Stmt.rows l).length:Int))=true:=hit; have:=of_decide_eq_true this; rw [srows_len] at this; omega
  obtain ⟨x,hx⟩ : ∃ x,l[i]? = some x:=⟨_,List.getElem?_eq_getElem hit⟩
  have hxs:=size_stmt hx
  have hxw:=wfSs_at hwf hx
  rw [blockS_at c hx] at hR
  obtain ⟨kind,name,other,e,body,els,at_⟩:=x
  conv=>whnf
  refine ⟨rfl,(show (0:Int)≤i by omega),(show (i:Int)<((Stmt.rows l).length:Int) by rw [srows_len]; omega),fun row hrow => ?_⟩
  obtain ⟨d,hd,rfl⟩:=srows_get hrow
  obtain rfl:=Option.some.inj (hx.symm.trans hd)
  clear hrow hd
  conv=>whnf
  obtain ⟨T,hT⟩ : ∃ T,T=s.over:=⟨_,rfl⟩
  cases T with
  | true =>
   rw [← hT] at hR
   replace hR:R=s:=hR
   subst hR
   refine CutL.by (fun _:Unit=>⟨[(0,.ptr 0 0)],[(0,stB c (R) 3 4),(3,ndsB (R).nodes),(4,opsB (R).opens)],20⟩) (fun _=>False) ?_ ?_
   ·conv=>whnf
    rw [← hT]
    conv=>whnf
    exact ⟨[0,1,2,3,4],rfl,rfl,trivial,⟨rfl,.inl rfl,.inl rfl,.inl rfl,.inl rfl,.inl rfl,.inl rfl,.inl rfl,⟨rfl,rfl⟩,⟨rfl,rfl⟩,.inl (by rw [← hT]),trivial⟩,⟨rfl,rfl,rfl,rfl⟩,⟨rfl,rfl,rfl,rfl⟩,trivial⟩
   rintro - hF
   exact hF.elim
  | false =>
  rw [← hT,cond_false] at hR
  have hov:s.over=false:=hT.symm
  have hnx:=hS.rel (stmtS_rel c (.mk kind name other e body els at_) s hov)
  refine CutL.by (fun _:Unit=>⟨[(0,.ptr 0 0),(4,.ptr 5 0),(8,.tr (stmtsT l)),(9,.tr (ti ((Stmt.rows l).length:Nat))),(10,.tr (ti (i:Nat))),(6,.ptr 6 0)],[(0,stB c (s) 3 4),(3,ndsB (s).nodes),(4,opsB (s).opens),(5,.cells 102 [.tr (.v .nilFunc),.fn 39 [],.fn 40 [],.fn 41 [],.fn 42 [],.fn 43 [],.fn 44 [],.fn 45 []]),(6,.cells 77 ((Stmt.mk kind name other e body els at_).cells.map .tr))],20⟩) (fun _=>True) ?_ ?_
  ·conv=>whnf
   rw [← hT]
   conv=>whnf
   exact ⟨(),[0,1,2,3,4,5,_],[],Sub.mk' rfl ⟨⟨rfl,rfl⟩,⟨rfl,rfl⟩,.inl rfl,.inl rfl,.inl rfl,⟨rfl,rfl⟩,trivial⟩ ⟨⟨rfl,.inl rfl,.inl rfl,.inl rfl,.inl rfl,.inl rfl,.inl rfl,.inl rfl,⟨rfl,rfl⟩,⟨rfl,rfl⟩,.inl (by rw [← hT]),trivial⟩,⟨rfl,rfl,rfl,rfl⟩,⟨rfl,rfl,rfl,rfl⟩,⟨rfl,.inl rfl,⟨rfl,trivial⟩,⟨rfl,trivial⟩,⟨rfl,trivial⟩,⟨rfl,trivial⟩,⟨rfl,trivial⟩,⟨rfl,trivial⟩,⟨rfl,trivial⟩,trivial⟩,⟨rfl,.inl rfl,.inl rfl,.inl rfl,.inl rfl,.inl rfl,.inl rfl,.inl rfl,trivial⟩,trivial⟩ rfl rfl,trivial⟩
  rintro - - -
  unfold wfS at hxw
  simp only [Bool.and_eq_true,decide_eq_true_eq] at hxw
  obtain ⟨⟨⟨⟨⟨w1,w2⟩,w3⟩,w4⟩,w5⟩,w6⟩:=hxw
  simp only [Stmt.mk.sizeOf_spec] at hxs
  have hBd:KBlk c body:=ih body (by omega) w5
  have hEl:KBlk c els:=ih els (by omega) w6
  have hk:K (bif kind == 1 then 39 else bif kind == 2 then 40 else bif kind == 3 then 41 else bif kind == 4 then 42 else bif kind == 5 then 43 else bif kind == 6 then 44 else 45)
    [.ptr 0 0,(Stmt.mk kind name other e body els at_).av] (stI c s) (.ret (.tup [])) (stO c (stmtS c (.mk kind name other e body els at_) s)):=by
   have hk7:kind=1∨kind=2∨kind=3∨kind=4∨kind=5∨kind=6∨kind=7:=by omega
   rw [stmtS]
   rcases hk7 with rfl | rfl | rfl | rfl | rfl | rfl | rfl
   ·exact k_assignG c 1 name other e body els at_ s (by simpa using w3) w4 hS
   ·exact hSw 2 name other e body els at_ s (by simpa using w3) w4 hS
   ·exact k_condG c 3 name other e body els at_ s (by simpa using w3) w4 hS hov hBd hEl
   ·exact k_loopG c 4 name other e body els at_ s (by simpa using w3) w4 hS hBd
   ·exact k_lockG c 5 name other e body els at_ s hS hBd
   ·exact k_printG c 6 name other e body els at_ s (by simpa using w3) w4 hS
   ·exact k_skipG c 7 name other e body els at_ s
  generalize stmtS c (.mk kind name other e body els at_) s=S2 at hk hR hnx
  have fin : ∀ q:Nat,True:=fun _=>trivial
  have hk7:kind=1∨kind=2∨kind=3∨kind=4∨kind=5∨kind=6∨kind=7:=by omega
  clear w1 w2 w3 w4 w5 w6 hBd hEl fin
  rcases hk7 with rfl | rfl | rfl | rfl | rfl | rfl | rfl
  all_goals
   conv=>whnf
   refine ⟨by decide,by decide,?_⟩
   conv=>whnf
   refine acall.new [0,3,4] [] _ _ _ _ (hk) rfl rfl rfl rfl aut aut rfl rfl ?_
   conv=>whnf
   refine ⟨by kernel_rfl,fun _ => ?_⟩
   conv=>whnf
   exact ⟨(i+1,S2),[0,1,2,_,_,5],[],Sub.mk' rfl ⟨⟨rfl,rfl⟩,⟨rfl,rfl⟩,.inl rfl,.inl rfl,.inl (ti_succ hit hll),trivial⟩ ⟨⟨rfl,.inl rfl,.inl rfl,.inl rfl,.inl rfl,.inl rfl,.inl rfl,.inl rfl,⟨rfl,rfl⟩,⟨rfl,rfl⟩,.inl rfl,trivial⟩,⟨rfl,rfl,rfl,rfl⟩,⟨rfl,rfl,rfl,rfl⟩,⟨rfl,.inl rfl,⟨rfl,trivial⟩,⟨rfl,trivial⟩,⟨rfl,trivial⟩,⟨rfl,trivial⟩,⟨rfl,trivial⟩,⟨rfl,trivial⟩,⟨rfl,trivial⟩,trivial⟩,trivial⟩ rfl rfl,⟨hit,hR,hnx⟩,by show l.length - (i+1)<l.length - i; omega⟩
 replace hit:l.length≤i:=by have:decide ((i:Int)<((Stmt.rows l).length:Int))=false:=hit; have:=of_decide_eq_false this; rw [srows_len] at this; omega
 rw [List.drop_eq_nil_of_le hit] at hR
 replace hR:R=s:=by rw [hR,blockS]
 subst hR
 conv=>whnf
 refine ⟨fun _ => ?_,fun h=>absurd rfl h⟩
 conv=>whnf
 exact ⟨[0,1,2,3,4],rfl,rfl,trivial,⟨rfl,.inl rfl,.inl rfl,.inl rfl,.inl rfl,.inl rfl,.inl rfl,.inl rfl,⟨rfl,rfl⟩,⟨rfl,rfl⟩,.inl rfl,trivial⟩,⟨rfl,rfl,rfl,rfl⟩,⟨rfl,rfl,rfl,rfl⟩,trivial⟩
end Go.Proofs.YthboippafkcoiaaDoor.am
namespace Go.Proofs.YthboippafkcoiaaDoor.am
open Go Go.Proofs
set_option linter.all false
set_option maxRecDepth 100000 in
set_option maxHeartbeats 2000000 in
theorem k_swapG (c:LowC):KSwp c:=by
 intro kind name other e body els at_ s he hw h
 obtain ⟨e0,er,rfl⟩ : ∃ e0 er,e=e0::er:=by
  cases e with
  | nil=>exact absurd he (by simp)
  | cons a r=>exact ⟨a,r,rfl⟩
 have hw0:wfE e0=true:=by unfold wfEs at hw; rw [Bool.and_eq_true] at hw; exact hw.1
 have hk0:kid0S c (e0::er) s=exprS c e0 s:=by rw [kid0S]
 have hv:=k_valG c e0 s hw0 h
 have hRel:=exprS_rel c e0 s
 rw [hk0]
 clear hk0
 generalize exprS c e0 s=A at hv hRel ⊢
 have hA:=h.relE hRel
 obtain ⟨q1,q2,q3,q4,q5,q6⟩:=e0
 have hloc:=k20 c.p (c.t:Nat) name
 have hsh:=k16 c.p other
 have hE:swapS c name other A.2 A.1=bif decide (localI c.p c.t name ≥ 0) then putS { nd00 with kind:=4,a:=A.2,thing:=findI c.p.shared other 0,slot:=localI c.p c.t name } A.1
  else giveS c name (inV (slotI A.1)) (putS { nd00 with kind:=4,a:=A.2,thing:=findI c.p.shared other 0,slot:=slotI A.1 } (slotS A.1)):=rfl
 generalize swapS c name other A.2 A.1=R at hE ⊢
 generalize localI c.p (c.t:Nat) name=LI at hloc hE
 generalize findI c.p.shared other 0=FI at hsh hE
 refine Ctr.mv [1,2000001,2,3,6,7,8] [0,3,4] 5 hT hmix Tryd.func40 rfl (fun _ _=>by kernel_rfl) rfl (fun hok => ?_)
 clear hok
 conv=>whnf
 refine CutL.by (fun _:Unit=>⟨[(0,.ptr 0 0),(3,.ptr 5 0)],[(0,stB c (s) 3 4),(3,ndsB (s).nodes),(4,opsB (s).opens),(5,.cells 77 ((Stmt.mk kind name other (Expr.mk q1 q2 q3 q4 q5 q6::er) body els at_).cells.map .tr))],20⟩) (fun _=>True) ?_ ?_
 ·conv=>whnf
  exact ⟨(),[0,1,2,3,4,5],[],Sub.mk' rfl ⟨⟨rfl,rfl⟩,⟨rfl,rfl⟩,trivial⟩ ⟨⟨rfl,.inl rfl,.inl rfl,.inl rfl,.inl rfl,.inl rfl,.inl rfl,.inl rfl,⟨rfl,rfl⟩,⟨rfl,rfl⟩,.inl rfl,trivial⟩,⟨rfl,rfl,rfl,rfl⟩,⟨rfl,rfl,rfl,rfl⟩,⟨rfl,.inl rfl,.inl rfl,.inl rfl,.inl rfl,.inl rfl,.inl rfl,.inl rfl,trivial⟩,trivial⟩ rfl rfl,trivial⟩
 rintro - - -
 conv=>whnf
 refine CutL.by (fun _:Unit=>⟨[(0,.ptr 0 0),(3,.ptr 5 0),(4,.ptr 6 0)],[(0,stB c (A.1) 3 4),(3,ndsB (A.1).nodes),(4,opsB (A.1).opens),(5,.cells 77 ((Stmt.mk kind name other (Expr.mk q1 q2 q3 q4 q5 q6::er) body els at_).cells.map .tr)),(6,.cells 54 (({ nd00 with kind:=4,a:=A.2,thing:=FI }:Nd).cells.map .tr))],20⟩) (fun _=>True) ?_ ?_
 ·conv=>whnf
  refine drawV_region (h:=0) (t := 71) (cs:=[.tr (declsT c.p.shared),.tr (declsT c.p.locks),.tr (threadsT c.p.threads)]) hT hmix (by decide) ⟨_,rfl,rfl⟩ ?_
  conv=>whnf
  (repeat (refine ⟨trivial,?_⟩; conv=>whnf))
  refine ⟨rfl,Int.le_refl 0,(show (0:Int)<((Expr.rows (Expr.mk q1 q2 q3 q4 q5 q6::er)).length:Int) by rw [erows_len,List.length_cons]; omega),fun row hrow => ?_⟩
  obtain rfl:Expr.cells (.mk q1 q2 q3 q4 q5 q6)=row:=Option.some.inj hrow
  clear hrow
  conv=>whnf
  (repeat (refine ⟨trivial,?_⟩; conv=>whnf))
  refine acall.new [0,3,4] [] _ _ _ _ (hv) rfl rfl rfl rfl aut aut rfl rfl ?_
  conv=>whnf
  refine ⟨⟨rfl,rfl⟩,?_⟩
  conv=>whnf
  (repeat (refine ⟨trivial,?_⟩; conv=>whnf))
  refine acall.pure _ (hsh) rfl rfl ?_
  conv=>whnf
  (repeat (refine ⟨trivial,?_⟩; conv=>whnf))
  refine ⟨by kernel_rfl,?_⟩
  conv=>whnf
  intro _
  conv=>whnf
  exact ⟨(),[0,1,2,_,_,5,_],[],Sub.mk' rfl ⟨⟨rfl,rfl⟩,⟨rfl,rfl⟩,⟨rfl,rfl⟩,trivial⟩ ⟨⟨rfl,.inl rfl,.inl rfl,.inl rfl,.inl rfl,.inl rfl,.inl rfl,.inl rfl,⟨rfl,rfl⟩,⟨rfl,rfl⟩,.inl rfl,trivial⟩,⟨rfl,rfl,rfl,rfl⟩,⟨rfl,rfl,rfl,rfl⟩,⟨rfl,.inl rfl,.inl rfl,.inl rfl,.inl rfl,.inl rfl,.inl rfl,.inl rfl,trivial⟩,⟨rfl,.inl rfl,.inl rfl,.inl rfl,.inl rfl,.inl rfl,.inl rfl,.inl rfl,.inl rfl,.inl rfl,.inl rfl,.inl rfl,.inl rfl,.inl rfl,trivial⟩,trivial⟩ rfl rfl,trivial⟩
 rintro - - -
 conv=>whnf
 refine CutL.by (fun _:Unit=>⟨[(0,.ptr 0 0),(3,.ptr 5 0),(4,.ptr 6 0),(5,.tr (ti LI))],[(0,stB c (A.1) 3 4),(3,ndsB (A.1).nodes),(4,opsB (A.1).opens),(5,.cells 77 ((Stmt.mk kind name other (Expr.mk q1 q2 q3 q4 q5 q6::er) body els at_).cells.map .tr)),(6,.cells 54 (({ nd00 with kind:=4,a:=A.2,thing:=FI }:Nd).cells.map .tr))],20⟩) (fun _=>True) ?_ ?_
 ·conv=>whnf
  refine acall.pure _ (hloc) rfl rfl ?_
  conv=>whnf
  refine ⟨by kernel_rfl,fun _ => ?_⟩
  conv=>whnf
  exact ⟨(),[0,1,2,3,4,5,6],[],Sub.mk' rfl ⟨⟨rfl,rfl⟩,⟨rfl,rfl⟩,⟨rfl,rfl⟩,.inl rfl,trivial⟩ ⟨⟨rfl,.inl rfl,.inl rfl,.inl rfl,.inl rfl,.inl rfl,.inl rfl,.inl rfl,⟨rfl,rfl⟩,⟨rfl,rfl⟩,.inl rfl,trivial⟩,⟨rfl,rfl,rfl,rfl⟩,⟨rfl,rfl,rfl,rfl⟩,⟨rfl,.inl rfl,.inl rfl,.inl rfl,.inl rfl,.inl rfl,.inl rfl,.inl rfl,trivial⟩,⟨rfl,.inl rfl,.inl rfl,.inl rfl,.inl rfl,.inl rfl,.inl rfl,.inl rfl,.inl rfl,.inl rfl,.inl rfl,.inl rfl,.inl rfl,.inl rfl,trivial⟩,trivial⟩ rfl rfl,trivial⟩
 rintro - - -
 conv=>whnf
 refine CutL.by (fun _:Unit=>⟨[(0,.ptr 0 0),(3,.ptr 5 0),(4,.ptr 6 0)],[(0,stB c (A.1) 3 4),(3,ndsB (A.1).nodes),(4,opsB (A.1).opens),(5,.cells 77 ((Stmt.mk kind name other (Expr.mk q1 q2 q3 q4 q5 q6::er) body els at_).cells.map .tr)),(6,.cells 54 (({ nd00 with kind:=4,a:=A.2,thing:=FI }:Nd).cells.map .tr))],20⟩) (fun _=>decide (LI ≥ 0)=false) ?_ ?_
 ·conv=>whnf
  cases h3:decide (LI ≥ 0) with
  | true =>
   rw [h3,cond_true] at hE
   have hp:=k_putG c { nd00 with kind:=4,a:=A.2,thing:=FI,slot:=LI } A.1 hA.ok
   rw [← hE] at hp
   clear hE
   conv=>whnf
   refine acall.new [0,3,4] [] _ _ _ _ (hp) rfl rfl rfl rfl aut aut rfl rfl ?_
   conv=>whnf
   intro _
   conv=>whnf
   exact ⟨[0,1,2,_,_],rfl,rfl,trivial,⟨rfl,.inl rfl,.inl rfl,.inl rfl,.inl rfl,.inl rfl,.inl rfl,.inl rfl,⟨rfl,rfl⟩,⟨rfl,rfl⟩,.inl rfl,trivial⟩,⟨rfl,rfl,rfl,rfl⟩,⟨rfl,rfl,rfl,rfl⟩,trivial⟩
  | false =>
   conv=>whnf
   exact ⟨(),[0,1,2,3,4,5,6],[],Sub.mk' rfl ⟨⟨rfl,rfl⟩,⟨rfl,rfl⟩,⟨rfl,rfl⟩,trivial⟩ ⟨⟨rfl,.inl rfl,.inl rfl,.inl rfl,.inl rfl,.inl rfl,.inl rfl,.inl rfl,⟨rfl,rfl⟩,⟨rfl,rfl⟩,.inl rfl,trivial⟩,⟨rfl,rfl,rfl,rfl⟩,⟨rfl,rfl,rfl,rfl⟩,⟨rfl,.inl rfl,.inl rfl,.inl rfl,.inl rfl,.inl rfl,.inl rfl,.inl rfl,trivial⟩,⟨rfl,.inl rfl,.inl rfl,.inl rfl,.inl rfl,.inl rfl,.inl rfl,.inl rfl,.inl rfl,.inl rfl,.inl rfl,.inl rfl,.inl rfl,.inl rfl,trivial⟩,trivial⟩ rfl rfl,rfl⟩
 rintro - h3 -
 rw [h3,cond_false] at hE
 have hp:=k_putG c { nd00 with kind:=4,a:=A.2,thing:=FI,slot:=slotI A.1 } (slotS A.1) (slotS_ok hA.ok)
 have hA2:=hA.relE ((slotS_rel A.1).trans (putS_rel { nd00 with kind:=4,a:=A.2,thing:=FI,slot:=slotI A.1 } (slotS A.1)))
 generalize putS { nd00 with kind:=4,a:=A.2,thing:=FI,slot:=slotI A.1 } (slotS A.1)=S2 at hE hp hA2
 have hg:=k_giveG c name (inV (slotI A.1)) S2 hA2
 rw [← hE] at hg
 clear hE
 conv=>whnf
 refine CutL.by (fun _:Unit=>⟨[(0,.ptr 0 0),(3,.ptr 5 0),(4,.ptr 6 0)],[(0,stB c (slotS A.1) 3 4),(3,ndsB (slotS A.1).nodes),(4,opsB (slotS A.1).opens),(5,.cells 77 ((Stmt.mk kind name other (Expr.mk q1 q2 q3 q4 q5 q6::er) body els at_).cells.map .tr)),(6,.cells 54 (({ nd00 with kind:=4,a:=A.2,thing:=FI,slot:=slotI A.1 }:Nd).cells.map .tr))],20⟩) (fun _=>True) ?_ ?_
 ·conv=>whnf
  refine acall.au [0,3,4] [] (k_slotG c A.1) ?_
  intro _
  conv=>whnf
  exact ⟨(),[0,1,2,3,4,5,6],[],Sub.mk' rfl ⟨⟨rfl,rfl⟩,⟨rfl,rfl⟩,⟨rfl,rfl⟩,trivial⟩ ⟨⟨rfl,.inl rfl,.inl rfl,.inl rfl,.inl rfl,.inl rfl,.inl rfl,.inl rfl,⟨rfl,rfl⟩,⟨rfl,rfl⟩,.inl rfl,trivial⟩,⟨rfl,rfl,rfl,rfl⟩,⟨rfl,rfl,rfl,rfl⟩,⟨rfl,.inl rfl,.inl rfl,.inl rfl,.inl rfl,.inl rfl,.inl rfl,.inl rfl,trivial⟩,⟨rfl,.inl rfl,.inl rfl,.inl rfl,.inl rfl,.inl rfl,.inl rfl,.inl rfl,.inl rfl,.inl rfl,.inl rfl,.inl rfl,.inl rfl,.inl rfl,trivial⟩,trivial⟩ rfl rfl,trivial⟩
 rintro - - -
 conv=>whnf
 refine CutL.by (fun _:Unit=>⟨[(0,.ptr 0 0),(3,.ptr 5 0),(4,.ptr 6 0)],[(0,stB c (S2) 3 4),(3,ndsB (S2).nodes),(4,opsB (S2).opens),(5,.cells 77 ((Stmt.mk kind name other (Expr.mk q1 q2 q3 q4 q5 q6::er) body els at_).cells.map .tr)),(6,.cells 54 (({ nd00 with kind:=4,a:=A.2,thing:=FI,slot:=slotI A.1 }:Nd).cells.map .tr))],20⟩) (fun _=>True) ?_ ?_
 ·conv=>whnf
  refine acall.new [0,3,4] [] _ _ _ _ (hp) rfl rfl rfl rfl aut aut rfl rfl ?_
  conv=>whnf
  intro _
  conv=>whnf
  exact ⟨(),[0,1,2,_,_,5,6],[],Sub.mk' rfl ⟨⟨rfl,rfl⟩,⟨rfl,rfl⟩,⟨rfl,rfl⟩,trivial⟩ ⟨⟨rfl,.inl rfl,.inl rfl,.inl rfl,.inl rfl,.inl rfl,.inl rfl,.inl rfl,⟨rfl,rfl⟩,⟨rfl,rfl⟩,.inl rfl,trivial⟩,⟨rfl,rfl,rfl,rfl⟩,⟨rfl,rfl,rfl,rfl⟩,⟨rfl,.inl rfl,.inl rfl,.inl rfl,.inl rfl,.inl rfl,.inl rfl,.inl rfl,trivial⟩,⟨rfl,.inl rfl,.inl rfl,.inl rfl,.inl rfl,.inl rfl,.inl rfl,.inl rfl,.inl rfl,.inl rfl,.inl rfl,.inl rfl,.inl rfl,.inl rfl,trivial⟩,trivial⟩ rfl rfl,trivial⟩
 rintro - - -
 conv=>whnf
 refine acall.pure _ (k_inV (slotI A.1)) rfl rfl ?_
 conv=>whnf
 refine acall.new [0,3,4] [] _ _ _ _ (hg) rfl rfl rfl rfl aut aut rfl rfl ?_
 conv=>whnf
 refine ⟨by kernel_rfl,fun _ => ?_⟩
 conv=>whnf
 exact ⟨[0,1,2,_,_],rfl,rfl,trivial,⟨rfl,.inl rfl,.inl rfl,.inl rfl,.inl rfl,.inl rfl,.inl rfl,.inl rfl,⟨rfl,rfl⟩,⟨rfl,rfl⟩,.inl rfl,trivial⟩,⟨rfl,rfl,rfl,rfl⟩,⟨rfl,rfl,rfl,rfl⟩,trivial⟩
theorem k_blkG (c:LowC) (l:List Stmt) (hw:wfSs l=true):KBlk c l:=k_blockG c (k_swapG c) _ l (Nat.lt_succ_self _) hw
end Go.Proofs.YthboippafkcoiaaDoor.am
namespace Go.Proofs.YthboippafkcoiaaDoor.am
open Go Go.Proofs
set_option linter.all false
def thrC (p:Prg) (t:Nat) (th:Thread):LowC:=⟨p,t,th.name,((th.locals.map Decl.cells).length:Nat)⟩
def low0 (th:Thread):LowS:=⟨((th.locals.map Decl.cells).length:Nat),[],[],false⟩
def endS (s:LowS):LowS:=bif s.over then s else putS { nd00 with kind:=9 } s
def zeroLast (l:List Nd):List Nd:=match l[l.length - 1]? with
 | some n=>l.set (l.length - 1) { n with next:=0 }
 | none=>l
def grS (c:LowC) (s:LowS):Gr:=⟨c.name,c.loc,s.slots,zeroLast s.nodes⟩
def lowTs (p:Prg):Nat→List Thread→Option (List Gr)
 | _,[]=>some []
 | i,th::r=>bif (endS (blockS (thrC p i th) th.body (low0 th))).over then none else match lowTs p (i+1) r with
  | some l=>some (grS (thrC p i th) (endS (blockS (thrC p i th) th.body (low0 th)))::l)
  | none=>none
def outU (p:Prg):Option (List Gr)→Un × Int
 | none=>(⟨[],[],[]⟩,3)
 | some l=>(⟨p.shared,p.locks,l⟩,0)
def lowerU (p:Prg):Un × Int:=bif (checkW p).1 != 0 then (⟨[],[],[]⟩,(checkW p).1) else outU p (lowTs p 0 p.threads)
def contG (gs:List Gr):Option (List Gr)→Option (List Gr)
 | none=>none
 | some l=>some (gs++l)
theorem low0_ok (th:Thread):OkA (low0 th):=⟨fun o h=>(by cases h),Nat.zero_le _,Nat.zero_le _⟩
theorem endS_rel (s:LowS):RelE s (endS s):=by
 unfold endS
 cases s.over with
 | true=>exact .refl s
 | false=>exact putS_rel _ _
theorem endS_pos {s:LowS} (h:(endS s).over=false):1≤(endS s).nodes.length:=by
 unfold endS at h ⊢
 cases ho:s.over with
 | true=>rw [ho,cond_true,ho] at h; cases h
 | false =>
  rw [ho,cond_false] at h
  rw [cond_false]
  cases hb:decide ((s.nodes.length:Int) ≥ 4096) with
  | true=>rw [putS_big _ hb] at h; cases h
  | false=>rw [putS_len _ hb]; omega
theorem thr_get {l:List Thread} {i:Nat} {row:List Tr} (h:(l.map Thread.cells)[i]? = some row) : ∃ d,l[i]? = some d∧row=d.cells:=by
 rw [List.getElem?_map,Option.map_eq_some_iff] at h
 obtain ⟨d,h1,rfl⟩:=h
 exact ⟨d,h1,rfl⟩
abbrev opsH (h:Nat) (l:List (Bool × Nat)):Blk := .fns 103 8 h (l.map cloD)
abbrev lwT (c:LowC) (s:LowS) (l:List Nd) (ho:Nat):Blk := .cells 71 [.tr (declsT c.p.shared),.tr (declsT c.p.locks),.tr (threadsT c.p.threads),.tr (ti (c.t:Nat)),.tr (ts c.name),.tr (ti c.loc),.tr (ti s.slots),.tr (nodesT l),.sl ho s.opens.length,.tr (tb s.over)]
set_option maxRecDepth 100000 in
set_option maxHeartbeats 4000000 in
theorem k_lowerG (p:Prg) (hw:(checkW p).1=0 → ∀ th ∈ p.threads,wfSs th.body=true):K 8 [p.av] [] (.ret (.tup [(lowerU p).1.av,.tr (ti (lowerU p).2)])) []:=by
 have hch:=k10 p
 have hU:lowerU p=bif (checkW p).1 != 0 then (⟨[],[],[]⟩,(checkW p).1) else outU p (lowTs p 0 p.threads):=rfl
 generalize lowerU p=R at hU ⊢
 generalize checkW p=C0 at hch hU hw
 obtain ⟨why,fa,fr⟩:=C0
 simp only at hU hw
 refine Ctr.cut [4,5,9,10,12,14,15] hT hmix Tryd.func8 rfl (fun _ _=>by kernel_rfl) rfl fun hok => ?_
 obtain ⟨hb1,_,_⟩:=((hok.slot 0 rfl).agg _ (.head _)).tr.lst
 obtain ⟨hb2,_,_⟩:=((hok.slot 0 rfl).agg _ (.tail _ (.head _))).tr.lst
 obtain ⟨hb3,hl3,hrw⟩:=((hok.slot 0 rfl).agg _ (.tail _ (.tail _ (.head _)))).tr.lst
 rw [List.length_map] at hl3
 have hlt:(p.threads.map Thread.cells).length=p.threads.length:=List.length_map ..
 clear hok hrw
 conv=>whnf
 refine CutL.by (fun _:Unit=>⟨[(1,.ptr 0 0),(2,.ptr 1 0)],[(0,.cells 25 [.tr (declsT p.shared),.tr (declsT p.locks),.tr (threadsT p.threads)]),(1,.cells 29 [nilA,nilA,nilA])],20⟩) (fun _=>(why != 0)=false) ?_ ?_
 ·conv=>whnf
  refine acall.pure _ (hch) rfl rfl fun _ => ?_
  conv=>whnf
  cases h1:(why != 0) with
  | true =>
   rw [h1,cond_true] at hU
   subst hU
   conv=>whnf
   exact ⟨⟨⟨.inr ⟨rfl,_,_,rfl⟩,.inr ⟨rfl,_,_,rfl⟩,.inr ⟨rfl,_,_,rfl⟩,trivial⟩,.inl rfl,trivial⟩,trivial⟩
  | false =>
   conv=>whnf
   exact ⟨(),[_,_],[],Sub.mk' rfl ⟨⟨rfl,rfl⟩,⟨rfl,rfl⟩,trivial⟩ ⟨⟨rfl,.inl rfl,.inl rfl,.inl rfl,trivial⟩,⟨rfl,.inl rfl,.inl rfl,.inl rfl,trivial⟩,trivial⟩ rfl rfl,rfl⟩
 rintro - h1 -
 rw [h1,cond_false] at hU
 replace hw:=hw (by rw [bne_eq_false_iff_eq] at h1; exact h1)
 clear hch
 obtain ⟨Q,hQ⟩ : ∃ Q,Q=lowTs p 0 p.threads:=⟨_,rfl⟩
 rw [← hQ] at hU
 conv=>whnf
 refine CutL.by (fun _:Unit=>⟨[(1,.ptr 0 0),(2,.ptr 1 0),(6,.ptr 2 0)],[(0,.cells 25 [.tr (declsT p.shared),.tr (declsT p.locks),.tr (threadsT p.threads)]),(1,.cells 29 [nilA,nilA,nilA]),(2,.cells 29 [.tr (declsT p.shared),.tr (declsT p.locks),.sl 3 (([]:List Gr)).length]),(3,.vec 42 4 56 ((([]:List Gr)).map Gr.cells))],20⟩) (fun _=>True) ?_ ?_
 ·conv=>whnf
  refine ⟨hb1,?_⟩
  conv=>whnf
  refine ⟨hb2,?_⟩
  conv=>whnf
  refine ⟨by kernel_rfl,fun _ => ?_⟩
  conv=>whnf
  exact ⟨(),[_,_,_],[3],Sub.mk' rfl ⟨⟨rfl,rfl⟩,⟨rfl,rfl⟩,⟨rfl,rfl⟩,trivial⟩ ⟨⟨rfl,.inl rfl,.inl rfl,.inl rfl,trivial⟩,⟨rfl,.inl rfl,.inl rfl,.inl rfl,trivial⟩,⟨rfl,⟨rfl,Nat.le_refl _,(by show Tr.lst 3 32 _=Tr.lst 3 32 (List.take _ _); rw [List.take_length])⟩,⟨rfl,Nat.le_refl _,(by show Tr.lst 3 32 _=Tr.lst 3 32 (List.take _ _); rw [List.take_length])⟩,⟨rfl,rfl,rfl,rfl⟩,trivial⟩,⟨rfl,_,_,_,rfl,by decide⟩,trivial⟩ rfl rfl,trivial⟩
 rintro - - -
 conv=>whnf
 refine LoopL.by (fun x:Nat × List Gr=>⟨[(1,.ptr 0 0),(2,.ptr 1 0),(6,.ptr 2 0),(27,.tr (threadsT p.threads)),(28,.tr (ti ((p.threads.map Thread.cells).length:Nat))),(29,.tr (ti (x.1:Nat)))],[(0,.cells 25 [.tr (declsT p.shared),.tr (declsT p.locks),.tr (threadsT p.threads)]),(1,.cells 29 [nilA,nilA,nilA]),(2,.cells 29 [.tr (declsT p.shared),.tr (declsT p.locks),.sl 3 (x.2).length]),(3,.vec 42 4 56 ((x.2).map Gr.cells))],20⟩)
  (fun x=>x.1≤p.threads.length∧Q=contG x.2 (lowTs p x.1 (p.threads.drop x.1))∧x.2.length=x.1) (fun x=>p.threads.length - x.1) (0,[]) [0,1,2,3] []
  (Sub.mk' rfl ⟨⟨rfl,rfl⟩,⟨rfl,rfl⟩,⟨rfl,rfl⟩,.inl rfl,.inl rfl,.inl rfl,trivial⟩ ⟨⟨rfl,.inl rfl,.inl rfl,.inl rfl,trivial⟩,⟨rfl,.inl rfl,.inl rfl,.inl rfl,trivial⟩,⟨rfl,.inl rfl,.inl rfl,⟨rfl,rfl⟩,trivial⟩,⟨rfl,rfl,rfl,rfl⟩,trivial⟩ rfl rfl) ⟨Nat.zero_le _,by rw [hQ]; show lowTs p 0 p.threads=contG [] (lowTs p 0 p.threads); cases lowTs p 0 p.threads <;> rfl,rfl⟩ ?_
 clear hQ
 rintro ⟨i,gs⟩ ⟨hi,hQ,hgs⟩ -
 simp only at hi hQ hgs
 conv=>whnf
 refine csplit (fun hit => ?_) (fun hit => ?_)
 ·replace hit:i<p.threads.length:=by have:decide ((i:Int)<((p.threads.map Thread.cells).length:Int))=true:=hit; have:=of_decide_eq_true this; omega
  obtain ⟨th,hth⟩ : ∃ th,p.threads[i]? = some th:=⟨_,List.getElem?_eq_getElem hit⟩
  have hwt:=hw th (List.mem_of_getElem? hth)
  rw [drop_cons hth] at hQ
  obtain ⟨C,hC⟩ : ∃ C,C=thrC p i th:=⟨_,rfl⟩
  have hQ2:Q=contG gs (bif (endS (blockS C th.body (low0 th))).over then none else match lowTs p (i+1) (p.threads.drop (i+1)) with
   | some l=>some (grS C (endS (blockS C th.body (low0 th)))::l)
   | none=>none):=by rw [hQ,hC]; rfl
  clear hQ
  have hblk:=k_blkG C th.body hwt (low0 th) (low0_ok th)
  have h1:=(low0_ok th).rel (blockS_rel C th.body (low0 th))
  have hCp:C.p=p:=by rw [hC]; rfl
  have hCt:C.t=i:=by rw [hC]; rfl
  have hCn:C.name=th.name:=by rw [hC]; rfl
  have hCl:C.loc=((th.locals.map Decl.cells).length:Nat):=by rw [hC]; rfl
  conv=>whnf
  refine ⟨rfl,(show (0:Int)≤i by omega),(show (i:Int)<((p.threads.map Thread.cells).length:Int) by omega),fun row hrow => ?_⟩
  obtain ⟨d,hd,rfl⟩:=thr_get hrow
  obtain rfl:=Option.some.inj (hth.symm.trans hd)
  clear hrow hd
  conv=>whnf
  refine CutL.by (fun _:Unit=>⟨[(1,.ptr 0 0),(2,.ptr 1 0),(6,.ptr 2 0),(27,.tr (threadsT p.threads)),(28,.tr (ti ((p.threads.map Thread.cells).length:Nat))),(29,.tr (ti (i:Nat))),(8,.ptr 4 0),(9,.ptr 5 0)],[(0,.cells 25 [.tr (declsT p.shared),.tr (declsT p.locks),.tr (threadsT p.threads)]),(1,.cells 29 [nilA,nilA,nilA]),(2,.cells 29 [.tr (declsT p.shared),.tr (declsT p.locks),.sl 3 (gs).length]),(3,.vec 42 4 56 ((gs).map Gr.cells)),(4,.cells 37 (th.cells.map .tr)),(5,stB C (low0 th) 6 7),(6,ndsB (low0 th).nodes),(7,opsH 5 (low0 th).opens)],20⟩) (fun _=>True) ?_ ?_
  ·conv=>whnf
   subst hC
   exact ⟨(),[0,1,2,3,_,_],[6,7],Sub.mk' rfl ⟨⟨rfl,rfl⟩,⟨rfl,rfl⟩,⟨rfl,rfl⟩,.inl rfl,.inl rfl,.inl rfl,⟨rfl,rfl⟩,⟨rfl,rfl⟩,trivial⟩ ⟨⟨rfl,.inl rfl,.inl rfl,.inl rfl,trivial⟩,⟨rfl,.inl rfl,.inl rfl,.inl rfl,trivial⟩,⟨rfl,.inl rfl,.inl rfl,⟨rfl,rfl⟩,trivial⟩,⟨rfl,rfl,rfl,rfl⟩,⟨rfl,.inl rfl,.inl rfl,.inl rfl,.inl rfl,trivial⟩,⟨rfl,.inl rfl,.inl rfl,.inl rfl,.inl rfl,.inl rfl,.inl rfl,.inl rfl,⟨rfl,rfl,rfl,rfl⟩,⟨rfl,rfl,rfl,rfl⟩,.inl rfl,trivial⟩,⟨rfl,_,_,_,rfl,by decide⟩,⟨rfl,rfl⟩,trivial⟩ rfl rfl,trivial⟩
  rintro - - -
  generalize blockS C th.body (low0 th)=S1 at hblk h1 hQ2
  conv=>whnf
  refine CutL.by (fun _:Unit=>⟨[(1,.ptr 0 0),(2,.ptr 1 0),(6,.ptr 2 0),(27,.tr (threadsT p.threads)),(28,.tr (ti ((p.threads.map Thread.cells).length:Nat))),(29,.tr (ti (i:Nat))),(9,.ptr 5 0)],[(0,.cells 25 [.tr (declsT p.shared),.tr (declsT p.locks),.tr (threadsT p.threads)]),(1,.cells 29 [nilA,nilA,nilA]),(2,.cells 29 [.tr (declsT p.shared),.tr (declsT p.locks),.sl 3 (gs).length]),(3,.vec 42 4 56 ((gs).map Gr.cells)),(5,stB C (S1) 6 7),(6,ndsB (S1).nodes),(7,opsH 5 (S1).opens)],20⟩) (fun _=>True) ?_ ?_
  ·conv=>whnf
   refine acall.new [5,6,7] [] _ _ _ _ (hblk) rfl rfl rfl rfl aut aut rfl rfl ?_
   conv=>whnf
   intro _
   conv=>whnf
   exact ⟨(),[0,1,2,3,4,5,_,_],[],Sub.mk' rfl ⟨⟨rfl,rfl⟩,⟨rfl,rfl⟩,⟨rfl,rfl⟩,.inl rfl,.inl rfl,.inl rfl,⟨rfl,rfl⟩,trivial⟩ ⟨⟨rfl,.inl rfl,.inl rfl,.inl rfl,trivial⟩,⟨rfl,.inl rfl,.inl rfl,.inl rfl,trivial⟩,⟨rfl,.inl rfl,.inl rfl,⟨rfl,rfl⟩,trivial⟩,⟨rfl,rfl,rfl,rfl⟩,⟨rfl,.inl rfl,.inl rfl,.inl rfl,.inl rfl,.inl rfl,.inl rfl,.inl rfl,⟨rfl,rfl⟩,⟨rfl,rfl⟩,.inl rfl,trivial⟩,⟨rfl,rfl,rfl,rfl⟩,⟨rfl,rfl,rfl,rfl⟩,trivial⟩ rfl rfl,trivial⟩
  rintro - - -
  have hp2:=k_putG C { nd00 with kind:=9 } S1 h1.ok
  have h2:=h1.relE (endS_rel S1)
  have hpos:=endS_pos (s:=S1)
  have hE:endS S1=bif S1.over then S1 else putS { nd00 with kind:=9 } S1:=rfl
  generalize putS { nd00 with kind:=9 } S1=S2a at hp2 hE
  generalize endS S1=S2 at h2 hpos hE hQ2
  conv=>whnf
  refine CutL.by (fun _:Unit=>⟨[(1,.ptr 0 0),(2,.ptr 1 0),(6,.ptr 2 0),(27,.tr (threadsT p.threads)),(28,.tr (ti ((p.threads.map Thread.cells).length:Nat))),(29,.tr (ti (i:Nat))),(9,.ptr 5 0)],[(0,.cells 25 [.tr (declsT p.shared),.tr (declsT p.locks),.tr (threadsT p.threads)]),(1,.cells 29 [nilA,nilA,nilA]),(2,.cells 29 [.tr (declsT p.shared),.tr (declsT p.locks),.sl 3 (gs).length]),(3,.vec 42 4 56 ((gs).map Gr.cells)),(5,stB C (S2) 6 7),(6,ndsB (S2).nodes),(7,opsH 5 (S2).opens)],20⟩) (fun _=>True) ?_ ?_
  ·conv=>whnf
   obtain ⟨sl1,n1,o1,v1⟩:=S1
   cases v1 with
   | true =>
    replace hE:S2=⟨sl1,n1,o1,true⟩:=hE
    subst hE
    conv=>whnf
    exact ⟨(),[0,1,2,3,4,5,6,7],[],Sub.mk' rfl ⟨⟨rfl,rfl⟩,⟨rfl,rfl⟩,⟨rfl,rfl⟩,.inl rfl,.inl rfl,.inl rfl,⟨rfl,rfl⟩,trivial⟩ ⟨⟨rfl,.inl rfl,.inl rfl,.inl rfl,trivial⟩,⟨rfl,.inl rfl,.inl rfl,.inl rfl,trivial⟩,⟨rfl,.inl rfl,.inl rfl,⟨rfl,rfl⟩,trivial⟩,⟨rfl,rfl,rfl,rfl⟩,⟨rfl,.inl rfl,.inl rfl,.inl rfl,.inl rfl,.inl rfl,.inl rfl,.inl rfl,⟨rfl,rfl⟩,⟨rfl,rfl⟩,.inl rfl,trivial⟩,⟨rfl,rfl,rfl,rfl⟩,⟨rfl,rfl,rfl,rfl⟩,trivial⟩ rfl rfl,trivial⟩
   | false =>
    replace hE:S2=S2a:=hE
    subst hE
    conv=>whnf
    refine acall.new [5,6,7] [] _ _ _ _ (hp2) rfl rfl rfl rfl aut aut rfl rfl ?_
    conv=>whnf
    intro _
    conv=>whnf
    exact ⟨(),[0,1,2,3,4,5,_,_],[],Sub.mk' rfl ⟨⟨rfl,rfl⟩,⟨rfl,rfl⟩,⟨rfl,rfl⟩,.inl rfl,.inl rfl,.inl rfl,⟨rfl,rfl⟩,trivial⟩ ⟨⟨rfl,.inl rfl,.inl rfl,.inl rfl,trivial⟩,⟨rfl,.inl rfl,.inl rfl,.inl rfl,trivial⟩,⟨rfl,.inl rfl,.inl rfl,⟨rfl,rfl⟩,trivial⟩,⟨rfl,rfl,rfl,rfl⟩,⟨rfl,.inl rfl,.inl rfl,.inl rfl,.inl rfl,.inl rfl,.inl rfl,.inl rfl,⟨rfl,rfl⟩,⟨rfl,rfl⟩,.inl rfl,trivial⟩,⟨rfl,rfl,rfl,rfl⟩,⟨rfl,rfl,rfl,rfl⟩,trivial⟩ rfl rfl,trivial⟩
  rintro - - -
  clear hE hp2 h1 hblk
  obtain ⟨sl2,n2,o2,v2⟩:=S2
  simp only at hpos hQ2
  cases v2 with
  | true =>
   replace hQ2:Q=none:=hQ2
   replace hU:R=(⟨[],[],[]⟩,3):=by rw [hU,hQ2]; rfl
   subst hU
   conv=>whnf
   refine CutL.by (fun _:Unit=>⟨[(1,.ptr 0 0)],[(0,.cells 25 [.tr (declsT p.shared),.tr (declsT p.locks),.tr (threadsT p.threads)])],20⟩) (fun _=>False) ?_ ?_
   ·conv=>whnf
    exact ⟨⟨⟨.inr ⟨rfl,_,_,rfl⟩,.inr ⟨rfl,_,_,rfl⟩,.inr ⟨rfl,_,_,rfl⟩,trivial⟩,.inl rfl,trivial⟩,trivial⟩
   rintro - hF
   exact hF.elim
  | false =>
  have hpos:=hpos rfl
  have hcap:=h2.cap
  simp only at hcap
  conv=>whnf
  refine CutL.by (fun _:Unit=>⟨[(1,.ptr 0 0),(2,.ptr 1 0),(6,.ptr 2 0),(27,.tr (threadsT p.threads)),(28,.tr (ti ((p.threads.map Thread.cells).length:Nat))),(29,.tr (ti (i:Nat))),(9,.ptr 5 0)],[(0,.cells 25 [.tr (declsT p.shared),.tr (declsT p.locks),.tr (threadsT p.threads)]),(1,.cells 29 [nilA,nilA,nilA]),(2,.cells 29 [.tr (declsT p.shared),.tr (declsT p.locks),.sl 3 (gs).length]),(3,.vec 42 4 56 ((gs).map Gr.cells)),(5,stB C ((⟨sl2,n2,o2,false⟩:LowS)) 6 7),(6,ndsB ((⟨sl2,n2,o2,false⟩:LowS)).nodes),(7,opsH 5 ((⟨sl2,n2,o2,false⟩:LowS)).opens)],20⟩) (fun _=>True) ?_ ?_
  ·conv=>whnf
   exact ⟨(),[0,1,2,3,4,5,6,7],[],Sub.mk' rfl ⟨⟨rfl,rfl⟩,⟨rfl,rfl⟩,⟨rfl,rfl⟩,.inl rfl,.inl rfl,.inl rfl,⟨rfl,rfl⟩,trivial⟩ ⟨⟨rfl,.inl rfl,.inl rfl,.inl rfl,trivial⟩,⟨rfl,.inl rfl,.inl rfl,.inl rfl,trivial⟩,⟨rfl,.inl rfl,.inl rfl,⟨rfl,rfl⟩,trivial⟩,⟨rfl,rfl,rfl,rfl⟩,⟨rfl,.inl rfl,.inl rfl,.inl rfl,.inl rfl,.inl rfl,.inl rfl,.inl rfl,⟨rfl,rfl⟩,⟨rfl,rfl⟩,.inl rfl,trivial⟩,⟨rfl,rfl,rfl,rfl⟩,⟨rfl,rfl,rfl,rfl⟩,trivial⟩ rfl rfl,trivial⟩
  rintro - - -
  have hz:IntKind.i64.wrap ((n2.length:Int) - 1)=((n2.length - 1:Nat):Int):=by
   rw [w64 (by omega) (by omega)]; omega
  obtain ⟨nl,hnl⟩ : ∃ nl,n2[n2.length - 1]? = some nl:=⟨_,List.getElem?_eq_getElem (by omega)⟩
  have hzl:zeroLast n2=n2.set (n2.length - 1) { nl with next:=0 }:=by unfold zeroLast; rw [hnl]
  conv=>whnf
  refine CutL.by (fun _:Unit=>⟨[(1,.ptr 0 0),(2,.ptr 1 0),(6,.ptr 2 0),(27,.tr (threadsT p.threads)),(28,.tr (ti ((p.threads.map Thread.cells).length:Nat))),(29,.tr (ti (i:Nat))),(9,.ptr 5 0)],[(0,.cells 25 [.tr (declsT p.shared),.tr (declsT p.locks),.tr (threadsT p.threads)]),(1,.cells 29 [nilA,nilA,nilA]),(2,.cells 29 [.tr (declsT p.shared),.tr (declsT p.locks),.sl 3 (gs).length]),(3,.vec 42 4 56 ((gs).map Gr.cells)),(5,lwT C ⟨sl2,n2,o2,false⟩ (zeroLast n2) 7),(7,opsH 5 o2)],20⟩) (fun _=>True) ?_ ?_
  ·conv=>whnf
   rw [hz]
   refine ⟨rfl,(show (0:Int)≤((n2.length - 1:Nat):Int) by omega),(show ((n2.length - 1:Nat):Int)<(n2.length:Int) by omega),?_⟩
   conv=>whnf
   refine ⟨rfl,rfl,(by show n2.length - 1<(n2.map Nd.cells).length; rw [List.length_map]; omega),fun row hrow => ?_⟩
   obtain ⟨d,hd,rfl⟩:=nd_get hrow
   have hdn:nl=d:=Option.some.inj (hnl.symm.trans hd)
   subst hdn
   clear hrow hd
   refine ⟨(show 10+1≤13 by decide),?_⟩
   conv=>whnf
   refine ⟨by kernel_rfl,fun _ => ?_⟩
   conv=>whnf
   exact ⟨(),[0,1,2,3,4,5,1000000,7],[],Sub.mk' rfl ⟨⟨rfl,rfl⟩,⟨rfl,rfl⟩,⟨rfl,rfl⟩,.inl rfl,.inl rfl,.inl rfl,⟨rfl,rfl⟩,trivial⟩ ⟨⟨rfl,.inl rfl,.inl rfl,.inl rfl,trivial⟩,⟨rfl,.inl rfl,.inl rfl,.inl rfl,trivial⟩,⟨rfl,.inl rfl,.inl rfl,⟨rfl,rfl⟩,trivial⟩,⟨rfl,rfl,rfl,rfl⟩,⟨rfl,.inl rfl,.inl rfl,.inl rfl,.inl rfl,.inl rfl,.inl rfl,.inl rfl,⟨rfl,(by show n2.length≤((n2.map Nd.cells).set _ _).length; rw [List.length_set,List.length_map]; exact Nat.le_refl _),(by rw [hzl]; show Tr.lst 13 96 _=Tr.lst 13 96 (List.take _ ((n2.map Nd.cells).set _ _)); rw [List.take_of_length_le (by rw [List.length_set,List.length_map]; exact Nat.le_refl _),List.map_set]; rfl)⟩,⟨rfl,rfl⟩,.inl rfl,trivial⟩,⟨rfl,rfl,rfl,rfl⟩,trivial⟩ rfl rfl,trivial⟩
  rintro - - -
  obtain ⟨G,hG⟩ : ∃ G,G=grS C ⟨sl2,n2,o2,false⟩:=⟨_,rfl⟩
  have hGc:G.cells=[ts C.name,ti C.loc,ti sl2,nodesT (zeroLast n2)]:=by rw [hG]; rfl
  replace hQ2:Q=contG (gs++[G]) (lowTs p (i+1) (p.threads.drop (i+1))):=by
   rw [hQ2,hG]
   cases lowTs p (i+1) (p.threads.drop (i+1)) with
   | none=>rfl
   | some l=>show some (gs++(grS C _::l))=some ((gs++[grS C _])++l); rw [List.append_assoc]; rfl
  have hda:(gs.map Gr.cells).take gs.length++[[ts C.name,ti C.loc,ti sl2,nodesT (zeroLast n2)]]=(gs++[G]).map Gr.cells:=by
   rw [List.take_of_length_le (by rw [List.length_map]; exact Nat.le_refl _),List.map_append,← hGc]; rfl
  have hglen:gs.length+1=(gs++[G]).length:=by rw [List.length_append]; rfl
  conv=>whnf
  refine ⟨rfl,rfl,rfl,(by rw [List.length_map]; exact Nat.le_refl _),(show (gs.length+1)*56≤150000000000000 by omega),fun q hq => ?_,?_⟩
  ·cases hq with
   | head=>exact Nat.ne_of_beq_eq_false rfl
   | tail _ h =>
    first
    | (cases h; done)
    | (cases h with
     | head=>exact Nat.ne_of_beq_eq_false rfl
     | tail _ h=>cases h)
  conv=>whnf
  refine ⟨by kernel_rfl,fun _ => ?_⟩
  conv=>whnf
  exact ⟨(i+1,gs++[G]),[0,1,2,_],[],Sub.mk' rfl ⟨⟨rfl,rfl⟩,⟨rfl,rfl⟩,⟨rfl,rfl⟩,.inl rfl,.inl rfl,.inl (ti_succ hit hl3),trivial⟩ ⟨⟨rfl,.inl rfl,.inl rfl,.inl rfl,trivial⟩,⟨rfl,.inl rfl,.inl rfl,.inl rfl,trivial⟩,⟨rfl,.inl rfl,.inl rfl,⟨rfl,hglen⟩,trivial⟩,⟨rfl,rfl,rfl,hda⟩,trivial⟩ rfl rfl,⟨hit,hQ2,by show (gs++[G]).length=i+1; omega⟩,by show p.threads.length - (i+1)<p.threads.length - i; omega⟩
 replace hit:i=p.threads.length:=by have:decide ((i:Int)<((p.threads.map Thread.cells).length:Int))=false:=hit; have:=of_decide_eq_false this; omega
 subst hit
 rw [List.drop_length] at hQ
 replace hQ:Q=some gs:=by rw [hQ]; show some (gs++[])=some gs; rw [List.append_nil]
 replace hU:R=(⟨p.shared,p.locks,gs⟩,0):=by rw [hU,hQ]; rfl
 subst hU
 conv=>whnf
 refine ⟨fun _ => ?_,fun h=>absurd rfl h⟩
 conv=>whnf
 exact ⟨⟨⟨.inl rfl,.inl rfl,⟨rfl,(by rw [List.length_map]; exact Nat.le_refl _),(by show Tr.lst 4 56 _=Tr.lst 4 56 (List.take _ _); rw [List.take_of_length_le (by rw [List.length_map]; exact Nat.le_refl _)])⟩,trivial⟩,.inl rfl,trivial⟩,trivial⟩
end Go.Proofs.YthboippafkcoiaaDoor.am
