/- Contracts of cfg: named. Contracts of cfg: parts, right. Contracts of cfg: slices.Clone and slices.Equal of numbers. Contracts of cfg: held. -/
import Derived.Test.YthboippafkcoiaaGreatDoorV9
import Derived.Test.YthboippafkcoiaaGreatDoorV6
set_option linter.all false
namespace Go.Proofs.YthboippafkcoiaaGreatDoor.am
open Go Go.Proofs
set_option linter.all false
theorem Sub.aw {k:Nat} {ρ nl:List Nat} {s:AS} {tl:List (Nat × AV)} {bl:List (Nat × Blk)} {nx:Nat} (h2:subT s ρ nl tl:=by repeat' (first | exact trivial | exact Or.inl rfl | exact rfl | exact Nat.le_refl _ | apply And.intro)) (h3:subM s.m ρ nl (fun h => !has ρ h) bl:=by repeat' (first | exact trivial | exact Or.inl rfl | exact rfl | exact Nat.le_refl _ | apply And.intro)) (h1:rhoOk k ρ=true:=by exact rfl) (h4:Nat.ble ρ.length nx=true:=by exact rfl) (h5:nl.all (fun i=>Nat.blt i nx)=true:=by exact rfl):Sub k ρ nl s (mkS tl bl nx):=Sub.mk' h1 h2 h3 h4 h5
structure Un where
 shared:List Decl
 locks:List Decl
 graphs:List Gr
def Un.cells (u:Un):List Tr:=[declsT u.shared,declsT u.locks,graphsT u.graphs]
def Un.av (u:Un):AV := .agg (u.cells.map .tr)
def hasS:List ByteArray→ByteArray→Bool
 | [],_=>false
 | x::r,s=>bif s.toList == x.toList then true else hasS r s
def addS:List ByteArray→ByteArray→List ByteArray
 | [],s=>[s]
 | x::r,s=>bif s.toList == x.toList then s::r else x::addS r s
def sMap (l:List ByteArray):List (MK × Tr):=l.map fun x=>(.ks x,tb true)
theorem mget_sMap : ∀ (l:List ByteArray) (s:ByteArray),(mget (sMap l) (.ks s)).getD (Tr.v Z.b.val)=tb (hasS l s)
 | [],s=>rfl
 | x::r,s=>by
  show (bif s.toList == x.toList then some (tb true) else mget (sMap r) (.ks s)).getD (Tr.v Z.b.val)=tb (bif s.toList == x.toList then true else hasS r s)
  cases (s.toList == x.toList) with
  | true=>rfl
  | false=>exact mget_sMap r s
theorem mput_sMap : ∀ (l:List ByteArray) (s:ByteArray),mput (sMap l) (.ks s) (tb true)=sMap (addS l s)
 | [],s=>rfl
 | x::r,s=>by
  show (bif s.toList == x.toList then (.ks s,tb true)::sMap r else (.ks x,tb true)::mput (sMap r) (.ks s) (tb true))=sMap (bif s.toList == x.toList then s::r else x::addS r s)
  rw [mput_sMap r s]
  cases (s.toList == x.toList) <;> rfl
def addB (l:List ByteArray) (s:ByteArray):Bool:=nameB s && !hasS l s
def nm3:List ByteArray→List Gr→Bool
 | _,[]=>true
 | l,g::r=>bif addB l g.name then nm3 (addS l g.name) r else false
def nm2 (gs:List Gr):List ByteArray→List Decl→Bool
 | l,[]=>nm3 l gs
 | l,d::r=>bif addB l d.name then (bif d.word != 0 then false else nm2 gs (addS l d.name) r) else false
def nm1 (ks:List Decl) (gs:List Gr):List ByteArray→List Decl→Bool
 | l,[]=>nm2 gs l ks
 | l,d::r=>bif addB l d.name then nm1 ks gs (addS l d.name) r else false
def lensB (u:Un):Bool:=decide ((u.shared.length:Int) > 64) || decide ((u.locks.length:Int) > 16) || decide ((u.graphs.length:Int) > 8)
def namedB (u:Un):Bool:=bif lensB u then false else nm1 u.locks u.graphs [] u.shared
abbrev seenB (l:List ByteArray):Blk := .map .string (sMap l)
abbrev mpB (h:Nat):Blk := .cells 156 [.mp h]
set_option maxRecDepth 100000 in
theorem k_add (l:List ByteArray) (s:ByteArray):K 107 [.tr (ts s),.ptr 0 0] [mpB 1,seenB l] (.ret (.tr (tb (addB l s)))) [some (mpB 1),some (seenB (addS l s))]:=by
 have hn:=k41 s
 refine Ctr.of hT hmix Tryz.func107 rfl (fun _ _=>by kernel_rfl) rfl fun hok => ?_
 clear hok
 conv=>whnf
 refine acall.pure _ (hn) rfl rfl fun _ => ?_
 conv=>whnf
 cases hnb:nameB s with
 | false =>
  conv=>whnf
  exact ⟨.inl (by unfold addB; rw [hnb]; rfl),aut,⟨rfl,mput_sMap l s⟩,trivial⟩
 | true =>
  conv=>whnf
  rw [mget_sMap]
  cases hhs:hasS l s with
  | false =>
   conv=>whnf
   exact ⟨.inl (by unfold addB; rw [hnb,hhs]; rfl),aut,⟨rfl,mput_sMap l s⟩,trivial⟩
  | true =>
   conv=>whnf
   exact ⟨.inl (by unfold addB; rw [hnb,hhs]; rfl),aut,⟨rfl,mput_sMap l s⟩,trivial⟩
theorem decl_get {l:List Decl} {i:Nat} {row:List Tr} (h:(l.map Decl.cells)[i]? = some row) : ∃ d,l[i]? = some d∧row=d.cells:=by
 rw [List.getElem?_map,Option.map_eq_some_iff] at h
 obtain ⟨d,h1,rfl⟩:=h
 exact ⟨d,h1,rfl⟩
theorem gr_get {l:List Gr} {i:Nat} {row:List Tr} (h:(l.map Gr.cells)[i]? = some row) : ∃ d,l[i]? = some d∧row=d.cells:=by
 rw [List.getElem?_map,Option.map_eq_some_iff] at h
 obtain ⟨d,h1,rfl⟩:=h
 exact ⟨d,h1,rfl⟩
set_option maxRecDepth 100000 in
set_option maxHeartbeats 2000000 in
theorem k_named (u:Un):K 68 [u.av] [] (.ret (.tr (tb (namedB u)))) []:=by
 have hls:(u.shared.map Decl.cells).length=u.shared.length:=List.length_map ..
 have hll:(u.locks.map Decl.cells).length=u.locks.length:=List.length_map ..
 have hlg:(u.graphs.map Gr.cells).length=u.graphs.length:=List.length_map ..
 have hadd:=k_add
 refine Ctr.of hT hmix Tryz.func68 rfl (fun _ _=>by kernel_rfl) rfl fun hok => ?_
 obtain ⟨_,hl1,_⟩:=((hok.slot 0 rfl).agg _ (.head _)).tr.lst
 obtain ⟨_,hl2,_⟩:=((hok.slot 0 rfl).agg _ (.tail _ (.head _))).tr.lst
 obtain ⟨_,hl3,_⟩:=((hok.slot 0 rfl).agg _ (.tail _ (.tail _ (.head _)))).tr.lst
 rw [List.length_map] at hl1 hl2 hl3
 clear hok
 conv=>whnf
 cases h1:decide (((u.shared.map Decl.cells).length:Int) > 64) with
 | true =>
  conv=>whnf
  exact ⟨.inl (by rw [hls] at h1; unfold namedB lensB; rw [h1]; rfl),trivial⟩
 | false =>
 conv=>whnf
 cases h2:decide (((u.locks.map Decl.cells).length:Int) > 16) with
 | true =>
  conv=>whnf
  exact ⟨.inl (by rw [hls] at h1; rw [hll] at h2; unfold namedB lensB; rw [h1,h2]; rfl),trivial⟩
 | false =>
 conv=>whnf
 cases h3:decide (((u.graphs.map Gr.cells).length:Int) > 8) with
 | true =>
  conv=>whnf
  exact ⟨.inl (by rw [hls] at h1; rw [hll] at h2; rw [hlg] at h3; unfold namedB lensB; rw [h1,h2,h3]; rfl),trivial⟩
 | false =>
 have hN:namedB u=nm1 u.locks u.graphs [] u.shared:=by rw [hls] at h1; rw [hll] at h2; rw [hlg] at h3; unfold namedB lensB; rw [h1,h2,h3]; rfl
 generalize namedB u=R at hN ⊢
 clear h1 h2 h3
 conv=>whnf
 refine LoopL.by (fun x:List ByteArray × Nat=>⟨[(1,.ptr 0 0),(4,.fn 107 [.ptr 1 0]),(30,.tr (declsT u.shared)),(31,.tr (ti (u.shared.length:Nat))),(32,.tr (ti (x.2:Nat)))],[(0,.cells 29 [.tr (declsT u.shared),.tr (declsT u.locks),.tr (graphsT u.graphs)]),(1,mpB 2),(2,seenB x.1)],10⟩) (fun x=>x.2≤u.shared.length∧R=nm1 u.locks u.graphs x.1 (u.shared.drop x.2)) (fun x=>u.shared.length - x.2) ([],0) [_,_,_] []
  (Sub.mk' rfl ⟨⟨rfl,rfl⟩,⟨rfl,⟨rfl,rfl⟩,trivial⟩,.inl rfl,.inl (by rw [← hls]),.inl rfl,trivial⟩ ⟨⟨rfl,.inl rfl,.inl rfl,.inl rfl,trivial⟩,⟨rfl,rfl,trivial⟩,⟨rfl,rfl⟩,trivial⟩ rfl rfl) ⟨Nat.zero_le _,hN⟩ ?_
 clear hN
 rintro ⟨l,i⟩ ⟨hi,hN⟩ -
 simp only at hi hN
 conv=>whnf
 refine csplit (fun hit => ?_) (fun hit => ?_)
 ·have hit:i<u.shared.length:=by have:decide ((i:Int)<(u.shared.length:Int))=true:=hit; have:=of_decide_eq_true this; omega
  obtain ⟨d,hd⟩ : ∃ d,u.shared[i]? = some d:=⟨_,List.getElem?_eq_getElem hit⟩
  rw [drop_cons hd] at hN
  obtain ⟨dn,dw,da⟩:=d
  conv=>whnf
  refine ⟨rfl,(show (0:Int)≤i by omega),(show (i:Int)<((u.shared.map Decl.cells).length:Int) by omega),fun row hrow => ?_⟩
  obtain ⟨d',hd',rfl⟩:=decl_get hrow
  obtain rfl:=Option.some.inj (hd.symm.trans hd')
  clear hrow hd' hd
  conv=>whnf
  refine acall.au [1,2] [] (hadd l dn) ?_
  intro _
  conv=>whnf
  cases hA:addB l dn with
  | false =>
   conv=>whnf
   exact ⟨.inl (by rw [hN]; show tb false=tb (bif addB l dn then _ else false); rw [hA]; rfl),trivial⟩
  | true =>
   replace hN:R=nm1 u.locks u.graphs (addS l dn) (u.shared.drop (i+1)):=by
    rw [hN]; show (bif addB l dn then _ else false)=_; rw [hA]; rfl
   conv=>whnf
   exact ⟨(addS l dn,i+1),[0,1,2],[],Sub.mk' rfl ⟨⟨rfl,rfl⟩,aut,.inl rfl,.inl rfl,.inl (ti_succ hit (by omega)),trivial⟩ aut rfl rfl,⟨hit,hN⟩,by show u.shared.length - (i+1)<u.shared.length - i; omega⟩
 have hit:u.shared.length≤i:=by have:decide ((i:Int)<(u.shared.length:Int))=false:=hit; have:=of_decide_eq_false this; omega
 rw [List.drop_of_length_le hit] at hN
 conv=>whnf
 refine ⟨fun _ => ?_,fun h=>absurd rfl h⟩
 conv=>whnf
 refine LoopL.by (fun x:List ByteArray × Nat=>⟨[(1,.ptr 0 0),(4,.fn 107 [.ptr 1 0]),(43,.tr (declsT u.locks)),(44,.tr (ti (u.locks.length:Nat))),(45,.tr (ti (x.2:Nat)))],[(0,.cells 29 [.tr (declsT u.shared),.tr (declsT u.locks),.tr (graphsT u.graphs)]),(1,mpB 2),(2,seenB x.1)],10⟩) (fun x=>x.2≤u.locks.length∧R=nm2 u.graphs x.1 (u.locks.drop x.2)) (fun x=>u.locks.length - x.2) (l,0) [0,1,2] []
  (Sub.mk' rfl ⟨⟨rfl,rfl⟩,aut,.inl rfl,.inl (by rw [← hll]),.inl rfl,trivial⟩ aut rfl rfl) ⟨Nat.zero_le _,hN⟩ ?_
 clear hN
 rintro ⟨l,i⟩ ⟨hi,hN⟩ -
 simp only at hi hN
 conv=>whnf
 refine csplit (fun hit => ?_) (fun hit => ?_)
 ·have hit:i<u.locks.length:=by have:decide ((i:Int)<(u.locks.length:Int))=true:=hit; have:=of_decide_eq_true this; omega
  obtain ⟨d,hd⟩ : ∃ d,u.locks[i]? = some d:=⟨_,List.getElem?_eq_getElem hit⟩
  rw [drop_cons hd] at hN
  obtain ⟨dn,dw,da⟩:=d
  conv=>whnf
  refine ⟨rfl,(show (0:Int)≤i by omega),(show (i:Int)<((u.locks.map Decl.cells).length:Int) by omega),fun row hrow => ?_⟩
  obtain ⟨d',hd',rfl⟩:=decl_get hrow
  obtain rfl:=Option.some.inj (hd.symm.trans hd')
  clear hrow hd' hd
  conv=>whnf
  refine acall.au [1,2] [] (hadd l dn) ?_
  intro _
  conv=>whnf
  cases hA:addB l dn with
  | false =>
   conv=>whnf
   exact ⟨.inl (by rw [hN]; show tb false=tb (bif addB l dn then _ else false); rw [hA]; rfl),trivial⟩
  | true =>
   by_cases hw:dw=0
   ·subst hw
    replace hN:R=nm2 u.graphs (addS l dn) (u.locks.drop (i+1)):=by
     rw [hN]; show (bif addB l dn then _ else false)=_; rw [hA]; rfl
    conv=>whnf
    exact ⟨(addS l dn,i+1),[0,1,2],[],Sub.mk' rfl ⟨⟨rfl,rfl⟩,aut,.inl rfl,.inl rfl,.inl (ti_succ hit (by omega)),trivial⟩ aut rfl rfl,⟨hit,hN⟩,by show u.locks.length - (i+1)<u.locks.length - i; omega⟩
   ·have e:(dw != 0)=true:=bne_iff_ne.2 hw
    replace hN:R=false:=by
     rw [hN]; show (bif addB l dn then (bif dw != 0 then false else _) else false)=_; rw [hA,e]; rfl
    conv=>whnf
    rw [e]
    conv=>whnf
    exact ⟨.inl (by rw [hN]),trivial⟩
 have hit:u.locks.length≤i:=by have:decide ((i:Int)<(u.locks.length:Int))=false:=hit; have:=of_decide_eq_false this; omega
 rw [List.drop_of_length_le hit] at hN
 conv=>whnf
 refine ⟨fun _ => ?_,fun h=>absurd rfl h⟩
 conv=>whnf
 refine LoopL.by (fun x:List ByteArray × Nat=>⟨[(1,.ptr 0 0),(4,.fn 107 [.ptr 1 0]),(61,.tr (graphsT u.graphs)),(62,.tr (ti (u.graphs.length:Nat))),(63,.tr (ti (x.2:Nat)))],[(0,.cells 29 [.tr (declsT u.shared),.tr (declsT u.locks),.tr (graphsT u.graphs)]),(1,mpB 2),(2,seenB x.1)],10⟩) (fun x=>x.2≤u.graphs.length∧R=nm3 x.1 (u.graphs.drop x.2)) (fun x=>u.graphs.length - x.2) (l,0) [0,1,2] []
  (Sub.mk' rfl ⟨⟨rfl,rfl⟩,aut,.inl rfl,.inl (by rw [← hlg]),.inl rfl,trivial⟩ aut rfl rfl) ⟨Nat.zero_le _,hN⟩ ?_
 clear hN
 rintro ⟨l,i⟩ ⟨hi,hN⟩ -
 simp only at hi hN
 conv=>whnf
 refine csplit (fun hit => ?_) (fun hit => ?_)
 ·have hit:i<u.graphs.length:=by have:decide ((i:Int)<(u.graphs.length:Int))=true:=hit; have:=of_decide_eq_true this; omega
  obtain ⟨d,hd⟩ : ∃ d,u.graphs[i]? = some d:=⟨_,List.getElem?_eq_getElem hit⟩
  rw [drop_cons hd] at hN
  obtain ⟨dn,lc,sl,ns⟩:=d
  conv=>whnf
  refine ⟨rfl,(show (0:Int)≤i by omega),(show (i:Int)<((u.graphs.map Gr.cells).length:Int) by omega),fun row hrow => ?_⟩
  obtain ⟨d',hd',rfl⟩:=gr_get hrow
  obtain rfl:=Option.some.inj (hd.symm.trans hd')
  clear hrow hd' hd
  conv=>whnf
  refine acall.au [1,2] [] (hadd l dn) ?_
  intro _
  conv=>whnf
  cases hA:addB l dn with
  | false =>
   conv=>whnf
   exact ⟨.inl (by rw [hN]; show tb false=tb (bif addB l dn then _ else false); rw [hA]; rfl),trivial⟩
  | true =>
   replace hN:R=nm3 (addS l dn) (u.graphs.drop (i+1)):=by
    rw [hN]; show (bif addB l dn then _ else false)=_; rw [hA]; rfl
   conv=>whnf
   exact ⟨(addS l dn,i+1),[0,1,2],[],Sub.mk' rfl ⟨⟨rfl,rfl⟩,aut,.inl rfl,.inl rfl,.inl (ti_succ hit (by omega)),trivial⟩ aut rfl rfl,⟨hit,hN⟩,by show u.graphs.length - (i+1)<u.graphs.length - i; omega⟩
 have hit:u.graphs.length≤i:=by have:decide ((i:Int)<(u.graphs.length:Int))=false:=hit; have:=of_decide_eq_false this; omega
 rw [List.drop_of_length_le hit] at hN
 conv=>whnf
 refine ⟨fun _ => ?_,fun h=>absurd rfl h⟩
 conv=>whnf
 exact ⟨.inl (by rw [hN]; rfl),trivial⟩
end Go.Proofs.YthboippafkcoiaaGreatDoor.am
namespace Go.Proofs.YthboippafkcoiaaGreatDoor.am
open Go Go.Proofs
set_option linter.all false
def partsI (kind op:Int):Int:=bif kind == 1 then (bif two op then 59 else 43) else bif kind == 2 then 38 else bif kind == 3 then 44 else bif kind == 4 then 46 else bif kind == 5 then 36 else bif kind == 6 then 36 else bif kind == 7 then 40 else bif kind == 8 then 104 else 0
theorem kinds {k:Int} (h1:(k == 0)=false) (h2:decide (k ≥ 10)=false) (h0:0≤k):k=1∨k=2∨k=3∨k=4∨k=5∨k=6∨k=7∨k=8∨k=9:=by
 have:=beq_eq_false_iff_ne.1 h1
 have:=of_decide_eq_false h2
 omega
set_option maxRecDepth 100000 in
theorem k_parts (n:Nd) (hk:n.kind=1∨n.kind=2∨n.kind=3∨n.kind=4∨n.kind=5∨n.kind=6∨n.kind=7∨n.kind=8∨n.kind=9):K 109 [n.av] [] (.ret (.tr (tu (partsI n.kind n.op)))) []:=by
 obtain ⟨kind,op,slot,thing,⟨sa,ka,wa⟩,⟨sb,kb,wb⟩,next,els,origin⟩:=n
 simp only at hk
 have ht:=k_two op
 rcases hk with rfl | rfl | rfl | rfl | rfl | rfl | rfl | rfl | rfl
 ·refine Ctr.of hT hmix Tryz.func109 rfl (fun _ _=>by kernel_rfl) rfl fun hok => ?_
  clear hok
  conv=>whnf
  refine ⟨of_decide_eq_true rfl,of_decide_eq_true rfl,?_⟩
  conv=>whnf
  refine acall.pure _ (ht) rfl rfl fun _ => ?_
  conv=>whnf
  cases h2:two op with
  | true =>
   conv=>whnf
   exact ⟨.inl (congrArg tu (by unfold partsI; rw [h2]; rfl)),trivial⟩
  | false =>
   conv=>whnf
   exact ⟨.inl (congrArg tu (by unfold partsI; rw [h2]; rfl)),trivial⟩
 all_goals
  refine Ctr.of hT hmix Tryz.func109 rfl (fun _ _=>by kernel_rfl) rfl fun hok => ?_
  clear hok
  conv=>whnf
  refine ⟨of_decide_eq_true rfl,of_decide_eq_true rfl,?_⟩
  conv=>whnf
  exact aut
abbrev andP (p has:Int):Int:=IntKind.u8.wrap ((BitVec.ofInt IntKind.u8.bits p &&& BitVec.ofInt IntKind.u8.bits has).toNat:Int)
def withinB (p has k most:Int):Bool:=(andP p has == 0 && k == 0) || (andP p has != 0 && decide (k ≥ 0) && decide (k<most))
def valueB (p has:Int) (v:Val) (slots:Int):Bool:=bif andP p has == 0 then (v.s == false && (v.k == 0 && (v.w == 0 && true))) else bif v.s then (decide (v.k ≥ 0) && decide (v.k<slots) && v.w == 0) else v.k == 0
abbrev partB (p:Int):Blk := .cells 158 [.tr (tu p)]
set_option maxRecDepth 100000 in
theorem k_within (p has k most:Int):K 110 [.tr (ti k),.tr (tu has),.tr (ti most),.ptr 0 0] [partB p] (.ret (.tr (tb (withinB p has k most)))) [some (partB p)]:=by
 refine Ctr.of hT hmix Tryz.func110 rfl (fun _ _=>by kernel_rfl) rfl fun hok => ?_
 clear hok
 conv=>whnf
 cases h1:(andP p has == 0) with
 | true =>
  have e1:(andP p has != 0)=false:=by rw [bne,h1]; rfl
  conv=>whnf
  cases h2:(k == 0) with
  | true =>
   conv=>whnf
   exact ⟨.inl (congrArg tb (by unfold withinB; rw [h1,h2]; rfl)),aut,trivial⟩
  | false =>
   conv=>whnf
   rw [e1]
   conv=>whnf
   exact ⟨.inl (congrArg tb (by unfold withinB; rw [h1,h2,e1]; rfl)),aut,trivial⟩
 | false =>
  have e1:(andP p has != 0)=true:=by rw [bne,h1]; rfl
  conv=>whnf
  rw [e1]
  conv=>whnf
  cases h2:decide (k ≥ 0) with
  | false =>
   conv=>whnf
   exact ⟨.inl (congrArg tb (by unfold withinB; rw [h1,h2,e1]; rfl)),aut,trivial⟩
  | true =>
   conv=>whnf
   cases h3:decide (k<most) with
   | false =>
    conv=>whnf
    exact ⟨.inl (congrArg tb (by unfold withinB; rw [h1,h2,h3,e1]; rfl)),aut,trivial⟩
   | true =>
    conv=>whnf
    exact ⟨.inl (congrArg tb (by unfold withinB; rw [h1,h2,h3,e1]; rfl)),aut,trivial⟩
abbrev grBl (g:Gr):Blk := .cells 50 (g.cells.map .tr)
set_option maxRecDepth 100000 in
theorem k_valueR (p has:Int) (v:Val) (g:Gr):K 111 [.agg [.tr (tb v.s),.tr (ti v.k),.tr (ti v.w)],.tr (tu has),.ptr 0 0,.ptr 1 0] [partB p,grBl g] (.ret (.tr (tb (valueB p has v g.slots)))) [some (partB p),some (grBl g)]:=by
 refine Ctr.of hT hmix Tryz.func111 rfl (fun _ _=>by kernel_rfl) rfl fun hok => ?_
 clear hok
 conv=>whnf
 cases h1:(andP p has == 0) with
 | true =>
  conv=>whnf
  exact ⟨.inl (congrArg tb (by unfold valueB; rw [h1]; rfl)),aut,aut,trivial⟩
 | false =>
  conv=>whnf
  cases h2:v.s with
  | false =>
   conv=>whnf
   exact ⟨.inl (congrArg tb (by unfold valueB; rw [h1,h2]; rfl)),aut,aut,trivial⟩
  | true =>
   conv=>whnf
   cases h3:decide (v.k ≥ 0) with
   | false =>
    conv=>whnf
    exact ⟨.inl (congrArg tb (by unfold valueB; rw [h1,h2,h3]; rfl)),aut,aut,trivial⟩
   | true =>
    conv=>whnf
    cases h4:decide (v.k<g.slots) with
    | false =>
     conv=>whnf
     exact ⟨.inl (congrArg tb (by unfold valueB; rw [h1,h2,h3,h4]; rfl)),aut,aut,trivial⟩
    | true =>
     conv=>whnf
     exact ⟨.inl (congrArg tb (by unfold valueB; rw [h1,h2,h3,h4]; rfl)),aut,aut,trivial⟩
def thingsI (u:Un) (n:Nd):Int:=bif n.kind == 5 then (u.locks.length:Int) else bif n.kind == 6 then (u.locks.length:Int) else (u.shared.length:Int)
def fieldsR (u:Un) (g:Gr) (n:Nd) (p:Int):Bool:=withinB p 1 n.op 19 && withinB p 2 n.slot g.slots && withinB p 4 n.thing (thingsI u n) && withinB p 32 n.next g.nodes.length && withinB p 64 n.els g.nodes.length && valueB p 8 n.a g.slots && valueB p 16 n.b g.slots
def headR (n:Nd):Bool:=n.kind == 0 || decide (n.kind ≥ 10) || decide (n.origin<0) || decide (n.origin ≥ 4096)
def rightB (u:Un) (g:Gr) (n:Nd):Bool:=bif headR n then false else fieldsR u g n (partsI n.kind n.op)
set_option maxRecDepth 100000 in
set_option maxHeartbeats 2000000 in
theorem k_right (u:Un) (g:Gr) (n:Nd) (hk0:0≤n.kind) (hop:0≤n.op∧n.op≤255):K 69 [u.av,g.av,n.av] [] (.ret (.tr (tb (rightB u g n)))) []:=by
 have hw:=k_within
 have hv:=k_valueR
 refine Ctr.cut [9] hT hmix Tryz.func69 rfl (fun _ _=>by kernel_rfl) rfl fun hok => ?_
 clear hok
 conv=>whnf
 cases h1:(n.kind == 0) with
 | true =>
  conv=>whnf
  exact ⟨.inl (congrArg tb (by unfold rightB headR; rw [h1]; rfl)),trivial⟩
 | false =>
 conv=>whnf
 cases h2:decide (n.kind ≥ 10) with
 | true =>
  conv=>whnf
  exact ⟨.inl (congrArg tb (by unfold rightB headR; rw [h1,h2]; rfl)),trivial⟩
 | false =>
 conv=>whnf
 cases h3:decide (n.origin<0) with
 | true =>
  conv=>whnf
  exact ⟨.inl (congrArg tb (by unfold rightB headR; rw [h1,h2,h3]; rfl)),trivial⟩
 | false =>
 conv=>whnf
 cases h4:decide (n.origin ≥ 4096) with
 | true =>
  conv=>whnf
  exact ⟨.inl (congrArg tb (by unfold rightB headR; rw [h1,h2,h3,h4]; rfl)),trivial⟩
 | false =>
 have hp:=k_parts n (kinds h1 h2 hk0)
 have hR:rightB u g n=fieldsR u g n (partsI n.kind n.op):=by unfold rightB headR; rw [h1,h2,h3,h4]; rfl
 rw [hR]
 generalize partsI n.kind n.op=p at hp hR ⊢
 clear h1 h2 h3 h4 hR
 conv=>whnf
 refine acall.pure _ (hp) rfl rfl fun _ => ?_
 conv=>whnf
 refine CutL.by (fun _:Unit=>⟨[(4,.ptr 0 0),(5,.ptr 1 0),(8,.fn 110 [.ptr 2 0]),(9,.fn 111 [.ptr 2 0,.ptr 0 0]),(10,.tr (ti (thingsI u n)))],[(0,grBl g),(1,.cells 75 (n.cells.map .tr)),(2,partB p)],10⟩) (fun _=>True) ?_ ?_
 ·conv=>whnf
  cases h5:(n.kind == 5) with
  | true =>
   conv=>whnf
   exact ⟨(),[_,_,_],[],Sub.mk' rfl ⟨⟨rfl,rfl⟩,⟨rfl,rfl⟩,⟨rfl,⟨rfl,rfl⟩,trivial⟩,⟨rfl,⟨rfl,rfl⟩,⟨rfl,rfl⟩,trivial⟩,.inl (congrArg ti (by unfold thingsI; rw [h5,List.length_map]; rfl)),trivial⟩ ⟨⟨rfl,.inl rfl,.inl rfl,.inl rfl,.inl rfl,trivial⟩,⟨rfl,.inl rfl,.inl rfl,.inl rfl,.inl rfl,.inl rfl,.inl rfl,.inl rfl,.inl rfl,.inl rfl,.inl rfl,.inl rfl,.inl rfl,.inl rfl,trivial⟩,⟨rfl,.inl rfl,trivial⟩,trivial⟩ rfl rfl,trivial⟩
  | false =>
   conv=>whnf
   cases h6:(n.kind == 6) with
   | true =>
    conv=>whnf
    exact ⟨(),[_,_,_],[],Sub.mk' rfl ⟨⟨rfl,rfl⟩,⟨rfl,rfl⟩,⟨rfl,⟨rfl,rfl⟩,trivial⟩,⟨rfl,⟨rfl,rfl⟩,⟨rfl,rfl⟩,trivial⟩,.inl (congrArg ti (by unfold thingsI; rw [h5,h6,List.length_map]; rfl)),trivial⟩ ⟨⟨rfl,.inl rfl,.inl rfl,.inl rfl,.inl rfl,trivial⟩,⟨rfl,.inl rfl,.inl rfl,.inl rfl,.inl rfl,.inl rfl,.inl rfl,.inl rfl,.inl rfl,.inl rfl,.inl rfl,.inl rfl,.inl rfl,.inl rfl,trivial⟩,⟨rfl,.inl rfl,trivial⟩,trivial⟩ rfl rfl,trivial⟩
   | false =>
    conv=>whnf
    exact ⟨(),[_,_,_],[],Sub.mk' rfl ⟨⟨rfl,rfl⟩,⟨rfl,rfl⟩,⟨rfl,⟨rfl,rfl⟩,trivial⟩,⟨rfl,⟨rfl,rfl⟩,⟨rfl,rfl⟩,trivial⟩,.inl (congrArg ti (by unfold thingsI; rw [h5,h6,List.length_map]; rfl)),trivial⟩ ⟨⟨rfl,.inl rfl,.inl rfl,.inl rfl,.inl rfl,trivial⟩,⟨rfl,.inl rfl,.inl rfl,.inl rfl,.inl rfl,.inl rfl,.inl rfl,.inl rfl,.inl rfl,.inl rfl,.inl rfl,.inl rfl,.inl rfl,.inl rfl,trivial⟩,⟨rfl,.inl rfl,trivial⟩,trivial⟩ rfl rfl,trivial⟩
 rintro - - -
 conv=>whnf
 have hwo:IntKind.i64.wrap n.op=n.op:=w64 (by omega) (by omega)
 have hnl:(((g.nodes.map Nd.cells).length:Nat):Int)=(g.nodes.length:Int):=by rw [List.length_map]
 have hF:fieldsR u g n p=(withinB p 1 (IntKind.i64.wrap n.op) 19 && withinB p 2 n.slot g.slots && withinB p 4 n.thing (thingsI u n) && withinB p 32 n.next (((g.nodes.map Nd.cells).length:Nat):Int) && withinB p 64 n.els (((g.nodes.map Nd.cells).length:Nat):Int) && valueB p 8 n.a g.slots && valueB p 16 n.b g.slots):=by unfold fieldsR; rw [hwo,hnl]
 rw [hF]
 clear hF hwo hnl
 refine acall.au [2] [] (hw p 1 (IntKind.i64.wrap n.op) 19) ?_
 intro _
 conv=>whnf
 cases c0:withinB p 1 (IntKind.i64.wrap n.op) 19 with
 | false =>
  conv=>whnf
  exact aut
 | true =>
 conv=>whnf
 refine acall.au [2] [] (hw p 2 n.slot g.slots) ?_
 intro _
 conv=>whnf
 cases c1:withinB p 2 n.slot g.slots with
 | false =>
  conv=>whnf
  exact aut
 | true =>
 conv=>whnf
 refine acall.au [2] [] (hw p 4 n.thing (thingsI u n)) ?_
 intro _
 conv=>whnf
 cases c2:withinB p 4 n.thing (thingsI u n) with
 | false =>
  conv=>whnf
  exact aut
 | true =>
 conv=>whnf
 refine acall.au [2] [] (hw p 32 n.next (((g.nodes.map Nd.cells).length:Nat):Int)) ?_
 intro _
 conv=>whnf
 cases c3:withinB p 32 n.next (((g.nodes.map Nd.cells).length:Nat):Int) with
 | false =>
  conv=>whnf
  exact aut
 | true =>
 conv=>whnf
 refine acall.au [2] [] (hw p 64 n.els (((g.nodes.map Nd.cells).length:Nat):Int)) ?_
 intro _
 conv=>whnf
 cases c4:withinB p 64 n.els (((g.nodes.map Nd.cells).length:Nat):Int) with
 | false =>
  conv=>whnf
  exact aut
 | true =>
 conv=>whnf
 refine acall.au [2,0] [] (hv p 8 n.a g) ?_
 intro _
 conv=>whnf
 cases c5:valueB p 8 n.a g.slots with
 | false =>
  conv=>whnf
  exact aut
 | true =>
 conv=>whnf
 refine acall.au [2,0] [] (hv p 16 n.b g) ?_
 intro _
 conv=>whnf
 cases c6:valueB p 16 n.b g.slots with
 | false =>
  conv=>whnf
  exact aut
 | true =>
 conv=>whnf
 exact aut
end Go.Proofs.YthboippafkcoiaaGreatDoor.am
namespace Go.Proofs.YthboippafkcoiaaGreatDoor.am
open Go Go.Proofs
theorem nil_region {X:Gh→World→Prop} {k N id nx d0 d1 d2 t e a1 a2 n B:Nat} {a3:List Z} {a4:Bool} {pos1 pos2:String} {af1 af2:Array Edge} {ty1 ty2 ty3:Nat} {Q:QL} {tl:List (Nat × AV)} {bl:List (Nat × Option Blk)} {ops:Array Oper} {rows:List (List Tr)}
  (hops:ops=[⟨some d1,.move (.tmp d0),ty1,pos1,af1,none⟩,⟨some d2,.binOp .eql t (.tmp d1) (.const (.slice none 0 0)) ty3,ty2,pos2,af2,none⟩].toArray)
  (ht:lk T t=some ⟨.slice e,a1,a2,a3,a4⟩) (h0:lk tl d0=some (.tr (.lst n B rows))) (hd1:Nat.blt d1 N=true) (hd2:Nat.blt d2 N=true) (hb:nx+2≤HMod)
  (h : ∀ b:Bool,(rows≠[]→b=false)→aopsL Tryz.prog T N ops nx Q [] 2 (putLs (putLs tl (some d1) (.tr (.lst n B rows))) (some d2) (.tr (tb b))) bl) :
  Wp X Tryz.prog k N (.region id ops false) (Ql Q) (LS.mk tl bl nx).st:=by
 intro g0 g w0 w act hk hs
 refine wp_region_list ?_
 have hN:=hs.size
 replace hd1:d1<N:=Nat.le_of_ble_eq_true hd1
 replace hd2:d2<N:=Nat.le_of_ble_eq_true hd2
 obtain ⟨_,hR⟩:=hs.fr d0 _ h0
 obtain ⟨ao,cap,f,hv,q1,q2,q3,q4,q5,q6⟩:=lst_inv hR.tr_inv
 obtain ⟨ti,u,zt,_,u2,u3,_⟩:=hT.info ht
 obtain rfl:=D_slice u3
 have hb':=h ao.isNone (fun hne=>by
  cases rows with
  | nil=>exact absurd rfl hne
  | cons r rs =>
   obtain ⟨_,b,o,e1,_⟩:=q5 0 r rfl
   rw [e1]; rfl)
 have hto:ops.toList=[⟨some d1,.move (.tmp d0),ty1,pos1,af1,none⟩,⟨some d2,.binOp .eql t (.tmp d1) (.const (.slice none 0 0)) ty3,ty2,pos2,af2,none⟩]:=by rw [hops]
 rw [hto]
 have hev0:act.eval (.tmp d0) = .slice ao rows.length cap:=hv
 unfold wpList
 rw [if_pos (by simp [Region.wanted])]
 refine .inl ?_
 unfold Oper.wp
 rw [show (execOp act.eval ⟨some d1,.move (.tmp d0),ty1,pos1,af1,none⟩).run Tryz.prog w = .ok (.value (.slice ao rows.length cap)) w by simp [execOp,hev0]]
 show wpList Tryz.prog ops _ _ (act.put (some d1) (.slice ao rows.length cap)) _
 unfold wpList
 rw [if_pos (by simp [Region.wanted])]
 refine .inl ?_
 unfold Oper.wp
 have he:(act.put (some d1) (.slice ao rows.length cap)).eval (.tmp d1) = .slice ao rows.length cap:=by
  show (act.tmps.setIfInBounds d1 _).getD d1 undef=_
  rw [getD_set (by omega),if_pos rfl]
 have heq:(Op.equal t (.slice ao rows.length cap) (.slice none 0 0)).run Tryz.prog w = .ok ao.isNone w:=by
  show (Op.equalIn (9999+1) t (.slice ao rows.length cap) (.slice none 0 0)).run Tryz.prog w = .ok ao.isNone w
  generalize 9999=m
  cases ao <;> simp [Op.equalIn,run_underlying u2]
 have hc:(act.put (some d1) (.slice ao rows.length cap)).eval (.const (.slice none 0 0)) = .slice none 0 0:=rfl
 rw [show (execOp (act.put (some d1) (.slice ao rows.length cap)).eval ⟨some d2,.binOp .eql t (.tmp d1) (.const (.slice none 0 0)) ty3,ty2,pos2,af2,none⟩).run Tryz.prog w = .ok (.value (.bool ao.isNone)) w by simp [execOp,he,hc,eqGuard,binOp,heq]]
 change wpList Tryz.prog ops (Post g0 w0 N (Ql Q)) [] ((act.put (some d1) (.slice ao rows.length cap)).put (some d2) (.bool ao.isNone)) w
 have hR':Rep g w (.slice ao rows.length cap) (.tr (.lst n B rows)):=by rw [← hv]; exact hR
 obtain ⟨p1,p2⟩:=put_ok (dst:=some d1) hN hs.fr (Grow.refl _ _) (by unfold dstOk; exact Nat.ble_eq_true_of_le hd1) hR'
 obtain ⟨r1,r2⟩:=put_ok (dst:=some d2) p1 p2 (Grow.refl _ _) (by unfold dstOk; exact Nat.ble_eq_true_of_le hd2) (show Rep g w (.bool ao.isNone) (.tr (tb ao.isNone)) from .tr (.v trivial))
 refine aopsL_sound hT nx Q [] 2 _ bl g _ _ (by show nx+(2+0)≤HMod; omega) hb' ⟨r1,(put_defers ..).trans ((put_defers ..).trans hs.defers),?_,hs.mem,fun h hh=>hs.un h (by show nx≤h % HMod; omega),hs.grow⟩
 rw [putLs_lk,putLs_lk]
 exact r2
abbrev ivB (l:List Int):Blk := .vec 3 1 8 (l.map irow)
set_option maxRecDepth 100000 in
theorem k_cloneO (l:List Int) (hl:l.length*8≤150000000000000):K 112 [.tr (intsT l)] [] (.ret (.sl 0 l.length)) [some (ivB l)]:=by
 refine Ctr.new [2000001,0] hT hmix Tryz.func112 rfl (fun _ _=>by kernel_rfl) rfl fun hok => ?_
 clear hok
 conv=>whnf
 refine nil_region rfl rfl rfl rfl rfl (by decide) fun b hb => ?_
 cases b
 ·conv=>whnf
  refine CutL.by (fun _:Unit=>⟨[(2,.sl 0 l.length)],[(0,ivB l)],10⟩) (fun _=>True) ?_ ?_
  ·conv=>whnf
   refine ⟨rfl,rfl,rfl,Nat.le_refl _,(by show (0+(l.map irow).length)*8≤150000000000000; rw [List.length_map]; omega),(fun q hq=>by cases hq),?_⟩
   conv=>whnf
   exact ⟨(),[_],[],Sub.mk' rfl ⟨⟨rfl,by simp⟩,trivial⟩ ⟨⟨rfl,rfl,rfl,rfl⟩,trivial⟩ rfl rfl,trivial⟩
  ·rintro - - -
   conv=>whnf
   exact ⟨[0],rfl,rfl,⟨rfl,rfl⟩,aut,trivial⟩
 ·obtain rfl:l=[]:=by
   cases l with
   | nil=>rfl
   | cons x l=>exact absurd (hb (by simp)) (by simp)
  conv=>whnf
  refine CutL.by (fun _:Unit=>⟨[(2,.sl 0 0)],[(0,ivB [])],10⟩) (fun _=>True) ?_ ?_
  ·conv=>whnf
   exact ⟨(),[],[0],Sub.mk' rfl aut ⟨⟨rfl,_,_,_,rfl,by decide⟩,trivial⟩ rfl rfl,trivial⟩
  ·rintro - - -
   conv=>whnf
   exact ⟨[0],rfl,rfl,⟨rfl,rfl⟩,aut,trivial⟩
theorem k_cloneT (l:List Int) (hl:l.length*8≤150000000000000):K 112 [.tr (intsT l)] [] (.ret (.tr (intsT l))) []:=by
 refine Ctr.cut [2000001,0] hT hmix Tryz.func112 rfl (fun _ _=>by kernel_rfl) rfl fun hok => ?_
 clear hok
 conv=>whnf
 refine nil_region rfl rfl rfl rfl rfl (by decide) fun b hb => ?_
 cases b
 ·conv=>whnf
  refine CutL.by (fun _:Unit=>⟨[(2,.tr (intsT l))],[],10⟩) (fun _=>True) ?_ ?_
  ·conv=>whnf
   refine ⟨rfl,rfl,rfl,Nat.le_refl _,(by show (0+(l.map irow).length)*8≤150000000000000; rw [List.length_map]; omega),(fun q hq=>by cases hq),?_⟩
   conv=>whnf
   exact ⟨(),[],[],Sub.mk' rfl ⟨⟨rfl,(by show 0+(l.map irow).length≤(l.map irow).length; omega),(by show intsT l=Tr.lst 1 8 ((l.map irow).take (0+(l.map irow).length)); rw [Nat.zero_add,List.take_length])⟩,trivial⟩ trivial rfl rfl,trivial⟩
  ·rintro - - -
   conv=>whnf
   exact aut
 ·obtain rfl:l=[]:=by
   cases l with
   | nil=>rfl
   | cons x l=>exact absurd (hb (by simp)) (by simp)
  conv=>whnf
  refine CutL.by (fun _:Unit=>⟨[(2,.tr (intsT []))],[],10⟩) (fun _=>True) ?_ ?_
  ·conv=>whnf
   exact ⟨(),[],[],Sub.mk' rfl ⟨.inr ⟨rfl,_,_,rfl⟩,trivial⟩ trivial rfl rfl,trivial⟩
  ·rintro - - -
   conv=>whnf
   exact aut
def eqI:List Int→List Int→Bool
 | [],[]=>true
 | a::l,a'::l'=>bif a != a' then false else eqI l l'
 | _,_=>false
def eqI2 (l l':List Int):Bool:=bif (l.length:Int) != (l'.length:Int) then false else eqI l l'
set_option maxRecDepth 100000 in
theorem k_equal (l l':List Int):K 113 [.tr (intsT l),.tr (intsT l')] [] (.ret (.tr (tb (eqI2 l l')))) []:=by
 have h1:(l.map irow).length=l.length:=List.length_map ..
 have h2:(l'.map irow).length=l'.length:=List.length_map ..
 refine Ctr.of hT hmix Tryz.func113 rfl (fun _ _=>by kernel_rfl) rfl fun hok => ?_
 obtain ⟨_,hl1,_⟩:=(hok.slot 0 rfl).tr.lst
 rw [List.length_map] at hl1
 clear hok
 conv=>whnf
 cases hc:(((l.map irow).length:Int) != ((l'.map irow).length:Int)) with
 | true =>
  conv=>whnf
  exact ⟨.inl (congrArg tb (by rw [h1,h2] at hc; unfold eqI2; rw [hc]; rfl)),trivial⟩
 | false =>
 have hE:eqI2 l l'=eqI l l':=by rw [h1,h2] at hc; unfold eqI2; rw [hc]; rfl
 have hll:l.length=l'.length:=by
  rw [h1,h2] at hc
  refine Classical.byContradiction fun w => ?_
  rw [bne_iff_ne.2 (fun e=>w (by omega))] at hc
  cases hc
 rw [hE]
 generalize hR:eqI l l'=R
 clear hE hc
 conv=>whnf
 refine LoopL.by (fun i:Nat=>⟨[(0,.tr (intsT l)),(1,.tr (intsT l')),(12,.tr (ti l.length)),(13,.tr (ti i))],[],10⟩) (fun i=>i≤l.length∧R=eqI (l.drop i) (l'.drop i)) (fun i=>l.length - i) 0 [] []
  (Sub.mk' rfl ⟨.inl rfl,.inl rfl,.inl (by rw [← h1]),.inl rfl,trivial⟩ trivial rfl rfl) ⟨Nat.zero_le _,hR.symm⟩ ?_
 clear hR
 rintro i ⟨hi,hR⟩ -
 conv=>whnf
 refine csplit (fun hit => ?_) (fun hit => ?_)
 ·have hit:i<l.length:=by have:decide ((i:Int)<(l.length:Int))=true:=hit; have:=of_decide_eq_true this; omega
  obtain ⟨a,ha⟩ : ∃ a,l[i]? = some a:=⟨_,List.getElem?_eq_getElem hit⟩
  obtain ⟨b,hb⟩ : ∃ b,l'[i]? = some b:=⟨_,List.getElem?_eq_getElem (by omega)⟩
  rw [drop_cons ha,drop_cons hb] at hR
  conv=>whnf
  refine ⟨rfl,(show (0:Int)≤i by omega),(show (i:Int)<((l.map irow).length:Int) by omega),fun row hrow => ?_⟩
  obtain ⟨d,hd,rfl⟩:=int_get hrow
  obtain rfl:=Option.some.inj (ha.symm.trans hd)
  clear hrow hd
  conv=>whnf
  refine ⟨rfl,(show (0:Int)≤i by omega),(show (i:Int)<((l'.map irow).length:Int) by omega),fun row hrow => ?_⟩
  obtain ⟨d,hd,rfl⟩:=int_get hrow
  obtain rfl:=Option.some.inj (hb.symm.trans hd)
  clear hrow hd
  conv=>whnf
  refine ⟨by kernel_rfl,fun _ => ?_⟩
  conv=>whnf
  cases hab:(a != b) with
  | true =>
   conv=>whnf
   exact ⟨.inl (by rw [hR]; show tb false=tb (bif a != b then false else _); rw [hab]; rfl),trivial⟩
  | false =>
   replace hR:R=eqI (l.drop (i+1)) (l'.drop (i+1)):=by rw [hR]; show (bif a != b then false else _)=_; rw [hab]; rfl
   conv=>whnf
   exact ⟨i+1,[],[],Sub.mk' rfl ⟨.inl rfl,.inl rfl,.inl rfl,.inl (ti_succ hit (by omega)),trivial⟩ trivial rfl rfl,⟨hit,hR⟩,by show l.length - (i+1)<l.length - i; omega⟩
 have hit:l.length≤i:=by have:decide ((i:Int)<(l.length:Int))=false:=hit; have:=of_decide_eq_false this; omega
 rw [List.drop_of_length_le hit,List.drop_of_length_le (by omega)] at hR
 conv=>whnf
 refine ⟨fun _ => ?_,fun h=>absurd rfl h⟩
 conv=>whnf
 exact ⟨.inl (by rw [hR]; rfl),trivial⟩
end Go.Proofs.YthboippafkcoiaaGreatDoor.am
namespace Go.Proofs.YthboippafkcoiaaGreatDoor.am
open Go Go.Proofs
set_option linter.all false
abbrev HSt:=List (Option (List Int)) × List Nat
def hrow:Option (List Int)→List Tr
 | none=>[nilT]
 | some l=>[intsT l]
abbrev hB (lk:List (Option (List Int))):Blk := .vec 62 1 24 (lk.map hrow)
abbrev heT (lk:List (Option (List Int))):Tr := .lst 1 24 (lk.map hrow)
theorem hrow_get {l:List (Option (List Int))} {i:Nat} {row:List Tr} (h:(l.map hrow)[i]? = some row) : ∃ d,l[i]? = some d∧row=hrow d:=by
 rw [List.getElem?_map,Option.map_eq_some_iff] at h
 obtain ⟨d,h1,rfl⟩:=h
 exact ⟨d,h1,rfl⟩
def nowN (n:Nd) (l:List Int):Option (List Int) :=
 bif n.kind == 5 then some (l++[n.thing])
 else bif n.kind == 6 then (bif (l.length:Int) == 0 then none else bif l.getD (l.length - 1) 0 != n.thing then none else some (l.take (l.length - 1)))
 else bif n.kind == 9 then (bif decide ((l.length:Int) > 0) then none else some l)
 else some l
def lkAt (lk:List (Option (List Int))) (a:Nat):List Int:=(lk.getD a none).getD []
def inH (now:List Int):List Nat→HSt→HSt × Option Nat
 | [],s=>(s,none)
 | y::r,s=>bif s.2.contains y then (bif eqI2 (lkAt s.1 y) now then inH now r s else (s,some y)) else inH now r (s.1.set y (some now),s.2++[y])
def contH (F:HSt→Nat→List (Option (List Int)) × Int) (k:Nat):HSt × Option Nat→List (Option (List Int)) × Int
 | (_,some y)=>([],(y:Int))
 | (s,none)=>F s k
def outH (g:Gr):Nat→HSt→Nat→List (Option (List Int)) × Int
 | 0,_,_=>([],0)
 | f+1,s,k=>match s.2[k]? with
  | none=>(s.1,-1)
  | some a=>match g.nodes[a]? with
   | none=>([],0)
   | some n=>match nowN n (lkAt s.1 a) with
    | none=>([],(a:Int))
    | some now=>contH (outH g f) (k+1) (inH now (fol g a) s)
def heldR (g:Gr):List (Option (List Int)) × Int:=outH g (g.nodes.length+1) (List.replicate g.nodes.length none,[0]) 0
theorem nowN_len {n:Nd} {l now:List Int} (h:nowN n l=some now):now.length≤l.length+1:=by
 unfold nowN at h
 cases h5:(n.kind == 5) with
 | true=>rw [h5,cond_true] at h; cases h; rw [List.length_append]; exact Nat.le_refl _
 | false =>
 rw [h5,cond_false] at h
 cases h6:(n.kind == 6) with
 | true =>
  rw [h6,cond_true] at h
  cases h1:((l.length:Int) == 0) with
  | true=>rw [h1] at h; cases h
  | false =>
   rw [h1,cond_false] at h
   cases h2:(l.getD (l.length - 1) 0 != n.thing) with
   | true=>rw [h2] at h; cases h
   | false=>rw [h2] at h; cases h; rw [List.length_take]; omega
 | false =>
 rw [h6,cond_false] at h
 cases h9:(n.kind == 9) with
 | true =>
  rw [h9,cond_true] at h
  cases h1:decide ((l.length:Int) > 0) with
  | true=>rw [h1] at h; cases h
  | false=>rw [h1] at h; cases h; omega
 | false=>rw [h9] at h; cases h; omega
structure HInv (N k:Nat) (lk:List (Option (List Int))) (todo:List Nat):Prop where
 len:lk.length=N
 nd:todo.Nodup
 lt : ∀ x ∈ todo,x<N
 most : ∀ (a:Nat) l,lk[a]? = some (some l)→l.length≤k
theorem HInv.todo_len {N k:Nat} {lk:List (Option (List Int))} {todo:List Nat} (h:HInv N k lk todo):todo.length≤N:=nodup_len N todo h.nd h.lt
theorem HInv.at {N k:Nat} {lk:List (Option (List Int))} {todo:List Nat} (h:HInv N k lk todo) (a:Nat):(lkAt lk a).length≤k:=by
 unfold lkAt
 rw [List.getD_eq_getElem?_getD]
 cases e:lk[a]? with
 | none=>exact Nat.zero_le _
 | some o =>
  cases o with
  | none=>exact Nat.zero_le _
  | some l=>exact h.most a l e
theorem HInv.mono {N k k':Nat} {lk:List (Option (List Int))} {todo:List Nat} (h:HInv N k lk todo) (hk:k≤k'):HInv N k' lk todo:=⟨h.len,h.nd,h.lt,fun a l e=>Nat.le_trans (h.most a l e) hk⟩
theorem HInv.put {N k:Nat} {lk:List (Option (List Int))} {todo:List Nat} (h:HInv N k lk todo) {y:Nat} {now:List Int} (hy:y<N) (hn:y ∉ todo) (hl:now.length≤k):HInv N k (lk.set y (some now)) (todo++[y]) where
 len:=by rw [List.length_set]; exact h.len
 nd:=List.nodup_append.2 ⟨h.nd,by simp,fun a ha b hb=>by rw [List.mem_singleton.1 hb]; exact fun e=>hn (e ▸ ha)⟩
 lt:=fun x hx=>(List.mem_append.1 hx).elim (h.lt x) fun w=>by rw [List.mem_singleton.1 w]; exact hy
 most:=fun a l e=>by
  by_cases ha:a=y
  ·subst ha
   rw [List.getElem?_set_self (by rw [h.len]; exact hy)] at e
   cases e; exact hl
  ·rw [List.getElem?_set_ne (fun w=>ha w.symm)] at e
   exact h.most a l e
set_option maxRecDepth 100000 in
set_option maxHeartbeats 4000000 in
theorem k_heldR (g:Gr) (hW:Whole g):K 70 [g.av] [] (.ret (.tup [.tr (heT (heldR g).1),.tr (ti (heldR g).2)])) []:=by
 have hR:heldR g=outH g (g.nodes.length+1) (List.replicate g.nodes.length none,[0]) 0:=rfl
 generalize heldR g=R at hR ⊢
 have hpos:=hW.pos
 have hmo:=hW.most
 have hlt:=hW.lt
 have hfI:=hW.fol
 have hfl:=hW.len
 have hkind:=hW.kind
 clear hW
 have hO : ∀ f s k,outH g (f+1) s k=match s.2[k]? with
  | none=>(s.1,-1)
  | some a=>match g.nodes[a]? with
   | none=>([],0)
   | some n=>match nowN n (lkAt s.1 a) with
    | none=>([],(a:Int))
    | some now=>contH (outH g f) (k+1) (inH now (fol g a) s):=fun f s k=>rfl
 generalize outH g=OH at hR hO
 have hln:(g.nodes.map Nd.cells).length=g.nodes.length:=List.length_map ..
 obtain ⟨N,hNe⟩ : ∃ N,g.nodes.length=N:=⟨_,rfl⟩
 rw [hNe] at hR hpos hmo hlt hln
 refine Ctr.cut [10,20] hT hmix Tryz.func70 rfl (fun _ _=>by kernel_rfl) rfl fun hok => ?_
 clear hok
 conv=>whnf
 refine ⟨(by rw [hln]; omega),Int.le_refl _,(by rw [hln]; show (N:Int)*24≤_; omega),?_⟩
 conv=>whnf
 rw [hln,Int.toNat_natCast]
 refine LoopL.by (fun x:HSt × Nat=>⟨[(1,.ptr 0 0),(4,.sl 1 N),(5,.mp 2),(6,.sl 3 x.1.2.length),(7,.tr (ti (x.2:Nat)))],[(0,grBl g),(1,hB x.1.1),(2,inB x.1.2),(3,natsB x.1.2)],10⟩) (fun x=>HInv N x.2 x.1.1 x.1.2∧x.2≤x.1.2.length∧R=OH (N+1 - x.2) x.1 x.2) (fun x=>N+1 - x.2) ((List.replicate N none,[0]),0) [0,_,_,_] []
  (Sub.mk' rfl ⟨⟨rfl,rfl⟩,⟨rfl,rfl⟩,rfl,⟨rfl,rfl⟩,.inl rfl,trivial⟩ ⟨⟨rfl,.inl rfl,.inl rfl,.inl rfl,.inl rfl,trivial⟩,⟨rfl,rfl,rfl,by rw [List.map_replicate]; rfl⟩,⟨rfl,rfl⟩,⟨rfl,rfl,rfl,rfl⟩,trivial⟩ rfl rfl) ⟨⟨List.length_replicate ..,by simp,fun x hx=>by rw [List.mem_singleton.1 hx]; exact hpos,fun a l e=>by
   have e:(List.replicate N none)[a]? = some (some l):=e
   rw [List.getElem?_replicate] at e
   split at e <;> cases e⟩,Nat.zero_le _,hR⟩ ?_
 clear hR
 rintro ⟨⟨lk,todo⟩,k⟩ ⟨hI,hk,hR⟩ -
 simp only at hI hk hR
 have htl:=hI.todo_len
 have hlkl:=hI.len
 have hO1:=hO (N - k) (lk,todo) k
 rw [show N - k+1=N+1 - k by omega,← hR] at hO1
 clear hR
 conv=>whnf
 refine csplit (fun hkt => ?_) (fun hkt => ?_)
 ·have hkt:k<todo.length:=by have:decide ((k:Int)<(todo.length:Int))=true:=hkt; have:=of_decide_eq_true this; omega
  obtain ⟨a,ha⟩ : ∃ a,todo[k]? = some a:=⟨_,List.getElem?_eq_getElem hkt⟩
  have haN:=hI.lt a (List.mem_of_getElem? ha)
  obtain ⟨n,hn⟩ : ∃ n,g.nodes[a]? = some n:=⟨_,List.getElem?_eq_getElem (by omega)⟩
  obtain ⟨o,ho⟩ : ∃ o,lk[a]? = some o:=⟨_,List.getElem?_eq_getElem (by omega)⟩
  have hlk:lkAt lk a=o.getD []:=by unfold lkAt; rw [List.getD_eq_getElem?_getD,ho]; rfl
  have hO2:R=match nowN n (lkAt lk a) with
    | none=>([],(a:Int))
    | some now=>contH (OH (N - k)) (k+1) (inH now (fol g a) (lk,todo)):=by
   rw [hO1]
   show (match todo[k]? with | none=>_ | some a=>_)=_
   rw [ha]
   show (match g.nodes[a]? with | none=>_ | some n=>_)=_
   rw [hn]
  clear hO1
  have hl0:=hI.at a
  have hf:=k_follows n
  rw [hfI a n hn] at hf
  have hflt:=hlt a
  have hfl:=hfl a
  conv=>whnf
  refine ⟨rfl,(show (0:Int)≤k by omega),(show (k:Int)<(todo.length:Int) by omega),?_⟩
  conv=>whnf
  refine ⟨rfl,(by show k<(todo.map nrow).length; rw [List.length_map]; omega),fun row hrow => ?_⟩
  obtain ⟨d,hd,rfl⟩:=nrow_get hrow
  obtain rfl:=Option.some.inj (ha.symm.trans hd)
  clear hrow hd
  refine ⟨(show 0<1 by decide),fun t ht => ?_⟩
  cases ht
  conv=>whnf
  refine ⟨rfl,(show (0:Int)≤a by omega),(show (a:Int)<((g.nodes.map Nd.cells).length:Int) by omega),fun row hrow => ?_⟩
  obtain ⟨d,hd,rfl⟩:=nd_get hrow
  obtain rfl:=Option.some.inj (hn.symm.trans hd)
  clear hrow hd
  conv=>whnf
  refine CutL.by (fun _:Unit=>⟨[(1,.ptr 0 0),(4,.sl 1 N),(5,.mp 2),(6,.sl 3 todo.length),(7,.tr (ti (k:Nat))),(8,.tr (ti (a:Nat))),(9,.ptr 4 0),(10,.tr (intsT (lkAt lk a)))],[(0,grBl g),(1,hB lk),(2,inB todo),(3,natsB todo),(4,.cells 75 (n.cells.map .tr))],10⟩) (fun _=>True) ?_ ?_
  ·conv=>whnf
   refine ⟨rfl,(show (0:Int)≤a by omega),(show (a:Int)<(N:Int) by omega),?_⟩
   conv=>whnf
   refine ⟨rfl,(by show a<(lk.map hrow).length; rw [List.length_map]; omega),fun row hrow => ?_⟩
   obtain ⟨d,hd,rfl⟩:=hrow_get hrow
   obtain rfl:=Option.some.inj (ho.symm.trans hd)
   clear hrow hd
   cases o with
   | none =>
    refine ⟨(show 0<1 by decide),fun t ht => ?_⟩
    cases ht
    conv=>whnf
    exact ⟨(),[0,1,2,3,_],[],Sub.mk' rfl ⟨⟨rfl,rfl⟩,⟨rfl,rfl⟩,rfl,⟨rfl,rfl⟩,.inl rfl,.inl rfl,⟨rfl,rfl⟩,.inr ⟨rfl,1,8,by rw [hlk]; rfl⟩,trivial⟩ ⟨⟨rfl,.inl rfl,.inl rfl,.inl rfl,.inl rfl,trivial⟩,⟨rfl,rfl,rfl,rfl⟩,⟨rfl,rfl⟩,⟨rfl,rfl,rfl,rfl⟩,⟨rfl,.inl rfl,.inl rfl,.inl rfl,.inl rfl,.inl rfl,.inl rfl,.inl rfl,.inl rfl,.inl rfl,.inl rfl,.inl rfl,.inl rfl,.inl rfl,trivial⟩,trivial⟩ rfl rfl,trivial⟩
   | some l =>
    refine ⟨(show 0<1 by decide),fun t ht => ?_⟩
    cases ht
    conv=>whnf
    exact ⟨(),[0,1,2,3,_],[],Sub.mk' rfl ⟨⟨rfl,rfl⟩,⟨rfl,rfl⟩,rfl,⟨rfl,rfl⟩,.inl rfl,.inl rfl,⟨rfl,rfl⟩,.inl (by rw [hlk]; rfl),trivial⟩ ⟨⟨rfl,.inl rfl,.inl rfl,.inl rfl,.inl rfl,trivial⟩,⟨rfl,rfl,rfl,rfl⟩,⟨rfl,rfl⟩,⟨rfl,rfl,rfl,rfl⟩,⟨rfl,.inl rfl,.inl rfl,.inl rfl,.inl rfl,.inl rfl,.inl rfl,.inl rfl,.inl rfl,.inl rfl,.inl rfl,.inl rfl,.inl rfl,.inl rfl,trivial⟩,trivial⟩ rfl rfl,trivial⟩
  rintro - - -
  clear hlk ho
  generalize lkAt lk a=l0 at hO2 hl0
  have hll0:(l0.map irow).length=l0.length:=List.length_map ..
  have hcl:=k_cloneO l0 (by omega)
  have hlw : ∀ m:Nat,m=l0.length→0<m→IntKind.i64.wrap ((m:Int) - 1)=((m - 1:Nat):Int):=fun m e h=>by rw [w64 (by omega) (by omega)]; omega
  conv=>whnf
  refine CutL.by (fun now:List Int=>⟨[(1,.ptr 0 0),(4,.sl 1 N),(5,.mp 2),(6,.sl 3 todo.length),(7,.tr (ti (k:Nat))),(8,.tr (ti (a:Nat))),(9,.ptr 4 0),(10,.tr (intsT now))],[(0,grBl g),(1,hB lk),(2,inB todo),(3,natsB todo),(4,.cells 75 (n.cells.map .tr))],10⟩) (fun now=>nowN n l0=some now) ?_ ?_
  ·conv=>whnf
   cases h5:(n.kind == 5) with
   | true =>
    conv=>whnf
    refine acall.new [] [] _ _ _ _ (hcl) rfl rfl rfl rfl aut aut rfl rfl ?_
    conv=>whnf
    refine ⟨rfl,rfl,rfl,Nat.le_of_eq hll0.symm,(show (l0.length+1)*8≤150000000000000 by omega),fun q hq => ?_,?_⟩
    ·cases hq with
     | head=>exact Nat.ne_of_beq_eq_false rfl
     | tail _ h=>cases h
    conv=>whnf
    refine ⟨by kernel_rfl,fun _ => ?_⟩
    conv=>whnf
    have htk:(l0.map irow).take l0.length++[[ti n.thing]]=(l0++[n.thing]).map irow:=by rw [List.take_of_length_le (Nat.le_of_eq hll0),List.map_append]; rfl
    have hle:l0.length+1≤((l0.map irow).take l0.length++[[ti n.thing]]).length:=by rw [htk,List.length_map,List.length_append]; exact Nat.le_refl _
    have heq:intsT (l0++[n.thing])=Tr.lst 1 8 (((l0.map irow).take l0.length++[[ti n.thing]]).take (l0.length+1)):=by rw [htk,List.take_of_length_le (by rw [List.length_map,List.length_append]; exact Nat.le_refl _)]
    exact ⟨l0++[n.thing],[0,1,2,3,4],[],Sub.mk' rfl ⟨⟨rfl,rfl⟩,⟨rfl,rfl⟩,rfl,⟨rfl,rfl⟩,.inl rfl,.inl rfl,⟨rfl,rfl⟩,⟨rfl,hle,heq⟩,trivial⟩ aut rfl rfl,by unfold nowN; rw [h5]; rfl⟩
   | false =>
   conv=>whnf
   cases h6:(n.kind == 6) with
   | true =>
    conv=>whnf
    cases h7:(((l0.map irow).length:Int) == 0) with
    | true =>
     conv=>whnf
     refine ⟨by kernel_rfl,fun _ => ?_⟩
     conv=>whnf
     rw [hll0] at h7
     have hRf:R=([],(a:Int)):=by rw [hO2]; unfold nowN; rw [h5,h6,h7]; rfl
     exact ⟨⟨.inr ⟨rfl,1,24,by rw [hRf]; rfl⟩,.inl (by rw [hRf]),trivial⟩,trivial⟩
    | false =>
    have h0:0<l0.length:=by
     have:=beq_eq_false_iff_ne.1 h7
     omega
    rw [hll0] at h7
    have hw1:=hlw _ hll0 (by omega)
    conv=>whnf
    rw [hw1]
    refine ⟨rfl,(show (0:Int)≤(((l0.map irow).length - 1:Nat):Int) by omega),(show (((l0.map irow).length - 1:Nat):Int)<((l0.map irow).length:Int) by omega),fun row hrow => ?_⟩
    obtain ⟨d,hd,rfl⟩:=int_get hrow
    replace hd:l0[l0.length - 1]? = some d:=by rw [← hll0]; exact hd
    have hgd:l0.getD (l0.length - 1) 0=d:=by rw [List.getD_eq_getElem?_getD,hd]; rfl
    clear hrow hd
    conv=>whnf
    refine ⟨by kernel_rfl,fun _ => ?_⟩
    conv=>whnf
    cases hne:(d != n.thing) with
    | true =>
     conv=>whnf
     have hRf:R=([],(a:Int)):=by rw [hO2]; unfold nowN; rw [h5,h6,h7,hgd,hne]; rfl
     exact ⟨⟨.inr ⟨rfl,1,24,by rw [hRf]; rfl⟩,.inl (by rw [hRf]),trivial⟩,trivial⟩
    | false =>
     conv=>whnf
     rw [hw1]
     refine ⟨rfl,Int.le_refl _,(show (0:Int)≤(((l0.map irow).length - 1:Nat):Int) by omega),(show (((l0.map irow).length - 1:Nat):Int)≤((l0.map irow).length:Int) by omega),?_⟩
     conv=>whnf
     exact ⟨l0.take (l0.length - 1),[0,1,2,3,4],[],Sub.mk' rfl ⟨⟨rfl,rfl⟩,⟨rfl,rfl⟩,rfl,⟨rfl,rfl⟩,.inl rfl,.inl rfl,⟨rfl,rfl⟩,.inl (by show (Tr.lst 1 8 (((l0.map irow).take ((l0.map irow).length - 1)).drop 0))=(Tr.lst 1 8 ((l0.take (l0.length - 1)).map irow)); rw [List.drop_zero,hll0,List.map_take]),trivial⟩ aut rfl rfl,by unfold nowN; rw [h5,h6,h7,hgd,hne]; rfl⟩
   | false =>
   conv=>whnf
   cases h9:(n.kind == 9) with
   | true =>
    conv=>whnf
    cases h7:decide (((l0.map irow).length:Int) > 0) with
    | true =>
     conv=>whnf
     rw [hll0] at h7
     have hRf:R=([],(a:Int)):=by rw [hO2]; unfold nowN; rw [h5,h6,h9,h7]; rfl
     exact ⟨⟨.inr ⟨rfl,1,24,by rw [hRf]; rfl⟩,.inl (by rw [hRf]),trivial⟩,trivial⟩
    | false =>
     conv=>whnf
     exact ⟨l0,[0,1,2,3,4],[],Sub.mk' rfl aut aut rfl rfl,by rw [hll0] at h7; unfold nowN; rw [h5,h6,h9,h7]; rfl⟩
   | false =>
    conv=>whnf
    exact ⟨l0,[0,1,2,3,4],[],Sub.mk' rfl aut aut rfl rfl,by unfold nowN; rw [h5,h6,h9]; rfl⟩
  rintro now hnow -
  have hO3:R=contH (OH (N - k)) (k+1) (inH now (fol g a) (lk,todo)):=by rw [hO2,hnow]
  have hnl:now.length≤k+1:=Nat.le_trans (nowN_len hnow) (by omega)
  have hI2:=hI.mono (Nat.le_succ k)
  have hcT:=k_cloneT now (by omega)
  have hnr:(now.map irow).length=now.length:=List.length_map ..
  obtain ⟨F,hF⟩ : ∃ F,fol g a=F:=⟨_,rfl⟩
  rw [hF] at hf hflt hfl hO3
  have hFl:=natsT_len F
  clear hO2 hnow hl0 hcl hlw hI
  conv=>whnf
  refine acall.pure _ (hf) rfl rfl fun _ => ?_
  conv=>whnf
  refine LoopL.by (fun x:HSt × Nat=>⟨[(1,.ptr 0 0),(4,.sl 1 N),(5,.mp 2),(6,.sl 3 x.1.2.length),(7,.tr (ti (k:Nat))),(10,.tr (intsT now)),(78,.tr (natsT F)),(79,.tr (ti F.length)),(80,.tr (ti (x.2:Nat)))],[(0,grBl g),(1,hB x.1.1),(2,inB x.1.2),(3,natsB x.1.2)],10⟩) (fun x=>HInv N (k+1) x.1.1 x.1.2∧k<x.1.2.length∧x.2≤F.length∧R=contH (OH (N - k)) (k+1) (inH now (F.drop x.2) x.1)) (fun x=>F.length - x.2) ((lk,todo),0) [0,1,2,3] []
   (Sub.mk' rfl ⟨⟨rfl,rfl⟩,⟨rfl,rfl⟩,rfl,⟨rfl,rfl⟩,.inl rfl,.inl rfl,.inl rfl,.inl (by rw [← hFl]),.inl rfl,trivial⟩ aut rfl rfl) ⟨hI2,hkt,Nat.zero_le _,hO3⟩ ?_
  clear hO3 hI2
  rintro ⟨⟨lk,todo⟩,j⟩ ⟨hI,hk,hj,hR⟩ -
  simp only at hI hk hj hR
  have hlkl:=hI.len
  have htl:=hI.todo_len
  conv=>whnf
  refine csplit (fun hjt => ?_) (fun hjt => ?_)
  ·have hjL:j<F.length:=by have:decide ((j:Int)<(F.length:Int))=true:=hjt; have:=of_decide_eq_true this; omega
   clear hjt
   obtain ⟨y,hy⟩ : ∃ y,F[j]? = some y:=⟨_,List.getElem?_eq_getElem hjL⟩
   have hyN:=hflt y (List.mem_of_getElem? hy)
   rw [drop_cons hy] at hR
   obtain ⟨o,ho⟩ : ∃ o,lk[y]? = some o:=⟨_,List.getElem?_eq_getElem (by omega)⟩
   have hlk:lkAt lk y=o.getD []:=by unfold lkAt; rw [List.getD_eq_getElem?_getD,ho]; rfl
   have hR2:R=contH (OH (N - k)) (k+1) (bif todo.contains y then (bif eqI2 (lkAt lk y) now then inH now (F.drop (j+1)) (lk,todo) else ((lk,todo),some y)) else inH now (F.drop (j+1)) (lk.set y (some now),todo++[y])):=hR
   clear hR
   conv=>whnf
   refine ⟨rfl,(show (0:Int)≤j by omega),(show (j:Int)<((((F.map fun (x:Nat)=>(x:Int))).map irow).length:Int) by omega),fun row hrow => ?_⟩
   obtain ⟨d,hd,rfl⟩:=natsT_get hrow
   obtain rfl:=Option.some.inj (hy.symm.trans hd)
   clear hrow hd
   have hlk2:(mget (mapE ((lk,todo),j).1.2) (.ki .i64 (y:Int))).getD (Tr.v Z.b.val)=tb (todo.contains y):=by
    show (mget (mapE todo) (.ki .i64 (y:Int))).getD (Tr.v Z.b.val)=tb (todo.contains y)
    rw [mget_mapE]
    cases todo.contains y <;> rfl
   conv=>whnf
   rw [hlk2]
   clear hlk2
   cases hcon:todo.contains y with
   | false =>
    have hyT:y ∉ todo:=fun w=>by rw [List.contains_iff_mem.2 w] at hcon; cases hcon
    rw [hcon,cond_false] at hR2
    have hI3:=hI.put hyN hyT hnl
    have hmS:mput (mapE todo) (.ki .i64 (y:Int)) (tb true)=mapE (todo++[y]):=by rw [mput_mapE,hcon]; rfl
    conv=>whnf
    refine acall.pure _ (hcT) rfl rfl fun _ => ?_
    conv=>whnf
    refine ⟨rfl,(show (0:Int)≤y by omega),(show (y:Int)<(N:Int) by omega),?_⟩
    conv=>whnf
    refine ⟨rfl,rfl,(by show y<(lk.map hrow).length; rw [List.length_map]; omega),fun row hrw => ?_⟩
    obtain ⟨d,hd,rfl⟩:=hrow_get hrw
    clear hrw hd
    have hrl:(hrow d).length=1:=by cases d <;> rfl
    refine ⟨(by show 0+1≤(hrow d).length; omega),?_⟩
    conv=>whnf
    refine ⟨rfl,rfl,rfl,(by rw [List.length_map]; exact Nat.le_refl _),(show (todo.length+1)*8≤150000000000000 by omega),fun q hq => ?_,?_⟩
    ·cases hq with
     | head=>exact Nat.ne_of_beq_eq_false rfl
     | tail _ h=>cases h
    conv=>whnf
    have hda:(todo.map nrow).take todo.length++[[ti (y:Nat)]]=(todo++[y]).map nrow:=by rw [List.take_of_length_le (by rw [List.length_map]; exact Nat.le_refl _),List.map_append]; rfl
    have hset:(lk.map hrow).set y ((hrow d).take 0++[intsT now]++(hrow d).drop (0+1))=(lk.set y (some now)).map hrow:=by rw [List.map_set]; cases d <;> rfl
    exact ⟨((lk.set y (some now),todo++[y]),j+1),[0,1,2,_],[],Sub.mk' rfl ⟨⟨rfl,rfl⟩,⟨rfl,rfl⟩,rfl,⟨rfl,by rw [List.length_append]; rfl⟩,.inl rfl,.inl rfl,.inl rfl,.inl rfl,.inl (ti_succ hjL (by omega)),trivial⟩ ⟨⟨rfl,.inl rfl,.inl rfl,.inl rfl,.inl rfl,trivial⟩,⟨rfl,rfl,rfl,hset⟩,⟨rfl,hmS⟩,⟨rfl,rfl,rfl,hda⟩,trivial⟩ rfl rfl,⟨hI3,by show k<(todo++[y]).length; rw [List.length_append]; omega,hjL,hR2⟩,by show F.length - (j+1)<F.length - j; omega⟩
   | true =>
    rw [hcon,cond_true,hlk] at hR2
    conv=>whnf
    refine ⟨rfl,(show (0:Int)≤y by omega),(show (y:Int)<(N:Int) by omega),?_⟩
    conv=>whnf
    refine ⟨rfl,(by show y<(lk.map hrow).length; rw [List.length_map]; omega),fun row hrw => ?_⟩
    obtain ⟨d,hd,rfl⟩:=hrow_get hrw
    obtain rfl:=Option.some.inj (ho.symm.trans hd)
    clear hrw hd
    cases o with
    | none =>
     refine ⟨(show 0<1 by decide),fun t ht => ?_⟩
     cases ht
     conv=>whnf
     refine acall.gen [] [] [.tr (intsT []),.tr (intsT now)] [] _ [] (k_equal [] now) rfl rfl rfl rfl ⟨.inr ⟨rfl,1,8,rfl⟩,.inl rfl,trivial⟩ trivial rfl rfl fun _ => ?_
     conv=>whnf
     cases he:eqI2 [] now with
     | false =>
      have hRf:R=([],(y:Int)):=by rw [hR2]; show contH _ _ (bif eqI2 [] now then _ else _)=_; rw [he]; rfl
      conv=>whnf
      exact ⟨⟨.inr ⟨rfl,1,24,by rw [hRf]; rfl⟩,.inl (by rw [hRf]),trivial⟩,trivial⟩
     | true =>
      have hR3:R=contH (OH (N - k)) (k+1) (inH now (F.drop (j+1)) (lk,todo)):=by rw [hR2]; show contH _ _ (bif eqI2 [] now then _ else _)=_; rw [he]; rfl
      conv=>whnf
      exact ⟨((lk,todo),j+1),[0,1,2,3],[],Sub.mk' rfl ⟨⟨rfl,rfl⟩,⟨rfl,rfl⟩,rfl,⟨rfl,rfl⟩,.inl rfl,.inl rfl,.inl rfl,.inl rfl,.inl (ti_succ hjL (by omega)),trivial⟩ aut rfl rfl,⟨hI,hk,hjL,hR3⟩,by show F.length - (j+1)<F.length - j; omega⟩
    | some l =>
     refine ⟨(show 0<1 by decide),fun t ht => ?_⟩
     cases ht
     conv=>whnf
     refine acall.pure _ (k_equal l now) rfl rfl fun _ => ?_
     conv=>whnf
     cases he:eqI2 l now with
     | false =>
      have hRf:R=([],(y:Int)):=by rw [hR2]; show contH _ _ (bif eqI2 l now then _ else _)=_; rw [he]; rfl
      conv=>whnf
      exact ⟨⟨.inr ⟨rfl,1,24,by rw [hRf]; rfl⟩,.inl (by rw [hRf]),trivial⟩,trivial⟩
     | true =>
      have hR3:R=contH (OH (N - k)) (k+1) (inH now (F.drop (j+1)) (lk,todo)):=by rw [hR2]; show contH _ _ (bif eqI2 l now then _ else _)=_; rw [he]; rfl
      conv=>whnf
      exact ⟨((lk,todo),j+1),[0,1,2,3],[],Sub.mk' rfl ⟨⟨rfl,rfl⟩,⟨rfl,rfl⟩,rfl,⟨rfl,rfl⟩,.inl rfl,.inl rfl,.inl rfl,.inl rfl,.inl (ti_succ hjL (by omega)),trivial⟩ aut rfl rfl,⟨hI,hk,hjL,hR3⟩,by show F.length - (j+1)<F.length - j; omega⟩
  ·have hjt:F.length≤j:=by have:decide ((j:Int)<(F.length:Int))=false:=hjt; have:=of_decide_eq_false this; omega
   rw [List.drop_of_length_le hjt] at hR
   have hR2:R=OH (N - k) (lk,todo) (k+1):=hR
   conv=>whnf
   refine ⟨fun _ => ?_,fun h=>absurd rfl h⟩
   conv=>whnf
   exact ⟨((lk,todo),k+1),[0,1,2,3],[],Sub.mk' rfl ⟨⟨rfl,rfl⟩,⟨rfl,rfl⟩,rfl,⟨rfl,rfl⟩,.inl (ti_succ hk (by omega)),trivial⟩ aut rfl rfl,⟨hI,hk,by rw [hR2,show N+1 - (k+1)=N - k by omega]⟩,by show N+1 - (k+1)<N+1 - k; omega⟩
 ·have hkt:todo.length≤k:=by have:decide ((k:Int)<(todo.length:Int))=false:=hkt; have:=of_decide_eq_false this; omega
  have hRe:R=(lk,-1):=by
   rw [hO1]
   show (match todo[k]? with | none=>_ | some a=>_)=_
   rw [List.getElem?_eq_none hkt]
  subst hRe
  conv=>whnf
  refine ⟨fun _ => ?_,fun h=>absurd rfl h⟩
  conv=>whnf
  exact ⟨⟨⟨rfl,(by show N≤(lk.map hrow).length; rw [List.length_map]; omega),(by show heT lk=Tr.lst 1 24 ((lk.map hrow).take N); rw [List.take_of_length_le (by rw [List.length_map]; omega)])⟩,.inl rfl,trivial⟩,trivial⟩
end Go.Proofs.YthboippafkcoiaaGreatDoor.am
namespace Go.Proofs.YthboippafkcoiaaGreatDoor.am
open Go Go.Proofs
set_option linter.all false
def grBad (g:Gr):Bool:=decide (g.locals<0) || decide (g.locals > 64) || decide (g.slots<g.locals) || decide (g.slots > 4160) || decide ((g.nodes.length:Int)<1) || decide ((g.nodes.length:Int) > 4096)
def ndBad (u:Un) (g:Gr):List Nd→Int→Option Int
 | [],_=>none
 | n::r,i=>bif rightB u g n then ndBad u g r (i+1) else some i
def contC (g:Gr) (t:Int) (R:Int × Int × Int):Option Int→Int × Int × Int
 | some i=>(60,t,i)
 | none=>bif decide ((heldR g).2 ≥ 0) then (60,t,(heldR g).2) else R
def ckG (u:Un):List Gr→Int→Int × Int × Int
 | [],_=>(0,0,0)
 | g::r,t=>bif grBad g then (60,t,0) else contC g t (ckG u r (t+1)) (ndBad u g g.nodes 0)
def checkU (u:Un):Int × Int × Int:=bif namedB u then ckG u u.graphs 0 else (60,0,0)
theorem within_hi {p has k most:Int} (h:withinB p has k most=true) (hp:(andP p has == 0)=false):0≤k∧k<most:=by
 unfold withinB at h
 rw [hp] at h
 simp only [Bool.false_and,Bool.false_or,Bool.and_eq_true,decide_eq_true_eq] at h
 exact ⟨h.1.2,h.2⟩
theorem right_ok {u:Un} {g:Gr} {n:Nd} (h:rightB u g n=true) (h0:0≤n.kind):nodeOk g.nodes.length n=true:=by
 unfold rightB at h
 cases hh:headR n with
 | true=>rw [hh] at h; cases h
 | false =>
  rw [hh,cond_false] at h
  unfold headR at hh
  simp only [Bool.or_eq_false_iff] at hh
  have hk:=kinds hh.1.1.1 hh.1.1.2 h0
  unfold fieldsR at h
  simp only [Bool.and_eq_true] at h
  have hnx:=h.1.1.1.2
  have hel:=h.1.1.2
  obtain ⟨kind,op,slot,thing,a,b,next,els,origin⟩:=n
  simp only at hk hnx hel
  unfold nodeOk folI
  simp only
  rcases hk with rfl | rfl | rfl | rfl | rfl | rfl | rfl | rfl | rfl
  case inr.inr.inr.inr.inr.inr.inr.inr=>rfl
  case inr.inr.inr.inr.inr.inr.inr.inl =>
   have h1:=within_hi hnx (by kernel_rfl)
   have h2:=within_hi hel (by kernel_rfl)
   cases hb:(els != next) <;> simp [hb] <;> omega
  case inl =>
   have h1:0≤next∧next<(g.nodes.length:Int):=within_hi hnx (by unfold partsI; cases two op <;> kernel_rfl)
   simp; omega
  all_goals
   have h1:=within_hi hnx (by kernel_rfl)
   simp; omega
theorem whole_right {u:Un} {g:Gr} (hb:grBad g=false) (hr : ∀ n ∈ g.nodes,rightB u g n=true∧0≤n.kind):wholeB g=true:=by
 unfold grBad at hb
 simp only [Bool.or_eq_false_iff] at hb
 unfold wholeB
 rw [hb.1.2,hb.2]
 exact List.all_eq_true.2 fun n hn=>right_ok (hr n hn).1 (hr n hn).2
set_option maxRecDepth 100000 in
set_option maxHeartbeats 2000000 in
theorem k_check (u:Un):K 29 [u.av] [] (.ret (.tup [.tr (ti (checkU u).1),.tr (ti (checkU u).2.1),.tr (ti (checkU u).2.2)])) []:=by
 have hn:=k_named u
 have hC:checkU u=bif namedB u then ckG u u.graphs 0 else (60,0,0):=rfl
 generalize checkU u=R at hC ⊢
 have hlg:(u.graphs.map Gr.cells).length=u.graphs.length:=List.length_map ..
 refine Ctr.of hT hmix Tryz.func29 rfl (fun _ _=>by kernel_rfl) rfl fun hok => ?_
 obtain ⟨_,hl3,hrw⟩:=((hok.slot 0 rfl).agg _ (.tail _ (.tail _ (.head _)))).tr.lst
 have hbd : ∀ g ∈ u.graphs,∀ n ∈ g.nodes,0≤n.kind∧0≤n.op∧n.op≤255:=fun g hg n hnn=>by
  have h1:=(hrw g.cells (List.mem_map_of_mem hg)).2 (nodesT g.nodes) (.tail _ (.tail _ (.tail _ (.head _))))
  have h2:=(h1.lst.2.2 n.cells (List.mem_map_of_mem hnn)).2
  have h3:=(h2 (tu n.kind) (.head _)).u8
  have h4:=(h2 (tu n.op) (.tail _ (.head _))).u8
  exact ⟨h3.1,h4.1,h4.2⟩
 rw [List.length_map] at hl3
 clear hok hrw
 conv=>whnf
 refine acall.pure _ (hn) rfl rfl fun _ => ?_
 conv=>whnf
 cases hnm:namedB u with
 | false =>
  conv=>whnf
  have hRf:R=(60,0,0):=by rw [hC,hnm]; rfl
  exact ⟨⟨.inl (by rw [hRf]),.inl (by rw [hRf]),.inl (by rw [hRf]),trivial⟩,trivial⟩
 | true =>
 have hR:R=ckG u u.graphs 0:=by rw [hC,hnm]; rfl
 clear hC
 conv=>whnf
 refine LoopL.by (fun t:Nat=>⟨[(1,.ptr 0 0),(15,.tr (graphsT u.graphs)),(16,.tr (ti u.graphs.length)),(17,.tr (ti t))],[(0,.cells 29 [.tr (declsT u.shared),.tr (declsT u.locks),.tr (graphsT u.graphs)])],10⟩) (fun t=>t≤u.graphs.length∧R=ckG u (u.graphs.drop t) t) (fun t=>u.graphs.length - t) 0 [_] []
  (Sub.mk' rfl ⟨⟨rfl,rfl⟩,.inl rfl,.inl (by rw [← hlg]),.inl rfl,trivial⟩ ⟨⟨rfl,.inl rfl,.inl rfl,.inl rfl,trivial⟩,trivial⟩ rfl rfl) ⟨Nat.zero_le _,hR⟩ ?_
 clear hR
 rintro t ⟨ht,hR⟩ -
 conv=>whnf
 refine csplit (fun htt => ?_) (fun htt => ?_)
 ·have htt:t<u.graphs.length:=by have:decide ((t:Int)<(u.graphs.length:Int))=true:=htt; have:=of_decide_eq_true this; omega
  obtain ⟨g,hg⟩ : ∃ g,u.graphs[t]? = some g:=⟨_,List.getElem?_eq_getElem htt⟩
  rw [drop_cons hg] at hR
  have hbd:=hbd g (List.mem_of_getElem? hg)
  have hR2:R=bif grBad g then (60,(t:Int),0) else contC g t (ckG u (u.graphs.drop (t+1)) ((t:Int)+1)) (ndBad u g g.nodes 0):=hR
  clear hR
  have hgl:(g.nodes.map Nd.cells).length=g.nodes.length:=List.length_map ..
  conv=>whnf
  refine ⟨rfl,(show (0:Int)≤t by omega),(show (t:Int)<((u.graphs.map Gr.cells).length:Int) by omega),fun row hrow => ?_⟩
  obtain ⟨d,hd,rfl⟩:=gr_get hrow
  obtain rfl:=Option.some.inj (hg.symm.trans hd)
  clear hrow hd hg
  conv=>whnf
  cases b1:decide (g.locals<0) with
  | true =>
   conv=>whnf
   have hRf:R=(60,(t:Int),0):=by rw [hR2]; unfold grBad; rw [b1]; rfl
   exact ⟨⟨.inl (by rw [hRf]),.inl (by rw [hRf]),.inl (by rw [hRf]),trivial⟩,trivial⟩
  | false =>
  conv=>whnf
  cases b2:decide (g.locals > 64) with
  | true =>
   conv=>whnf
   have hRf:R=(60,(t:Int),0):=by rw [hR2]; unfold grBad; rw [b1,b2]; rfl
   exact ⟨⟨.inl (by rw [hRf]),.inl (by rw [hRf]),.inl (by rw [hRf]),trivial⟩,trivial⟩
  | false =>
  conv=>whnf
  cases b3:decide (g.slots<g.locals) with
  | true =>
   conv=>whnf
   have hRf:R=(60,(t:Int),0):=by rw [hR2]; unfold grBad; rw [b1,b2,b3]; rfl
   exact ⟨⟨.inl (by rw [hRf]),.inl (by rw [hRf]),.inl (by rw [hRf]),trivial⟩,trivial⟩
  | false =>
  conv=>whnf
  cases b4:decide (g.slots > 4160) with
  | true =>
   conv=>whnf
   have hRf:R=(60,(t:Int),0):=by rw [hR2]; unfold grBad; rw [b1,b2,b3,b4]; rfl
   exact ⟨⟨.inl (by rw [hRf]),.inl (by rw [hRf]),.inl (by rw [hRf]),trivial⟩,trivial⟩
  | false =>
  conv=>whnf
  cases b5:decide (((g.nodes.map Nd.cells).length:Int)<1) with
  | true =>
   conv=>whnf
   rw [hgl] at b5
   have hRf:R=(60,(t:Int),0):=by rw [hR2]; unfold grBad; rw [b1,b2,b3,b4,b5]; rfl
   exact ⟨⟨.inl (by rw [hRf]),.inl (by rw [hRf]),.inl (by rw [hRf]),trivial⟩,trivial⟩
  | false =>
  conv=>whnf
  cases b6:decide (((g.nodes.map Nd.cells).length:Int) > 4096) with
  | true =>
   conv=>whnf
   rw [hgl] at b5 b6
   have hRf:R=(60,(t:Int),0):=by rw [hR2]; unfold grBad; rw [b1,b2,b3,b4,b5,b6]; rfl
   exact ⟨⟨.inl (by rw [hRf]),.inl (by rw [hRf]),.inl (by rw [hRf]),trivial⟩,trivial⟩
  | false =>
  conv=>whnf
  have hgb:grBad g=false:=by rw [hgl] at b5 b6; unfold grBad; rw [b1,b2,b3,b4,b5,b6]; rfl
  rw [hgb,cond_false] at hR2
  have hmo:g.nodes.length≤4096:=by have:=of_decide_eq_false b6; omega
  clear b1 b2 b3 b4 b5 b6
  generalize hRR:ckG u (u.graphs.drop (t+1)) ((t:Int)+1)=RR at hR2
  refine LoopL.by (fun i:Nat=>⟨[(1,.ptr 0 0),(5,.tr (ti t)),(6,.ptr 1 0),(15,.tr (graphsT u.graphs)),(16,.tr (ti u.graphs.length)),(17,.tr (ti t)),(56,.tr (nodesT g.nodes)),(57,.tr (ti g.nodes.length)),(58,.tr (ti i))],[(0,.cells 29 [.tr (declsT u.shared),.tr (declsT u.locks),.tr (graphsT u.graphs)]),(1,grBl g)],10⟩) (fun i=>i≤g.nodes.length∧R=contC g t RR (ndBad u g (g.nodes.drop i) i) ∧ ∀ n ∈ g.nodes.take i,rightB u g n=true) (fun i=>g.nodes.length - i) 0 [0,_] []
   (Sub.mk' rfl ⟨⟨rfl,rfl⟩,.inl rfl,⟨rfl,rfl⟩,.inl rfl,.inl rfl,.inl rfl,.inl rfl,.inl (by rw [← hgl]),.inl rfl,trivial⟩ ⟨⟨rfl,.inl rfl,.inl rfl,.inl rfl,trivial⟩,⟨rfl,.inl rfl,.inl rfl,.inl rfl,.inl rfl,trivial⟩,trivial⟩ rfl rfl) ⟨Nat.zero_le _,hR2,fun n hn=>by cases hn⟩ ?_
  clear hR2
  rintro i ⟨hi,hR,hal⟩ -
  conv=>whnf
  refine csplit (fun hit => ?_) (fun hit => ?_)
  ·have hit:i<g.nodes.length:=by have:decide ((i:Int)<(g.nodes.length:Int))=true:=hit; have:=of_decide_eq_true this; omega
   obtain ⟨n,hn⟩ : ∃ n,g.nodes[i]? = some n:=⟨_,List.getElem?_eq_getElem hit⟩
   rw [drop_cons hn] at hR
   obtain ⟨q0,q1,q2⟩:=hbd n (List.mem_of_getElem? hn)
   have hri:=k_right u g n q0 ⟨q1,q2⟩
   have hR2:R=contC g t RR (bif rightB u g n then ndBad u g (g.nodes.drop (i+1)) ((i:Int)+1) else some (i:Int)):=hR
   clear hR
   conv=>whnf
   refine ⟨rfl,(show (0:Int)≤i by omega),(show (i:Int)<((g.nodes.map Nd.cells).length:Int) by omega),fun row hrow => ?_⟩
   obtain ⟨d,hd,rfl⟩:=nd_get hrow
   obtain rfl:=Option.some.inj (hn.symm.trans hd)
   clear hrow hd
   conv=>whnf
   refine acall.pure _ (hri) rfl rfl fun _ => ?_
   conv=>whnf
   cases hrb:rightB u g n with
   | false =>
    have hRf:R=(60,(t:Int),(i:Int)):=by rw [hR2,hrb]; rfl
    conv=>whnf
    exact ⟨⟨.inl (by rw [hRf]),.inl (by rw [hRf]),.inl (by rw [hRf]),trivial⟩,trivial⟩
   | true =>
    rw [hrb,cond_true] at hR2
    conv=>whnf
    exact ⟨i+1,[0,1],[],Sub.mk' rfl ⟨⟨rfl,rfl⟩,.inl rfl,⟨rfl,rfl⟩,.inl rfl,.inl rfl,.inl rfl,.inl rfl,.inl rfl,.inl (ti_succ hit (by omega)),trivial⟩ aut rfl rfl,⟨hit,hR2,fun m hm=>by
     rw [take_snoc hn] at hm
     rcases List.mem_append.1 hm with w | w
     ·exact hal m w
     ·rw [List.mem_singleton.1 w]; exact hrb⟩,by show g.nodes.length - (i+1)<g.nodes.length - i; omega⟩
  have hit:g.nodes.length≤i:=by have:decide ((i:Int)<(g.nodes.length:Int))=false:=hit; have:=of_decide_eq_false this; omega
  rw [List.drop_of_length_le hit] at hR
  rw [List.take_of_length_le hit] at hal
  have hW:=whole_of (whole_right hgb fun n hn=>⟨hal n hn,(hbd n hn).1⟩)
  have hhe:=k_heldR g hW
  have hR2:R=bif decide ((heldR g).2 ≥ 0) then (60,(t:Int),(heldR g).2) else RR:=hR
  clear hR
  conv=>whnf
  refine ⟨fun _ => ?_,fun h=>absurd rfl h⟩
  conv=>whnf
  refine acall.pure _ (hhe) rfl rfl fun _ => ?_
  conv=>whnf
  cases hf:decide ((heldR g).2 ≥ 0) with
  | true =>
   have hRf:R=(60,(t:Int),(heldR g).2):=by rw [hR2,hf]; rfl
   conv=>whnf
   exact ⟨⟨.inl (by rw [hRf]),.inl (by rw [hRf]),.inl (by rw [hRf]),trivial⟩,trivial⟩
  | false =>
   have hR3:R=ckG u (u.graphs.drop (t+1)) ((t+1:Nat):Int):=by rw [hR2,hf,cond_false,← hRR]; rfl
   conv=>whnf
   exact ⟨t+1,[0],[],Sub.mk' rfl ⟨⟨rfl,rfl⟩,.inl rfl,.inl rfl,.inl (ti_succ htt (by omega)),trivial⟩ aut rfl rfl,⟨htt,hR3⟩,by show u.graphs.length - (t+1)<u.graphs.length - t; omega⟩
 ·have htt:u.graphs.length≤t:=by have:decide ((t:Int)<(u.graphs.length:Int))=false:=htt; have:=of_decide_eq_false this; omega
  rw [List.drop_of_length_le htt] at hR
  have hRf:R=(0,0,0):=hR
  conv=>whnf
  refine ⟨fun _ => ?_,fun h=>absurd rfl h⟩
  conv=>whnf
  exact ⟨⟨.inl (by rw [hRf]),.inl (by rw [hRf]),.inl (by rw [hRf]),trivial⟩,trivial⟩
end Go.Proofs.YthboippafkcoiaaGreatDoor.am
namespace Go.Proofs.YthboippafkcoiaaGreatDoor.am
open Go Go.Proofs
set_option linter.all false
structure LowC where
 p:Prg
 t:Nat
 name:ByteArray
 loc:Int
structure LowS where
 slots:Int
 nodes:List Nd
 opens:List (Bool × Nat)
 over:Bool
def fillN (to:Int) (L:List Nd) (o:Bool × Nat):List Nd:=match L[o.2]? with
 | some n=>L.set o.2 (bif o.1 then { n with els:=to } else { n with next:=to })
 | none=>L
def leadN (to:Int) (os:List (Bool × Nat)) (L:List Nd):List Nd:=os.foldl (fillN to) L
def wI (x:Int):Int:=IntKind.i64.wrap x
def slotS (s:LowS):LowS := { s with slots:=wI (s.slots+1) }
def slotI (s:LowS):Int:=wI (wI (s.slots+1) - 1)
def putS (n:Nd) (s:LowS):LowS:=bif decide ((s.nodes.length:Int) ≥ 4096) then { s with over:=true } else { s with nodes:=leadN s.nodes.length s.opens s.nodes++[{ n with origin:=s.nodes.length }],opens:=[(false,s.nodes.length)] }
def putI (s:LowS):Int:=bif decide ((s.nodes.length:Int) ≥ 4096) then 0 else s.nodes.length
abbrev v00:Val:=⟨false,0,0⟩
abbrev nd00:Nd:=⟨0,0,0,0,v00,v00,0,0,0⟩
def inV (k:Int):Val:=⟨true,k,0⟩
mutual
def exprS (c:LowC):Expr→LowS→LowS × Val
 | .mk kind op word name kids _,s =>
  bif kind == 1 then (s,⟨false,0,word⟩)
  else bif kind == 2 then (bif decide (localI c.p c.t name ≥ 0) then (s,inV (localI c.p c.t name))
   else (putS { nd00 with kind:=2,thing:=findI c.p.shared name 0,slot:=slotI s } (slotS s),inV (slotI s)))
  else bif two op then (putS { nd00 with kind:=1,op:=op,a:=(kid0S c kids s).2,b:=(kid1S c kids (kid0S c kids s).1).2,slot:=slotI (kid1S c kids (kid0S c kids s).1).1 } (slotS (kid1S c kids (kid0S c kids s).1).1),inV (slotI (kid1S c kids (kid0S c kids s).1).1))
  else (putS { nd00 with kind:=1,op:=op,a:=(kid0S c kids s).2,slot:=slotI (kid0S c kids s).1 } (slotS (kid0S c kids s).1),inV (slotI (kid0S c kids s).1))
def kid0S (c:LowC):List Expr→LowS→LowS × Val
 | [],s=>(s,v00)
 | e::_,s=>exprS c e s
def kid1S (c:LowC):List Expr→LowS→LowS × Val
 | [],s=>(s,v00)
 | _::r,s=>kid0S c r s
end
def giveS (c:LowC) (name:ByteArray) (v:Val) (s:LowS):LowS:=bif decide (localI c.p c.t name ≥ 0) then putS { nd00 with kind:=1,slot:=localI c.p c.t name,a:=v } s else putS { nd00 with kind:=3,thing:=findI c.p.shared name 0,a:=v } s
def swapS (c:LowC) (name other:ByteArray) (v:Val) (s:LowS):LowS:=bif decide (localI c.p c.t name ≥ 0) then putS { nd00 with kind:=4,a:=v,thing:=findI c.p.shared other 0,slot:=localI c.p c.t name } s
 else giveS c name (inV (slotI s)) (putS { nd00 with kind:=4,a:=v,thing:=findI c.p.shared other 0,slot:=slotI s } (slotS s))
def openS (os:List (Bool × Nat)) (s:LowS):LowS := { s with opens:=os }
mutual
def stmtS (c:LowC):Stmt→LowS→LowS
 | .mk kind name other e body els _,s =>
  bif kind == 1 then giveS c name (kid0S c e s).2 (kid0S c e s).1
  else bif kind == 2 then swapS c name other (kid0S c e s).2 (kid0S c e s).1
  else bif kind == 3 then
   openS ((blockS c body (putS { nd00 with kind:=8,a:=(kid0S c e s).2 } (kid0S c e s).1)).opens++(blockS c els (openS [(true,(putI (kid0S c e s).1).toNat)] (blockS c body (putS { nd00 with kind:=8,a:=(kid0S c e s).2 } (kid0S c e s).1)))).opens)
    (blockS c els (openS [(true,(putI (kid0S c e s).1).toNat)] (blockS c body (putS { nd00 with kind:=8,a:=(kid0S c e s).2 } (kid0S c e s).1))))
  else bif kind == 4 then
   (bif (blockS c body (putS { nd00 with kind:=8,a:=(kid0S c e s).2 } (kid0S c e s).1)).over then blockS c body (putS { nd00 with kind:=8,a:=(kid0S c e s).2 } (kid0S c e s).1)
    else { blockS c body (putS { nd00 with kind:=8,a:=(kid0S c e s).2 } (kid0S c e s).1) with nodes:=leadN s.nodes.length (blockS c body (putS { nd00 with kind:=8,a:=(kid0S c e s).2 } (kid0S c e s).1)).opens (blockS c body (putS { nd00 with kind:=8,a:=(kid0S c e s).2 } (kid0S c e s).1)).nodes,opens:=[(true,(putI (kid0S c e s).1).toNat)] })
  else bif kind == 5 then putS { nd00 with kind:=6,thing:=findI c.p.locks name 0 } (blockS c body (putS { nd00 with kind:=5,thing:=findI c.p.locks name 0 } s))
  else bif kind == 6 then putS { nd00 with kind:=7,a:=(kid0S c e s).2 } (kid0S c e s).1
  else s
def blockS (c:LowC):List Stmt→LowS→LowS
 | [],s=>s
 | x::r,s=>bif s.over then s else blockS c r (stmtS c x s)
end
end Go.Proofs.YthboippafkcoiaaGreatDoor.am
namespace Go.Proofs.YthboippafkcoiaaGreatDoor.am
open Go Go.Proofs
set_option linter.all false
abbrev lwB (c:LowC) (sl:Int) (N M:Nat) (ov:Bool) (hn ho:Nat):Blk := .cells 92 [.tr (declsT c.p.shared),.tr (declsT c.p.locks),.tr (threadsT c.p.threads),.tr (ti (c.t:Nat)),.tr (ts c.name),.tr (ti c.loc),.tr (ti sl),.sl hn N,.sl ho M,.tr (tb ov)]
abbrev lwN (c:LowC) (sl:Int) (N:Nat) (ov:Bool) (hn:Nat):Blk := .cells 92 [.tr (declsT c.p.shared),.tr (declsT c.p.locks),.tr (threadsT c.p.threads),.tr (ti (c.t:Nat)),.tr (ts c.name),.tr (ti c.loc),.tr (ti sl),.sl hn N,nilA,.tr (tb ov)]
abbrev nxG:Nat := 138
abbrev otG:Nat := 164
def cloD (o:Bool × Nat):Nat × List Tr:=(bif o.1 then otG else nxG,[ti (o.2:Nat)])
abbrev opsB (l:List (Bool × Nat)):Blk := .fns 137 8 0 (l.map cloD)
abbrev fzA:AV := .ifc (4*HMod) (.fn 0 [.ptr 0 0])
abbrev cloA (o:Bool × Nat):AV := .fn (bif o.1 then otG else nxG) [fzA,.ept [ti (o.2:Nat)]]
theorem fillN_len (to:Int) (L:List Nd) (o:Bool × Nat):(fillN to L o).length=L.length:=by
 unfold fillN
 cases L[o.2]? with
 | none=>rfl
 | some n=>exact List.length_set
theorem leadN_len (to:Int) : ∀ (os:List (Bool × Nat)) (L:List Nd),(leadN to os L).length=L.length
 | [],_=>rfl
 | o::r,L=>(leadN_len to r (fillN to L o)).trans (fillN_len to L o)
theorem leadN_snoc (to:Int) (os:List (Bool × Nat)) (o:Bool × Nat) (L:List Nd):leadN to (os++[o]) L=fillN to (leadN to os L) o:=by
 unfold leadN
 rw [List.foldl_append]; rfl
set_option maxRecDepth 100000 in
theorem k_slotG (c:LowC) (s:LowS):K 134 [.ptr 0 0] [lwB c s.slots s.nodes.length s.opens.length s.over 1 2,ndsB s.nodes,opsB s.opens] (.ret (.tr (ti (slotI s)))) [some (lwB c (slotS s).slots s.nodes.length s.opens.length s.over 1 2),some (ndsB s.nodes),some (opsB s.opens)]:=by
 refine Ctr.of hT hmix Tryz.func134 rfl (fun _ _=>by kernel_rfl) rfl fun hok => ?_
 clear hok
 conv=>whnf
 exact aut
set_option maxRecDepth 100000 in
theorem k_nextGN (c:LowC) (sl:Int) (N k:Nat) (ov:Bool) (L:List Nd):K 92 [.ptr 0 0,.tr (ti (k:Nat))] [lwN c sl N ov 1,ndsB L] (.ret (cloA (false,k))) [some (lwN c sl N ov 1),some (ndsB L)]:=by
 refine Ctr.of hT hmix Tryz.func92 rfl (fun _ _=>by kernel_rfl) rfl fun hok => ?_
 clear hok
 conv=>whnf
 exact aut
set_option maxRecDepth 100000 in
theorem k_otherG (c:LowC) (sl:Int) (N M k:Nat) (ov:Bool) (L:List Nd) (os:List (Bool × Nat)):K 136 [.ptr 0 0,.tr (ti (k:Nat))] [lwB c sl N M ov 1 2,ndsB L,opsB os] (.ret (cloA (true,k))) [some (lwB c sl N M ov 1 2),some (ndsB L),some (opsB os)]:=by
 refine Ctr.of hT hmix Tryz.func136 rfl (fun _ _=>by kernel_rfl) rfl fun hok => ?_
 clear hok
 conv=>whnf
 exact aut
set_option maxRecDepth 100000 in
theorem k_otherGN (c:LowC) (sl:Int) (N k:Nat) (ov:Bool) (L:List Nd):K 136 [.ptr 0 0,.tr (ti (k:Nat))] [lwN c sl N ov 1,ndsB L] (.ret (cloA (true,k))) [some (lwN c sl N ov 1),some (ndsB L)]:=by
 refine Ctr.of hT hmix Tryz.func136 rfl (fun _ _=>by kernel_rfl) rfl fun hok => ?_
 clear hok
 conv=>whnf
 exact aut
set_option maxRecDepth 100000 in
theorem k_nextF (c:LowC) (sl:Int) (M k:Nat) (ov:Bool) (to_:Int) (L:List Nd) (os:List (Bool × Nat)) (hk:k<L.length):K 138 [.tr (ti to_),fzA,.ept [ti (k:Nat)]] [lwB c sl L.length M ov 1 2,ndsB L,opsB os] (.ret (.tup [])) [some (lwB c sl L.length M ov 1 2),some (ndsB (fillN to_ L (false,k))),some (opsB os)]:=by
 obtain ⟨n,hn⟩ : ∃ n,L[k]? = some n:=⟨_,List.getElem?_eq_getElem hk⟩
 have hf:fillN to_ L (false,k)=L.set k { n with next:=to_ }:=by unfold fillN; simp only [hn]; rfl
 rw [hf]
 refine Ctr.of hT hmix Tryz.func138 rfl (fun _ _=>by kernel_rfl) rfl fun hok => ?_
 clear hok
 conv=>whnf
 refine ⟨rfl,(show (0:Int)≤k by omega),(show (k:Int)<(L.length:Int) by omega),?_⟩
 conv=>whnf
 refine ⟨rfl,rfl,(by show k<(L.map Nd.cells).length; rw [List.length_map]; omega),fun row hrow => ?_⟩
 obtain ⟨d,hd,rfl⟩:=nd_get hrow
 obtain rfl:=Option.some.inj (hn.symm.trans hd)
 clear hrow hd
 refine ⟨(show 10+1≤13 by decide),?_⟩
 conv=>whnf
 refine ⟨by kernel_rfl,fun _ => ?_⟩
 conv=>whnf
 exact ⟨trivial,aut,⟨rfl,rfl,rfl,by rw [List.map_set]; rfl⟩,aut,trivial⟩
set_option maxRecDepth 100000 in
theorem k_otherF (c:LowC) (sl:Int) (M k:Nat) (ov:Bool) (to_:Int) (L:List Nd) (os:List (Bool × Nat)) (hk:k<L.length):K 164 [.tr (ti to_),fzA,.ept [ti (k:Nat)]] [lwB c sl L.length M ov 1 2,ndsB L,opsB os] (.ret (.tup [])) [some (lwB c sl L.length M ov 1 2),some (ndsB (fillN to_ L (true,k))),some (opsB os)]:=by
 obtain ⟨n,hn⟩ : ∃ n,L[k]? = some n:=⟨_,List.getElem?_eq_getElem hk⟩
 have hf:fillN to_ L (true,k)=L.set k { n with els:=to_ }:=by unfold fillN; simp only [hn]; rfl
 rw [hf]
 refine Ctr.of hT hmix Tryz.func164 rfl (fun _ _=>by kernel_rfl) rfl fun hok => ?_
 clear hok
 conv=>whnf
 refine ⟨rfl,(show (0:Int)≤k by omega),(show (k:Int)<(L.length:Int) by omega),?_⟩
 conv=>whnf
 refine ⟨rfl,rfl,(by show k<(L.map Nd.cells).length; rw [List.length_map]; omega),fun row hrow => ?_⟩
 obtain ⟨d,hd,rfl⟩:=nd_get hrow
 obtain rfl:=Option.some.inj (hn.symm.trans hd)
 clear hrow hd
 refine ⟨(show 11+1≤13 by decide),?_⟩
 conv=>whnf
 refine ⟨by kernel_rfl,fun _ => ?_⟩
 conv=>whnf
 exact ⟨trivial,aut,⟨rfl,rfl,rfl,by rw [List.map_set]; rfl⟩,aut,trivial⟩
set_option maxRecDepth 100000 in
theorem k_leadG (c:LowC) (sl:Int) (ov:Bool) (to_:Int) (L:List Nd) (os:List (Bool × Nat)) (hop : ∀ o ∈ os,o.2<L.length) (hM:os.length≤1000000):K 91 [.ptr 0 0,.tr (ti to_)] [lwB c sl L.length os.length ov 1 2,ndsB L,opsB os] (.ret (.tup [])) [some (lwN c sl L.length ov 1),some (ndsB (leadN to_ os L)),none]:=by
 refine Ctr.of hT hmix Tryz.func91 rfl (fun _ _=>by kernel_rfl) rfl fun hok => ?_
 clear hok
 conv=>whnf
 refine LoopL.by (fun i:Nat=>⟨[(0,.ptr 0 0),(1,.tr (ti to_)),(9,.sl 2 os.length),(10,.tr (ti (os.length:Nat))),(11,.tr (ti (i:Nat)))],[(0,lwB c sl L.length os.length ov 1 2),(1,ndsB (leadN to_ (os.take i) L)),(2,opsB os)],12⟩) (fun i=>i≤os.length) (fun i=>os.length - i) 0 [0,1,2] []
  (Sub.mk' rfl aut aut rfl rfl) (Nat.zero_le _) ?_
 rintro i hi -
 conv=>whnf
 refine csplit (fun hit => ?_) (fun hit => ?_)
 ·replace hit:i<os.length:=by have:decide ((i:Int)<(os.length:Int))=true:=hit; have:=of_decide_eq_true this; omega
  obtain ⟨o,ho⟩ : ∃ o,os[i]? = some o:=⟨_,List.getElem?_eq_getElem hit⟩
  have hol:=hop o (List.mem_of_getElem? ho)
  have hLl:=leadN_len to_ (os.take i) L
  have hnx:leadN to_ (os.take (i+1)) L=fillN to_ (leadN to_ (os.take i) L) o:=by rw [take_snoc ho,leadN_snoc]
  generalize leadN to_ (os.take i) L=L1 at hLl hnx
  rw [← hLl]
  have hcall:=fun (h:o.2<L1.length)=>k_nextF c sl os.length o.2 ov to_ L1 os h
  have hcall2:=fun (h:o.2<L1.length)=>k_otherF c sl os.length o.2 ov to_ L1 os h
  obtain ⟨b,k⟩:=o
  simp only at hol hcall hcall2
  conv=>whnf
  refine ⟨rfl,(show (0:Int)≤i by omega),(show (i:Int)<(os.length:Int) by omega),?_⟩
  conv=>whnf
  refine ⟨rfl,rfl,(by rw [List.length_map]; exact hit),fun q hq => ?_⟩
  obtain rfl:cloD (b,k)=q:=by
   rw [List.getElem?_map,Int.toNat_natCast,ho] at hq
   exact Option.some.inj hq
  clear hq
  cases b with
  | false =>
   conv=>whnf
   refine acall.au [0,1,2] [] (hcall (by omega)) ?_
   intro _
   conv=>whnf
   exact ⟨i+1,[0,1,2],[],Sub.mk' rfl ⟨⟨rfl,rfl⟩,.inl rfl,⟨rfl,rfl⟩,.inl rfl,.inl (ti_succ hit (by omega)),trivial⟩ ⟨aut,⟨rfl,rfl,rfl,by rw [hnx]⟩,aut,trivial⟩ rfl rfl,hit,by show os.length - (i+1)<os.length - i; omega⟩
  | true =>
   conv=>whnf
   refine acall.au [0,1,2] [] (hcall2 (by omega)) ?_
   intro _
   conv=>whnf
   exact ⟨i+1,[0,1,2],[],Sub.mk' rfl ⟨⟨rfl,rfl⟩,.inl rfl,⟨rfl,rfl⟩,.inl rfl,.inl (ti_succ hit (by omega)),trivial⟩ ⟨aut,⟨rfl,rfl,rfl,by rw [hnx]⟩,aut,trivial⟩ rfl rfl,hit,by show os.length - (i+1)<os.length - i; omega⟩
 replace hit:i=os.length:=by have:decide ((i:Int)<(os.length:Int))=false:=hit; have:=of_decide_eq_false this; omega
 subst hit
 rw [List.take_length]
 conv=>whnf
 refine ⟨fun _ => ?_,fun h=>absurd rfl h⟩
 conv=>whnf
 exact aut
end Go.Proofs.YthboippafkcoiaaGreatDoor.am
namespace Go.Proofs.YthboippafkcoiaaGreatDoor.am
open Go Go.Proofs
set_option linter.all false
abbrev stB (c:LowC) (s:LowS) (hn ho:Nat):Blk:=lwB c s.slots s.nodes.length s.opens.length s.over hn ho
abbrev stI (c:LowC) (s:LowS):List Blk:=[stB c s 1 2,ndsB s.nodes,opsB s.opens]
abbrev stO (c:LowC) (s:LowS):List (Option Blk):=[some (stB c s 3 4),none,none,some (ndsB s.nodes),some (opsB s.opens)]
structure OkS (s:LowS):Prop where
 inn : ∀ o ∈ s.opens,o.2<s.nodes.length
 few:s.opens.length≤1000000
theorem slotS_ok {s:LowS} (h:OkS s):OkS (slotS s):=⟨h.inn,h.few⟩
theorem putS_ok {s:LowS} (n:Nd) (h:OkS s):OkS (putS n s):=by
 unfold putS
 cases decide ((s.nodes.length:Int) ≥ 4096) with
 | true=>exact ⟨h.inn,h.few⟩
 | false =>
  refine ⟨fun o ho => ?_,by show 1≤1000000; decide⟩
  have ho:o ∈ [(false,s.nodes.length)]:=ho
  simp only [List.mem_singleton] at ho
  subst ho
  show s.nodes.length<(leadN s.nodes.length s.opens s.nodes++[_]).length
  rw [List.length_append,leadN_len]
  exact Nat.lt_succ_self _
set_option maxRecDepth 100000 in
set_option maxHeartbeats 1000000 in
theorem k_putG (c:LowC) (n:Nd) (s:LowS) (h:OkS s):K 42 [.ptr 0 0,n.av] (stI c s) (.ret (.tr (ti (putI s)))) (stO c (putS n s)):=by
 have hP:putS n s=bif decide ((s.nodes.length:Int) ≥ 4096) then { s with over:=true } else { s with nodes:=leadN s.nodes.length s.opens s.nodes++[{ n with origin:=s.nodes.length }],opens:=[(false,s.nodes.length)] }:=rfl
 have hI:putI s=bif decide ((s.nodes.length:Int) ≥ 4096) then (0:Int) else ((s.nodes.length:Nat):Int):=rfl
 have hld:=k_leadG c s.slots s.over s.nodes.length s.nodes s.opens h.inn h.few
 have hLl:=leadN_len s.nodes.length s.opens s.nodes
 generalize putS n s=S at hP ⊢
 generalize putI s=R at hI ⊢
 obtain ⟨sl,L,os,ov⟩:=s
 simp only at hP hI hld hLl
 generalize leadN L.length os L=L1 at hP hld hLl
 refine Ctr.mv [8] [0,3,4] 5 hT hmix Tryz.func42 rfl (fun _ _=>by kernel_rfl) rfl (fun hok => ?_)
 clear hok
 conv=>whnf
 cases e0:decide (((L.length:Nat):Int) ≥ 4096) with
 | true =>
  rw [e0,cond_true] at hP hI
  subst hP hI
  conv=>whnf
  exact ⟨[0,1,2,3,4],rfl,rfl,.inl rfl,aut,aut,aut,trivial⟩
 | false =>
 rw [e0,cond_false] at hP hI
 subst hP hI
 have hm:=of_decide_eq_false e0
 conv=>whnf
 refine acall.au [0,3,4] [] (hld) ?_
 intro _
 conv=>whnf
 refine CutL.by (fun _:Unit=>⟨[(0,.ptr 0 0),(5,.tr (ti (L.length:Nat)))],[(0,lwN c sl (L.length+1) ov 3),(3,ndsB (L1++[{ n with origin:=L.length }]))],10⟩) (fun _=>True) ?_ ?_
 ·conv=>whnf
  refine ⟨rfl,rfl,rfl,(by rw [List.length_map]; omega),(show (L.length+1)*96≤150000000000000 by omega),fun q hq => ?_,?_⟩
  ·cases hq with
   | head=>exact Nat.ne_of_beq_eq_false rfl
   | tail _ h =>
    first
    | (cases h; done)
    | (cases h with
     | head=>exact Nat.ne_of_beq_eq_false rfl
     | tail _ h=>cases h)
  conv=>whnf
  refine ⟨by kernel_rfl,fun _ => ?_⟩
  conv=>whnf
  have hda:(L1.map Nd.cells).take L.length++[({ n with origin:=L.length }:Nd).cells]=(L1++[{ n with origin:=L.length }]).map Nd.cells:=by
   rw [List.take_of_length_le (by rw [List.length_map]; omega),List.map_append]; rfl
  exact ⟨(),[0,1,2,_],[],Sub.mk' rfl ⟨⟨rfl,rfl⟩,.inl rfl,trivial⟩ ⟨⟨rfl,.inl rfl,.inl rfl,.inl rfl,.inl rfl,.inl rfl,.inl rfl,.inl rfl,⟨rfl,rfl⟩,.inl rfl,.inl rfl,trivial⟩,⟨rfl,rfl,rfl,hda⟩,trivial⟩ rfl rfl,trivial⟩
 rintro - - -
 conv=>whnf
 refine acall.au [0,3] [] (k_nextGN c sl (L.length+1) L.length ov (L1++[{ n with origin:=L.length }])) ?_
 intro _
 conv=>whnf
 have hl2:(L1++[({ n with origin:=(L.length:Nat) }:Nd)]).length=L.length+1:=by rw [List.length_append,hLl]; rfl
 exact ⟨[0,1,2,3,14],rfl,rfl,.inl rfl,⟨rfl,.inl rfl,.inl rfl,.inl rfl,.inl rfl,.inl rfl,.inl rfl,.inl rfl,⟨rfl,hl2.symm⟩,⟨rfl,rfl⟩,.inl rfl,trivial⟩,aut,aut,trivial⟩
end Go.Proofs.YthboippafkcoiaaGreatDoor.am
namespace Go.Proofs.YthboippafkcoiaaGreatDoor.am
open Go Go.Proofs
set_option linter.all false
mutual
def wfE:Expr→Bool
 | .mk kind op _ _ kids _=>(kind == 1 || kind == 2 || (bif two op then decide (2≤kids.length) else decide (1≤kids.length))) && wfEs kids
def wfEs:List Expr→Bool
 | []=>true
 | e::l=>wfE e && wfEs l
end
mutual
theorem exprS_ok (c:LowC) : ∀ (e:Expr) (s:LowS),OkS s→OkS (exprS c e s).1
 | .mk kind op word name kids _,s,h=>by
  have h0:=kid0S_ok c kids s h
  have h1:=kid1S_ok c kids _ h0
  unfold exprS
  cases kind == 1 with
  | true=>exact h
  | false =>
  cases kind == 2 with
  | true =>
   cases decide (localI c.p c.t name ≥ 0) with
   | true=>exact h
   | false=>exact putS_ok _ (slotS_ok h)
  | false =>
  cases two op with
  | true=>exact putS_ok _ (slotS_ok h1)
  | false=>exact putS_ok _ (slotS_ok h0)
theorem kid0S_ok (c:LowC) : ∀ (l:List Expr) (s:LowS),OkS s→OkS (kid0S c l s).1
 | [],s,h=>by unfold kid0S; exact h
 | e::_,s,h=>by unfold kid0S; exact exprS_ok c e s h
theorem kid1S_ok (c:LowC) : ∀ (l:List Expr) (s:LowS),OkS s→OkS (kid1S c l s).1
 | [],s,h=>by unfold kid1S; exact h
 | _::r,s,h=>by unfold kid1S; exact kid0S_ok c r s h
end
abbrev vA (v:Val):AV := .agg [.tr (tb v.s),.tr (ti v.k),.tr (ti v.w)]
theorem k_inV (k:Int):K 135 [.tr (ti k)] [] (.ret (vA (inV k))) []:=k_in k
set_option maxRecDepth 100000 in
set_option maxHeartbeats 2000000 in
theorem k_valueG (c:LowC) : ∀ (n:Nat) (e:Expr) (s:LowS),SizeOf.sizeOf e<n→wfE e=true→OkS s→K 131 [.ptr 0 0,e.av] (stI c s) (.ret (vA (exprS c e s).2)) (stO c (exprS c e s).1):=by
 intro n
 induction n with
 | zero=>intro e s h; omega
 | succ n ih =>
 intro e s hsz hwf hS
 obtain ⟨kind,op,word,name,kids,at_⟩:=e
 simp only [Expr.mk.sizeOf_spec] at hsz
 have hloc:=k20 c.p (c.t:Nat) name
 have hsh:=k16 c.p name
 have hE:exprS c (.mk kind op word name kids at_) s=bif kind == 1 then (s,⟨false,0,word⟩)
  else bif kind == 2 then (bif decide (localI c.p c.t name ≥ 0) then (s,inV (localI c.p c.t name))
   else (putS { nd00 with kind:=2,thing:=findI c.p.shared name 0,slot:=slotI s } (slotS s),inV (slotI s)))
  else bif two op then (putS { nd00 with kind:=1,op:=op,a:=(kid0S c kids s).2,b:=(kid1S c kids (kid0S c kids s).1).2,slot:=slotI (kid1S c kids (kid0S c kids s).1).1 } (slotS (kid1S c kids (kid0S c kids s).1).1),inV (slotI (kid1S c kids (kid0S c kids s).1).1))
  else (putS { nd00 with kind:=1,op:=op,a:=(kid0S c kids s).2,slot:=slotI (kid0S c kids s).1 } (slotS (kid0S c kids s).1),inV (slotI (kid0S c kids s).1)):=by rw [exprS]
 generalize exprS c (.mk kind op word name kids at_) s=R at hE ⊢
 unfold wfE at hwf
 rw [Bool.and_eq_true] at hwf
 refine Ctr.mv [9,10,11,12,14,16] [0,3,4] 5 hT hmix Tryz.func131 rfl (fun _ _=>by kernel_rfl) rfl (fun hok => ?_)
 clear hok
 conv=>whnf
 refine CutL.by (fun _:Unit=>⟨[(0,.ptr 0 0),(3,.ptr 5 0),(4,.ptr 6 0)],[(0,stB c s 3 4),(3,ndsB s.nodes),(4,opsB s.opens),(5,.cells 143 ((Expr.mk kind op word name kids at_).cells.map .tr)),(6,.cells 73 [.tr (tb false),.tr (ti 0),.tr (ti 0)])],20⟩) (fun _=>(kind == 1)=false∧(kind == 2)=false) ?_ ?_
 ·conv=>whnf
  cases h1:(kind == 1) with
  | true =>
   rw [h1,cond_true] at hE
   subst hE
   conv=>whnf
   exact ⟨[0,1,2,3,4],rfl,rfl,aut,aut,aut,aut,trivial⟩
  | false =>
  rw [h1,cond_false] at hE
  conv=>whnf
  cases h2:(kind == 2) with
  | true =>
   rw [h2,cond_true] at hE
   generalize localI c.p (c.t:Nat) name=LI at hloc hE
   generalize findI c.p.shared name 0=FI at hsh hE
   conv=>whnf
   refine acall.pure _ (hloc) rfl rfl ?_
   conv=>whnf
   refine ⟨by kernel_rfl,fun _ => ?_⟩
   conv=>whnf
   cases h3:decide (LI ≥ 0) with
   | true =>
    rw [h3,cond_true] at hE
    subst hE
    conv=>whnf
    refine acall.pure _ (k_inV LI) rfl rfl fun _ => ?_
    conv=>whnf
    exact ⟨[0,1,2,3,4],rfl,rfl,aut,aut,aut,aut,trivial⟩
   | false =>
   rw [h3,cond_false] at hE
   subst hE
   conv=>whnf
   refine CutL.by (fun _:Unit=>⟨[(0,.ptr 0 0),(3,.ptr 5 0),(4,.ptr 6 0),(6,.ptr 7 0)],[(0,stB c (slotS s) 3 4),(3,ndsB (slotS s).nodes),(4,opsB (slotS s).opens),(5,.cells 143 ((Expr.mk kind op word name kids at_).cells.map .tr)),(6,.cells 73 [.tr (tb false),.tr (ti 0),.tr (ti 0)]),(7,.cells 75 (({ nd00 with kind:=2,thing:=FI,slot:=slotI s }:Nd).cells.map .tr))],20⟩) (fun _=>True) ?_ ?_
   ·conv=>whnf
    refine acall.pure _ (hsh) rfl rfl ?_
    conv=>whnf
    refine acall.au [0,3,4] [] (k_slotG c s) ?_
    conv=>whnf
    refine ⟨by kernel_rfl,fun _ => ?_⟩
    conv=>whnf
    exact ⟨(),[0,1,2,3,4,5,6,_],[],Sub.aw,trivial⟩
   rintro - - -
   conv=>whnf
   refine CutL.by (fun _:Unit=>⟨[(0,.ptr 0 0),(3,.ptr 5 0),(4,.ptr 6 0),(6,.ptr 7 0)],[(0,stB c (putS { nd00 with kind:=2,thing:=FI,slot:=slotI s } (slotS s)) 3 4),(3,ndsB (putS { nd00 with kind:=2,thing:=FI,slot:=slotI s } (slotS s)).nodes),(4,opsB (putS { nd00 with kind:=2,thing:=FI,slot:=slotI s } (slotS s)).opens),(5,.cells 143 ((Expr.mk kind op word name kids at_).cells.map .tr)),(6,.cells 73 [.tr (tb false),.tr (ti 0),.tr (ti 0)]),(7,.cells 75 (({ nd00 with kind:=2,thing:=FI,slot:=slotI s }:Nd).cells.map .tr))],20⟩) (fun _=>True) ?_ ?_
   ·have hp:=k_putG c { nd00 with kind:=2,thing:=FI,slot:=slotI s } (slotS s) (slotS_ok hS)
    generalize putS { nd00 with kind:=2,thing:=FI,slot:=slotI s } (slotS s)=S2 at hp ⊢
    conv=>whnf
    refine acall.new [0,3,4] [] _ _ _ _ (hp) rfl rfl rfl rfl aut aut rfl rfl ?_
    conv=>whnf
    intro _
    conv=>whnf
    exact ⟨(),[0,1,2,_,_,5,6,7],[],Sub.aw,trivial⟩
   rintro - - -
   generalize putS { nd00 with kind:=2,thing:=FI,slot:=slotI s } (slotS s)=S2
   conv=>whnf
   refine acall.pure _ (k_inV (slotI s)) rfl rfl fun _ => ?_
   conv=>whnf
   exact ⟨[0,1,2,3,4],rfl,rfl,aut,aut,aut,aut,trivial⟩
  | false =>
   conv=>whnf
   exact ⟨(),[0,1,2,3,4,5,6],[],Sub.mk' rfl aut aut rfl rfl,rfl,rfl⟩
 rintro - ⟨h1,h2⟩ -
 rw [h1,cond_false] at hE
 rw [h2,cond_false] at hE
 have hkl:1≤kids.length∧(two op=true→2≤kids.length):=by
  have:=hwf.1
  rw [h1,h2] at this
  cases ht:two op with
  | true=>rw [ht] at this; have:=of_decide_eq_true (show decide (2≤kids.length)=true by simpa using this); exact ⟨by omega,fun _=>this⟩
  | false=>rw [ht] at this; have:=of_decide_eq_true (show decide (1≤kids.length)=true by simpa using this); exact ⟨this,fun h=>by cases h⟩
 obtain ⟨k0,kr,rfl⟩ : ∃ k0 kr,kids=k0::kr:=by
  cases kids with
  | nil=>exact absurd hkl.1 (by simp)
  | cons a r=>exact ⟨a,r,rfl⟩
 have hw0:wfE k0=true∧wfEs kr=true:=by have:=hwf.2; unfold wfEs at this; rw [Bool.and_eq_true] at this; exact this
 simp only [List.cons.sizeOf_spec] at hsz
 have hv0:=ih k0 s (by omega) hw0.1 hS
 have hA:kid0S c (k0::kr) s=exprS c k0 s:=by rw [kid0S]
 have hSA:=exprS_ok c k0 s hS
 have hB : ∀ s,kid1S c (k0::kr) s=kid0S c kr s:=fun s=>by rw [kid1S]
 rw [hA] at hE
 simp only [hB] at hE
 generalize exprS c k0 s=A at hE hv0 hSA
 have htw:=k_two op
 clear hA hB
 conv=>whnf
 refine CutL.by (fun _:Unit=>⟨[(0,.ptr 0 0),(3,.ptr 5 0),(4,.ptr 6 0),(7,.ptr 7 0)],[(0,stB c (A.1) 3 4),(3,ndsB (A.1).nodes),(4,opsB (A.1).opens),(5,.cells 143 ((Expr.mk kind op word name (k0::kr) at_).cells.map .tr)),(6,.cells 73 [.tr (tb false),.tr (ti 0),.tr (ti 0)]),(7,.cells 75 (({ nd00 with kind:=1,op:=op,a:=A.2 }:Nd).cells.map .tr))],20⟩) (fun _=>True) ?_ ?_
 ·obtain ⟨q1,q2,q3,q4,q5,q6⟩:=k0
  conv=>whnf
  refine ⟨rfl,Int.le_refl 0,(show (0:Int)<((Expr.rows (Expr.mk q1 q2 q3 q4 q5 q6::kr)).length:Int) by rw [erows_len,List.length_cons]; omega),fun row hrow => ?_⟩
  obtain rfl:Expr.cells (.mk q1 q2 q3 q4 q5 q6)=row:=Option.some.inj hrow
  clear hrow
  conv=>whnf
  refine acall.new [0,3,4] [] _ _ _ _ (hv0) rfl rfl rfl rfl aut aut rfl rfl ?_
  conv=>whnf
  refine ⟨by kernel_rfl,fun _ => ?_⟩
  conv=>whnf
  exact ⟨(),[0,1,2,_,_,5,6,_],[],Sub.aw,trivial⟩
 rintro - - -
 conv=>whnf
 refine CutL.by (fun _:Unit=>⟨[(0,.ptr 0 0),(3,.ptr 5 0),(4,.ptr 6 0),(7,.ptr 7 0)],[(0,stB c (bif two op then (kid0S c kr A.1).1 else A.1) 3 4),(3,ndsB (bif two op then (kid0S c kr A.1).1 else A.1).nodes),(4,opsB (bif two op then (kid0S c kr A.1).1 else A.1).opens),(5,.cells 143 ((Expr.mk kind op word name (k0::kr) at_).cells.map .tr)),(6,.cells 73 [.tr (tb false),.tr (ti 0),.tr (ti 0)]),(7,.cells 75 (({ nd00 with kind:=1,op:=op,a:=A.2,b:=bif two op then (kid0S c kr A.1).2 else v00 }:Nd).cells.map .tr))],20⟩) (fun _=>True) ?_ ?_
 ·conv=>whnf
  refine acall.pure _ (htw) rfl rfl fun _ => ?_
  conv=>whnf
  cases ht:two op with
  | false =>
   conv=>whnf
   exact ⟨(),[0,1,2,3,4,5,6,7],[],Sub.mk' rfl aut aut rfl rfl,trivial⟩
  | true =>
  obtain ⟨k1,kr,rfl⟩ : ∃ k0 kr',kr=k0::kr':=by
   have:=hkl.2 ht
   cases kr with
   | nil=>simp at this
   | cons a r=>exact ⟨a,r,rfl⟩
  have hw1:wfE k1=true:=by have:=hw0.2; unfold wfEs at this; rw [Bool.and_eq_true] at this; exact this.1
  simp only [List.cons.sizeOf_spec] at hsz
  have hv1:=ih k1 A.1 (by omega) hw1 hSA
  have hA1:kid0S c (k1::kr) A.1=exprS c k1 A.1:=by rw [kid0S]
  rw [hA1]
  generalize exprS c k1 A.1=B at hv1 ⊢
  obtain ⟨q1,q2,q3,q4,q5,q6⟩:=k1
  conv=>whnf
  refine ⟨rfl,(show (0:Int)≤1 by decide),(show (1:Int)<((Expr.rows (k0::Expr.mk q1 q2 q3 q4 q5 q6::kr)).length:Int) by rw [erows_len,List.length_cons,List.length_cons]; omega),fun row hrow => ?_⟩
  obtain rfl:Expr.cells (.mk q1 q2 q3 q4 q5 q6)=row:=Option.some.inj hrow
  clear hrow
  conv=>whnf
  refine acall.new [0,3,4] [] _ _ _ _ (hv1) rfl rfl rfl rfl aut aut rfl rfl ?_
  conv=>whnf
  intro _
  conv=>whnf
  exact ⟨(),[0,1,2,_,_,5,6,7],[],Sub.aw,trivial⟩
 rintro - - -
 have hS2:OkS (bif two op then (kid0S c kr A.1).1 else A.1):=by
  cases two op with
  | true=>exact kid0S_ok c kr _ hSA
  | false=>exact hSA
 have hR:R=(putS { nd00 with kind:=1,op:=op,a:=A.2,b:=bif two op then (kid0S c kr A.1).2 else v00,slot:=slotI (bif two op then (kid0S c kr A.1).1 else A.1) } (slotS (bif two op then (kid0S c kr A.1).1 else A.1)),inV (slotI (bif two op then (kid0S c kr A.1).1 else A.1))):=by
  rw [hE]
  cases two op <;> rfl
 generalize (bif two op then (kid0S c kr A.1).1 else A.1)=S1 at hR hS2 ⊢
 generalize (bif two op then (kid0S c kr A.1).2 else v00)=B2 at hR ⊢
 clear hE hv0
 subst hR
 have hp:=k_putG c { nd00 with kind:=1,op:=op,a:=A.2,b:=B2,slot:=slotI S1 } (slotS S1) (slotS_ok hS2)
 generalize putS { nd00 with kind:=1,op:=op,a:=A.2,b:=B2,slot:=slotI S1 } (slotS S1)=S3 at hp ⊢
 conv=>whnf
 refine acall.au [0,3,4] [] (k_slotG c S1) ?_
 intro _
 conv=>whnf
 refine CutL.by (fun _:Unit=>⟨[(0,.ptr 0 0),(3,.ptr 5 0),(4,.ptr 6 0),(7,.ptr 7 0)],[(0,stB c (S3) 3 4),(3,ndsB (S3).nodes),(4,opsB (S3).opens),(5,.cells 143 ((Expr.mk kind op word name (k0::kr) at_).cells.map .tr)),(6,.cells 73 [.tr (tb false),.tr (ti 0),.tr (ti 0)]),(7,.cells 75 (({ nd00 with kind:=1,op:=op,a:=A.2,b:=B2,slot:=slotI S1 }:Nd).cells.map .tr))],20⟩) (fun _=>True) ?_ ?_
 ·conv=>whnf
  refine acall.new [0,3,4] [] _ _ _ _ (hp) rfl rfl rfl rfl aut aut rfl rfl ?_
  conv=>whnf
  intro _
  conv=>whnf
  exact ⟨(),[0,1,2,_,_,5,6,7],[],Sub.aw,trivial⟩
 rintro - - -
 conv=>whnf
 refine acall.pure _ (k_inV (slotI S1)) rfl rfl fun _ => ?_
 conv=>whnf
 exact ⟨[0,1,2,3,4],rfl,rfl,aut,aut,aut,aut,trivial⟩
end Go.Proofs.YthboippafkcoiaaGreatDoor.am
namespace Go.Proofs.YthboippafkcoiaaGreatDoor.am
open Go Go.Proofs
set_option linter.all false
def ov (b:Bool):Nat:=match b with | true=>1 | false=>0
def innS (s:LowS):Prop := ∀ o ∈ s.opens,o.2<s.nodes.length
structure RelE (s s':LowS):Prop where
 nodes:s.nodes.length≤s'.nodes.length
 cap:s.nodes.length≤4096→s'.nodes.length≤4096
 over:ov s.over≤ov s'.over
 opens:s'.opens.length+s.nodes.length≤s.opens.length+(1 - s.opens.length)+s'.nodes.length
 inn:innS s→innS s'
structure RelS (s s':LowS):Prop where
 nodes:s.nodes.length≤s'.nodes.length
 cap:s.nodes.length≤4096→s'.nodes.length≤4096
 over:ov s.over≤ov s'.over
 opens:s'.opens.length+s.nodes.length+ov s.over≤s.opens.length+(1 - s.opens.length)+s'.nodes.length+ov s'.over
 inn:innS s→innS s'
theorem RelE.refl (s:LowS):RelE s s:=⟨Nat.le_refl _,id,Nat.le_refl _,by omega,id⟩
theorem RelE.trans {a b c:LowS} (h:RelE a b) (k:RelE b c):RelE a c:=by
 refine ⟨Nat.le_trans h.nodes k.nodes,fun q=>k.cap (h.cap q),Nat.le_trans h.over k.over,?_,fun q=>k.inn (h.inn q)⟩
 have:=h.nodes; have:=k.nodes; have:=h.opens; have:=k.opens
 omega
theorem RelE.toS {a b:LowS} (h:RelE a b):RelS a b:=by
 refine ⟨h.nodes,h.cap,h.over,?_,h.inn⟩
 have:=h.over; have:=h.opens
 omega
theorem RelS.refl (s:LowS):RelS s s:=(RelE.refl s).toS
theorem RelS.trans {a b c:LowS} (h:RelS a b) (k:RelS b c):RelS a c:=by
 refine ⟨Nat.le_trans h.nodes k.nodes,fun q=>k.cap (h.cap q),Nat.le_trans h.over k.over,?_,fun q=>k.inn (h.inn q)⟩
 have:=h.nodes; have:=k.nodes; have:=h.opens; have:=k.opens; have:=h.over; have:=k.over
 omega
theorem slotS_rel (s:LowS):RelE s (slotS s):=⟨Nat.le_refl _,id,Nat.le_refl _,by show s.opens.length+s.nodes.length≤_+s.nodes.length; omega,id⟩
theorem putS_big {s:LowS} (n:Nd) (h:decide ((s.nodes.length:Int) ≥ 4096)=true):putS n s = { s with over:=true }:=by unfold putS; rw [h]; rfl
theorem putS_small {s:LowS} (n:Nd) (h:decide ((s.nodes.length:Int) ≥ 4096)=false):putS n s = { s with nodes:=leadN s.nodes.length s.opens s.nodes++[{ n with origin:=s.nodes.length }],opens:=[(false,s.nodes.length)] }:=by unfold putS; rw [h]; rfl
theorem putS_len {s:LowS} (n:Nd) (h:decide ((s.nodes.length:Int) ≥ 4096)=false):(putS n s).nodes.length=s.nodes.length+1:=by
 rw [putS_small n h]
 show (leadN s.nodes.length s.opens s.nodes++[_]).length=_
 rw [List.length_append,leadN_len]; rfl
theorem putS_rel (n:Nd) (s:LowS):RelE s (putS n s):=by
 cases h:decide ((s.nodes.length:Int) ≥ 4096) with
 | true =>
  rw [putS_big n h]
  refine ⟨Nat.le_refl _,id,?_,by show s.opens.length+s.nodes.length≤_+s.nodes.length; omega,id⟩
  show ov s.over≤1
  cases s.over <;> decide
 | false =>
  have hl:=putS_len n h
  have hlt:=of_decide_eq_false h
  refine ⟨by omega,fun _=>by omega,?_,?_,fun hi => ?_⟩
  ·rw [putS_small n h]; exact Nat.le_refl _
  ·have:(putS n s).opens.length=1:=by rw [putS_small n h]; rfl
   omega
  ·intro o ho
   have ho:o ∈ (putS n s).opens:=ho
   have e:(putS n s).opens=[(false,s.nodes.length)]:=by rw [putS_small n h]
   rw [e,List.mem_singleton] at ho
   subst ho
   rw [hl]
   exact Nat.lt_succ_self _
mutual
theorem exprS_rel (c:LowC) : ∀ (e:Expr) (s:LowS),RelE s (exprS c e s).1
 | .mk kind op word name kids _,s=>by
  have h0:=kid0S_rel c kids s
  have h1:=kid1S_rel c kids (kid0S c kids s).1
  unfold exprS
  cases kind == 1 with
  | true=>exact .refl s
  | false =>
  cases kind == 2 with
  | true =>
   cases decide (localI c.p c.t name ≥ 0) with
   | true=>exact .refl s
   | false=>exact (slotS_rel s).trans (putS_rel _ _)
  | false =>
  cases two op with
  | true=>exact h0.trans (h1.trans ((slotS_rel _).trans (putS_rel _ _)))
  | false=>exact h0.trans ((slotS_rel _).trans (putS_rel _ _))
theorem kid0S_rel (c:LowC) : ∀ (l:List Expr) (s:LowS),RelE s (kid0S c l s).1
 | [],s=>by unfold kid0S; exact .refl s
 | e::_,s=>by unfold kid0S; exact exprS_rel c e s
theorem kid1S_rel (c:LowC) : ∀ (l:List Expr) (s:LowS),RelE s (kid1S c l s).1
 | [],s=>by unfold kid1S; exact .refl s
 | _::r,s=>by unfold kid1S; exact kid0S_rel c r s
end
theorem giveS_rel (c:LowC) (name:ByteArray) (v:Val) (s:LowS):RelE s (giveS c name v s):=by
 unfold giveS
 cases decide (localI c.p c.t name ≥ 0) <;> exact putS_rel _ _
theorem swapS_rel (c:LowC) (name other:ByteArray) (v:Val) (s:LowS):RelE s (swapS c name other v s):=by
 unfold swapS
 cases decide (localI c.p c.t name ≥ 0) with
 | true=>exact putS_rel _ _
 | false=>exact (slotS_rel s).trans ((putS_rel _ _).trans (giveS_rel c _ _ _))
theorem blockS_over (c:LowC) (l:List Stmt) {s:LowS} (h:s.over=true):blockS c l s=s:=by
 cases l with
 | nil=>rw [blockS]
 | cons x r=>rw [blockS,h]; rfl
theorem putI_in {s s3:LowS} (n:Nd) (h:RelS (putS n s) s3):(putI s).toNat<s3.nodes.length:=by
 unfold putI
 cases hb:decide ((s.nodes.length:Int) ≥ 4096) with
 | true =>
  have:=of_decide_eq_true hb
  have h1:=h.nodes
  rw [putS_big n hb] at h1
  have h1:s.nodes.length≤s3.nodes.length:=h1
  show 0<s3.nodes.length
  omega
 | false =>
  have h1:=h.nodes
  rw [putS_len n hb] at h1
  show ((s.nodes.length:Int)).toNat<_
  rw [Int.toNat_natCast]
  omega
theorem cond_rel {s s1 s2 s3 s5:LowS} (n:Nd) (ho:s.over=false) (h1:RelE s s1) (h2:s2=putS n s1) (h3:RelS s2 s3) (h3o:s2.over=true→s3=s2) (h5:RelS (openS [(true,(putI s1).toNat)] s3) s5) (h5o:s3.over=true→s5=openS [(true,(putI s1).toNat)] s3):RelS s (openS (s3.opens++s5.opens) s5):=by
 have hp:=putS_rel n s1
 rw [← h2] at hp
 have hb:(putI s1).toNat<s3.nodes.length:=putI_in n (by rw [← h2]; exact h3)
 have hn5:s3.nodes.length≤s5.nodes.length:=h5.nodes
 have hin3:innS s→innS s3:=fun q=>h3.inn (hp.inn (h1.inn q))
 refine ⟨?_,fun q => ?_,?_,?_,fun q => ?_⟩
 ·have:=h1.nodes; have:=hp.nodes; have:=h3.nodes
  show s.nodes.length≤s5.nodes.length
  omega
 ·exact h5.cap (h3.cap (hp.cap (h1.cap q)))
 ·exact Nat.le_trans h1.over (Nat.le_trans hp.over (Nat.le_trans h3.over h5.over))
 ·show (s3.opens++s5.opens).length+s.nodes.length+ov s.over≤s.opens.length+(1 - s.opens.length)+s5.nodes.length+ov s5.over
  rw [List.length_append]
  have o5:s5.opens.length+s3.nodes.length+ov s3.over≤1+s5.nodes.length+ov s5.over:=h5.opens
  have e0:ov s.over=0:=by rw [ho]; rfl
  have n1:=h1.nodes
  have o1:=h1.opens
  cases hbig:decide ((s1.nodes.length:Int) ≥ 4096) with
  | true =>
   have e2:s2 = { s1 with over:=true }:=by rw [h2,putS_big n hbig]
   have e3:s3=s2:=h3o (by rw [e2])
   have e5:=h5o (by rw [e3,e2])
   subst e5
   rw [e3,e2]
   show s1.opens.length+1+s.nodes.length+ov s.over≤s.opens.length+(1 - s.opens.length)+s1.nodes.length+1
   omega
  | false =>
   have l2:s2.nodes.length=s1.nodes.length+1:=by rw [h2,putS_len n hbig]
   have p2:s2.opens.length=1:=by rw [h2,putS_small n hbig]; rfl
   have o3:=h3.opens
   have n3:=h3.nodes
   rw [p2] at o3
   omega
 ·intro o hm
  have hm:o ∈ s3.opens++s5.opens:=hm
  show o.2<s5.nodes.length
  rcases List.mem_append.1 hm with hm | hm
  ·exact Nat.lt_of_lt_of_le (hin3 q o hm) hn5
  ·refine h5.inn (fun o' ho' => ?_) o hm
   have ho':o' ∈ [(true,(putI s1).toNat)]:=ho'
   rw [List.mem_singleton] at ho'
   subst ho'
   exact hb
theorem loop_rel {s s1 s2 s3:LowS} (n:Nd) (h1:RelE s s1) (h2:s2=putS n s1) (h3:RelS s2 s3) (hov:s3.over=false) (to:Int):RelS s { s3 with nodes:=leadN to s3.opens s3.nodes,opens:=[(true,(putI s1).toNat)] }:=by
 have hp:=putS_rel n s1
 rw [← h2] at hp
 have hb:(putI s1).toNat<s3.nodes.length:=putI_in n (by rw [← h2]; exact h3)
 have hl:=leadN_len to s3.opens s3.nodes
 have hm:=h1.toS.trans (hp.toS.trans h3)
 refine ⟨?_,fun q => ?_,hm.over,?_,fun q => ?_⟩
 ·show s.nodes.length≤(leadN to s3.opens s3.nodes).length
  rw [hl]; exact hm.nodes
 ·show (leadN to s3.opens s3.nodes).length≤4096
  rw [hl]; exact hm.cap q
 ·show 1+s.nodes.length+ov s.over≤s.opens.length+(1 - s.opens.length)+(leadN to s3.opens s3.nodes).length+ov s3.over
  rw [hl]
  have:=hm.over; have:=hm.nodes
  omega
 ·intro o ho
  have ho:o ∈ [(true,(putI s1).toNat)]:=ho
  rw [List.mem_singleton] at ho
  subst ho
  show _<(leadN to s3.opens s3.nodes).length
  rw [hl]; exact hb
mutual
theorem stmtS_rel (c:LowC) : ∀ (x:Stmt) (s:LowS),s.over=false→RelS s (stmtS c x s)
 | .mk kind name other e body els _,s,ho=>by
  have h0:=kid0S_rel c e s
  have hb:=fun s=>blockS_rel c body s
  have hl:=fun s=>blockS_rel c els s
  unfold stmtS
  cases kind == 1 with
  | true=>exact (h0.trans (giveS_rel c _ _ _)).toS
  | false =>
  cases kind == 2 with
  | true=>exact (h0.trans (swapS_rel c _ _ _ _)).toS
  | false =>
  cases kind == 3 with
  | true=>exact cond_rel _ ho h0 rfl (hb _) (fun q=>blockS_over c body q) (hl _) (fun q=>blockS_over c els q)
  | false =>
  cases kind == 4 with
  | true =>
   cases hv:(blockS c body (putS { nd00 with kind:=8,a:=(kid0S c e s).2 } (kid0S c e s).1)).over with
   | true=>exact h0.toS.trans ((putS_rel _ _).toS.trans (hb _))
   | false=>exact loop_rel _ h0 rfl (hb _) hv _
  | false =>
  cases kind == 5 with
  | true=>exact (putS_rel _ _).toS.trans ((hb _).trans (putS_rel _ _).toS)
  | false =>
  cases kind == 6 with
  | true=>exact (h0.trans (putS_rel _ _)).toS
  | false=>exact .refl s
theorem blockS_rel (c:LowC) : ∀ (l:List Stmt) (s:LowS),RelS s (blockS c l s)
 | [],s=>by unfold blockS; exact .refl s
 | x::r,s=>by
  unfold blockS
  cases h:s.over with
  | true=>exact .refl s
  | false=>exact (stmtS_rel c x s h).trans (blockS_rel c r _)
end
structure OkA (s:LowS):Prop where
 inn:innS s
 cap:s.nodes.length≤4096
 bnd:s.opens.length≤1+s.nodes.length+ov s.over
theorem ov_le (b:Bool):ov b≤1:=by cases b <;> decide
theorem OkA.ok {s:LowS} (h:OkA s):OkS s:=⟨h.inn,by have:=h.cap; have:=h.bnd; have:=ov_le s.over; omega⟩
theorem OkA.rel {s s':LowS} (h:OkA s) (k:RelS s s'):OkA s':=by
 refine ⟨k.inn h.inn,k.cap h.cap,?_⟩
 have:=h.bnd; have:=k.opens; have:=k.over; have:=k.nodes
 omega
theorem OkA.relE {s s':LowS} (h:OkA s) (k:RelE s s'):OkA s':=h.rel k.toS
mutual
def wfS:Stmt→Bool
 | .mk kind _ _ e body els _=>(decide (1≤kind) && decide (kind≤7)) && (kind == 5 || kind == 7 || decide (1≤e.length)) && wfEs e && wfSs body && wfSs els
def wfSs:List Stmt→Bool
 | []=>true
 | x::r=>wfS x && wfSs r
end
end Go.Proofs.YthboippafkcoiaaGreatDoor.am
namespace Go.Proofs.YthboippafkcoiaaGreatDoor.am
open Go Go.Proofs
set_option linter.all false
def KBlk (c:LowC) (l:List Stmt):Prop := ∀ s,OkA s→K 41 [.ptr 0 0,.tr (stmtsT l)] (stI c s) (.ret (.tup [])) (stO c (blockS c l s))
theorem k_valG (c:LowC) (e:Expr) (s:LowS) (hw:wfE e=true) (h:OkA s):K 131 [.ptr 0 0,e.av] (stI c s) (.ret (vA (exprS c e s).2)) (stO c (exprS c e s).1):=k_valueG c _ e s (Nat.lt_succ_self _) hw h.ok
set_option maxRecDepth 100000 in
theorem k_giveG (c:LowC) (name:ByteArray) (v:Val) (s:LowS) (h:OkA s):K 130 [.ptr 0 0,.tr (ts name),vA v] (stI c s) (.ret (.tup [])) (stO c (giveS c name v s)):=by
 have hloc:=k20 c.p (c.t:Nat) name
 have hsh:=k16 c.p name
 have hE:giveS c name v s=bif decide (localI c.p c.t name ≥ 0) then putS { nd00 with kind:=1,slot:=localI c.p c.t name,a:=v } s else putS { nd00 with kind:=3,thing:=findI c.p.shared name 0,a:=v } s:=rfl
 generalize giveS c name v s=R at hE ⊢
 generalize localI c.p (c.t:Nat) name=LI at hloc hE
 generalize findI c.p.shared name 0=FI at hsh hE
 refine Ctr.mv [2,4] [0,3,4] 5 hT hmix Tryz.func130 rfl (fun _ _=>by kernel_rfl) rfl (fun hok => ?_)
 clear hok
 conv=>whnf
 refine CutL.by (fun _:Unit=>⟨[(0,.ptr 0 0),(1,.tr (ts name)),(5,.ptr 5 0)],[(0,stB c (s) 3 4),(3,ndsB (s).nodes),(4,opsB (s).opens),(5,.cells 73 [.tr (tb v.s),.tr (ti v.k),.tr (ti v.w)])],20⟩) (fun _=>decide (LI ≥ 0)=false) ?_ ?_
 ·refine CutL.by (fun _:Unit=>⟨[(0,.ptr 0 0),(1,.tr (ts name)),(5,.ptr 5 0),(6,.tr (ti LI))],[(0,stB c (s) 3 4),(3,ndsB (s).nodes),(4,opsB (s).opens),(5,.cells 73 [.tr (tb v.s),.tr (ti v.k),.tr (ti v.w)])],20⟩) (fun _=>True) ?_ ?_
  ·conv=>whnf
   refine acall.pure _ (hloc) rfl rfl ?_
   conv=>whnf
   refine ⟨by kernel_rfl,fun _ => ?_⟩
   conv=>whnf
   exact ⟨(),[0,1,2,3,4,5],[],Sub.mk' rfl aut aut rfl rfl,trivial⟩
  rintro - - -
  conv=>whnf
  cases h3:decide (LI ≥ 0) with
  | true =>
   rw [h3,cond_true] at hE
   have hp:=k_putG c { nd00 with kind:=1,slot:=LI,a:=v } s h.ok
   rw [← hE] at hp
   clear hE
   conv=>whnf
   refine acall.new [0,3,4] [] _ _ _ _ (hp) rfl rfl rfl rfl aut aut rfl rfl ?_
   conv=>whnf
   intro _
   conv=>whnf
   exact ⟨[0,1,2,_,_],rfl,rfl,trivial,⟨rfl,.inl rfl,.inl rfl,.inl rfl,.inl rfl,.inl rfl,.inl rfl,.inl rfl,⟨rfl,rfl⟩,⟨rfl,rfl⟩,.inl rfl,trivial⟩,⟨rfl,rfl,rfl,rfl⟩,⟨rfl,rfl,rfl,rfl⟩,trivial⟩
  | false =>
   conv=>whnf
   exact ⟨(),[0,1,2,3,4,5],[],Sub.mk' rfl aut aut rfl rfl,rfl⟩
 rintro - h3 -
 rw [h3,cond_false] at hE
 have hp:=k_putG c { nd00 with kind:=3,thing:=FI,a:=v } s h.ok
 rw [← hE] at hp
 clear hE
 conv=>whnf
 refine acall.pure _ (hsh) rfl rfl ?_
 conv=>whnf
 refine acall.new [0,3,4] [] _ _ _ _ (hp) rfl rfl rfl rfl aut aut rfl rfl ?_
 conv=>whnf
 refine ⟨by kernel_rfl,fun _ => ?_⟩
 conv=>whnf
 exact ⟨[0,1,2,_,_],rfl,rfl,trivial,⟨rfl,.inl rfl,.inl rfl,.inl rfl,.inl rfl,.inl rfl,.inl rfl,.inl rfl,⟨rfl,rfl⟩,⟨rfl,rfl⟩,.inl rfl,trivial⟩,⟨rfl,rfl,rfl,rfl⟩,⟨rfl,rfl,rfl,rfl⟩,trivial⟩
set_option maxRecDepth 100000 in
set_option maxHeartbeats 2000000 in
theorem k_assignG (c:LowC) (kind:Int) (name other:ByteArray) (e:List Expr) (body els:List Stmt) (at_:Int) (s:LowS) (he:1≤e.length) (hw:wfEs e=true) (h:OkA s):K 84 [.ptr 0 0,(Stmt.mk kind name other e body els at_).av] (stI c s) (.ret (.tup [])) (stO c (giveS c name (kid0S c e s).2 (kid0S c e s).1)):=by
 obtain ⟨e0,er,rfl⟩ : ∃ e0 er,e=e0::er:=by
  cases e with
  | nil=>exact absurd he (by simp)
  | cons a r=>exact ⟨a,r,rfl⟩
 have hw0:wfE e0=true:=by unfold wfEs at hw; rw [Bool.and_eq_true] at hw; exact hw.1
 have hk0:kid0S c (e0::er) s=exprS c e0 s:=by rw [kid0S]
 have hv:=k_valG c e0 s hw0 h
 have hRel:=exprS_rel c e0 s
 rw [hk0]
 clear hk0
 generalize exprS c e0 s=A at hv hRel ⊢
 have hA:=h.relE hRel
 obtain ⟨q1,q2,q3,q4,q5,q6⟩:=e0
 have hg:=k_giveG c name A.2 A.1 hA
 generalize giveS c name A.2 A.1=R at hg ⊢
 refine Ctr.mv [1] [0,3,4] 5 hT hmix Tryz.func84 rfl (fun _ _=>by kernel_rfl) rfl (fun hok => ?_)
 clear hok
 conv=>whnf
 refine CutL.by (fun _:Unit=>⟨[(0,.ptr 0 0),(3,.ptr 5 0)],[(0,stB c (s) 3 4),(3,ndsB (s).nodes),(4,opsB (s).opens),(5,.cells 105 ((Stmt.mk kind name other (Expr.mk q1 q2 q3 q4 q5 q6::er) body els at_).cells.map .tr))],20⟩) (fun _=>True) ?_ ?_
 ·conv=>whnf
  exact ⟨(),[0,1,2,3,4,5],[],Sub.mk' rfl aut aut rfl rfl,trivial⟩
 rintro - - -
 conv=>whnf
 refine ⟨rfl,Int.le_refl 0,(show (0:Int)<((Expr.rows (Expr.mk q1 q2 q3 q4 q5 q6::er)).length:Int) by rw [erows_len,List.length_cons]; omega),fun row hrow => ?_⟩
 obtain rfl:Expr.cells (.mk q1 q2 q3 q4 q5 q6)=row:=Option.some.inj hrow
 clear hrow
 conv=>whnf
 refine acall.new [0,3,4] [] _ _ _ _ (hv) rfl rfl rfl rfl aut aut rfl rfl ?_
 conv=>whnf
 refine acall.new [0,28,1048604] [] _ _ _ _ (hg) rfl rfl rfl rfl aut aut rfl rfl ?_
 conv=>whnf
 refine ⟨by kernel_rfl,fun _ => ?_⟩
 conv=>whnf
 exact ⟨[0,1,2,_,_],rfl,rfl,trivial,⟨rfl,.inl rfl,.inl rfl,.inl rfl,.inl rfl,.inl rfl,.inl rfl,.inl rfl,⟨rfl,rfl⟩,⟨rfl,rfl⟩,.inl rfl,trivial⟩,⟨rfl,rfl,rfl,rfl⟩,⟨rfl,rfl,rfl,rfl⟩,trivial⟩
set_option maxRecDepth 100000 in
set_option maxHeartbeats 2000000 in
theorem k_printG (c:LowC) (kind:Int) (name other:ByteArray) (e:List Expr) (body els:List Stmt) (at_:Int) (s:LowS) (he:1≤e.length) (hw:wfEs e=true) (h:OkA s):K 89 [.ptr 0 0,(Stmt.mk kind name other e body els at_).av] (stI c s) (.ret (.tup [])) (stO c (putS { nd00 with kind:=7,a:=(kid0S c e s).2 } (kid0S c e s).1)):=by
 obtain ⟨e0,er,rfl⟩ : ∃ e0 er,e=e0::er:=by
  cases e with
  | nil=>exact absurd he (by simp)
  | cons a r=>exact ⟨a,r,rfl⟩
 have hw0:wfE e0=true:=by unfold wfEs at hw; rw [Bool.and_eq_true] at hw; exact hw.1
 have hk0:kid0S c (e0::er) s=exprS c e0 s:=by rw [kid0S]
 have hv:=k_valG c e0 s hw0 h
 have hRel:=exprS_rel c e0 s
 rw [hk0]
 clear hk0
 generalize exprS c e0 s=A at hv hRel ⊢
 have hA:=h.relE hRel
 obtain ⟨q1,q2,q3,q4,q5,q6⟩:=e0
 have hg:=k_putG c { nd00 with kind:=7,a:=A.2 } A.1 hA.ok
 generalize putS { nd00 with kind:=7,a:=A.2 } A.1=R at hg ⊢
 refine Ctr.mv [1] [0,3,4] 5 hT hmix Tryz.func89 rfl (fun _ _=>by kernel_rfl) rfl (fun hok => ?_)
 clear hok
 conv=>whnf
 refine CutL.by (fun _:Unit=>⟨[(0,.ptr 0 0),(3,.ptr 5 0)],[(0,stB c (s) 3 4),(3,ndsB (s).nodes),(4,opsB (s).opens),(5,.cells 105 ((Stmt.mk kind name other (Expr.mk q1 q2 q3 q4 q5 q6::er) body els at_).cells.map .tr))],20⟩) (fun _=>True) ?_ ?_
 ·conv=>whnf
  exact ⟨(),[0,1,2,3,4,5],[],Sub.mk' rfl aut aut rfl rfl,trivial⟩
 rintro - - -
 conv=>whnf
 refine ⟨rfl,Int.le_refl 0,(show (0:Int)<((Expr.rows (Expr.mk q1 q2 q3 q4 q5 q6::er)).length:Int) by rw [erows_len,List.length_cons]; omega),fun row hrow => ?_⟩
 obtain rfl:Expr.cells (.mk q1 q2 q3 q4 q5 q6)=row:=Option.some.inj hrow
 clear hrow
 conv=>whnf
 refine acall.new [0,3,4] [] _ _ _ _ (hv) rfl rfl rfl rfl aut aut rfl rfl ?_
 conv=>whnf
 intro _
 conv=>whnf
 refine acall.new [0,26,1048602] [] _ _ _ _ (hg) rfl rfl rfl rfl aut aut rfl rfl ?_
 conv=>whnf
 intro _
 conv=>whnf
 exact ⟨[0,1,2,_,_],rfl,rfl,trivial,⟨rfl,.inl rfl,.inl rfl,.inl rfl,.inl rfl,.inl rfl,.inl rfl,.inl rfl,⟨rfl,rfl⟩,⟨rfl,rfl⟩,.inl rfl,trivial⟩,⟨rfl,rfl,rfl,rfl⟩,⟨rfl,rfl,rfl,rfl⟩,trivial⟩
set_option maxRecDepth 100000 in
set_option maxHeartbeats 2000000 in
theorem k_skipG (c:LowC) (kind:Int) (name other:ByteArray) (e:List Expr) (body els:List Stmt) (at_:Int) (s:LowS):K 90 [.ptr 0 0,(Stmt.mk kind name other e body els at_).av] (stI c s) (.ret (.tup [])) (stO c (s)):=by
 refine Ctr.mv [] [0,3,4] 5 hT hmix Tryz.func90 rfl (fun _ _=>by kernel_rfl) rfl (fun hok => ?_)
 clear hok
 conv=>whnf
 exact ⟨[0,1,2,3,4],rfl,rfl,trivial,aut,aut,aut,trivial⟩
set_option maxRecDepth 100000 in
set_option maxHeartbeats 2000000 in
theorem k_lockG (c:LowC) (kind:Int) (name other:ByteArray) (e:List Expr) (body els:List Stmt) (at_:Int) (s:LowS) (h:OkA s) (hB:KBlk c body):K 88 [.ptr 0 0,(Stmt.mk kind name other e body els at_).av] (stI c s) (.ret (.tup [])) (stO c (putS { nd00 with kind:=6,thing:=findI c.p.locks name 0 } (blockS c body (putS { nd00 with kind:=5,thing:=findI c.p.locks name 0 } s)))):=by
 have hlk:=k18 c.p name
 generalize findI c.p.locks name 0=LI at hlk ⊢
 have hp:=k_putG c { nd00 with kind:=5,thing:=LI } s h.ok
 have h2:=h.relE (putS_rel { nd00 with kind:=5,thing:=LI } s)
 generalize putS { nd00 with kind:=5,thing:=LI } s=S2 at hp h2 ⊢
 have hb:=hB S2 h2
 have h3:=h2.rel (blockS_rel c body S2)
 generalize blockS c body S2=S3 at hb h3 ⊢
 have hp2:=k_putG c { nd00 with kind:=6,thing:=LI } S3 h3.ok
 generalize putS { nd00 with kind:=6,thing:=LI } S3=R at hp2 ⊢
 refine Ctr.mv [2,3,4] [0,3,4] 5 hT hmix Tryz.func88 rfl (fun _ _=>by kernel_rfl) rfl (fun hok => ?_)
 clear hok
 conv=>whnf
 refine CutL.by (fun _:Unit=>⟨[(0,.ptr 0 0),(3,.ptr 5 0),(4,.tr (ti LI))],[(0,stB c (s) 3 4),(3,ndsB (s).nodes),(4,opsB (s).opens),(5,.cells 105 ((Stmt.mk kind name other e body els at_).cells.map .tr))],20⟩) (fun _=>True) ?_ ?_
 ·conv=>whnf
  refine acall.pure _ (hlk) rfl rfl ?_
  conv=>whnf
  refine ⟨by kernel_rfl,fun _ => ?_⟩
  conv=>whnf
  exact ⟨(),[0,1,2,3,4,5],[],Sub.mk' rfl aut aut rfl rfl,trivial⟩
 rintro - - -
 conv=>whnf
 refine CutL.by (fun _:Unit=>⟨[(0,.ptr 0 0),(3,.ptr 5 0),(4,.tr (ti LI))],[(0,stB c (S2) 3 4),(3,ndsB (S2).nodes),(4,opsB (S2).opens),(5,.cells 105 ((Stmt.mk kind name other e body els at_).cells.map .tr))],20⟩) (fun _=>True) ?_ ?_
 ·conv=>whnf
  refine acall.new [0,3,4] [] _ _ _ _ (hp) rfl rfl rfl rfl aut aut rfl rfl ?_
  conv=>whnf
  intro _
  conv=>whnf
  exact ⟨(),[0,1,2,_,_,5],[],Sub.aw,trivial⟩
 rintro - - -
 conv=>whnf
 refine CutL.by (fun _:Unit=>⟨[(0,.ptr 0 0),(4,.tr (ti LI))],[(0,stB c (S3) 3 4),(3,ndsB (S3).nodes),(4,opsB (S3).opens)],20⟩) (fun _=>True) ?_ ?_
 ·conv=>whnf
  refine acall.new [0,3,4] [] _ _ _ _ (hb) rfl rfl rfl rfl aut aut rfl rfl ?_
  conv=>whnf
  intro _
  conv=>whnf
  exact ⟨(),[0,1,2,_,_],[],Sub.aw,trivial⟩
 rintro - - -
 conv=>whnf
 refine acall.new [0,3,4] [] _ _ _ _ (hp2) rfl rfl rfl rfl aut aut rfl rfl ?_
 conv=>whnf
 intro _
 conv=>whnf
 exact ⟨[0,1,2,_,_],rfl,rfl,trivial,⟨rfl,.inl rfl,.inl rfl,.inl rfl,.inl rfl,.inl rfl,.inl rfl,.inl rfl,⟨rfl,rfl⟩,⟨rfl,rfl⟩,.inl rfl,trivial⟩,⟨rfl,rfl,rfl,rfl⟩,⟨rfl,rfl,rfl,rfl⟩,trivial⟩
set_option maxRecDepth 100000 in
set_option maxHeartbeats 2000000 in
theorem k_condG (c:LowC) (kind:Int) (name other:ByteArray) (e:List Expr) (body els:List Stmt) (at_:Int) (s:LowS) (he:1≤e.length) (hw:wfEs e=true) (h:OkA s) (ho:s.over=false) (hB:KBlk c body) (hL:KBlk c els):K 86 [.ptr 0 0,(Stmt.mk kind name other e body els at_).av] (stI c s) (.ret (.tup [])) (stO c (openS ((blockS c body (putS { nd00 with kind:=8,a:=(kid0S c e s).2 } (kid0S c e s).1)).opens++(blockS c els (openS [(true,(putI (kid0S c e s).1).toNat)] (blockS c body (putS { nd00 with kind:=8,a:=(kid0S c e s).2 } (kid0S c e s).1)))).opens) (blockS c els (openS [(true,(putI (kid0S c e s).1).toNat)] (blockS c body (putS { nd00 with kind:=8,a:=(kid0S c e s).2 } (kid0S c e s).1)))))):=by
 obtain ⟨e0,er,rfl⟩ : ∃ e0 er,e=e0::er:=by
  cases e with
  | nil=>exact absurd he (by simp)
  | cons a r=>exact ⟨a,r,rfl⟩
 have hw0:wfE e0=true:=by unfold wfEs at hw; rw [Bool.and_eq_true] at hw; exact hw.1
 have hk0:kid0S c (e0::er) s=exprS c e0 s:=by rw [kid0S]
 have hv:=k_valG c e0 s hw0 h
 have hRel:=exprS_rel c e0 s
 rw [hk0]
 clear hk0
 generalize exprS c e0 s=A at hv hRel ⊢
 have hA:=h.relE hRel
 obtain ⟨q1,q2,q3,q4,q5,q6⟩:=e0
 have hp:=k_putG c { nd00 with kind:=8,a:=A.2 } A.1 hA.ok
 have hpr:=putS_rel { nd00 with kind:=8,a:=A.2 } A.1
 have hcr:=fun s2 s3 s5 h2 h3 h3o h5 h5o=>cond_rel (s:=s) (s1:=A.1) (s2:=s2) (s3:=s3) (s5:=s5) { nd00 with kind:=8,a:=A.2 } ho hRel h2 h3 h3o h5 h5o
 have hpin:=fun s3 h3=>putI_in (s:=A.1) (s3:=s3) { nd00 with kind:=8,a:=A.2 } h3
 have hPb : ∃ b:Nat,putI A.1=b∧(putI A.1).toNat=b:=by
  unfold putI
  cases decide ((A.1.nodes.length:Int) ≥ 4096) with
  | true=>exact ⟨0,rfl,rfl⟩
  | false=>exact ⟨_,rfl,Int.toNat_natCast _⟩
 obtain ⟨b,hb1,hb2⟩:=hPb
 rw [hb2] at hcr hpin ⊢
 rw [hb1] at hp
 have hS2 : ∃ S2,S2=putS { nd00 with kind:=8,a:=A.2 } A.1:=⟨_,rfl⟩
 obtain ⟨S2,hS2⟩:=hS2
 rw [← hS2] at hp hpr hpin ⊢
 have hcr:=fun s3 s5 h3 h3o h5 h5o=>hcr S2 s3 s5 hS2 h3 h3o h5 h5o
 have h2:=hA.relE hpr
 have hbk:=hB S2 h2
 have hr3:=blockS_rel c body S2
 have h3:=h2.rel hr3
 have hcr:=fun s5 h5 h5o=>hcr (blockS c body S2) s5 hr3 (fun q=>blockS_over c body q) h5 h5o
 have hpin:=hpin (blockS c body S2) hr3
 clear hS2 hpr
 generalize blockS c body S2=S3 at hbk h3 hcr hpin ⊢
 have h4:OkA (openS [(true,b)] S3):=⟨fun o ho=>by
   have ho:o ∈ [(true,b)]:=ho
   rw [List.mem_singleton] at ho
   subst ho
   exact hpin,h3.cap,by show 1≤1+S3.nodes.length+ov S3.over; omega⟩
 have hlk:=hL (openS [(true,b)] S3) h4
 have hr5:=blockS_rel c els (openS [(true,b)] S3)
 have h5:=h4.rel hr5
 have hcr:=h.rel (hcr (blockS c els (openS [(true,b)] S3)) hr5 (fun q=>blockS_over c els q))
 generalize blockS c els (openS [(true,b)] S3)=S5 at hlk h5 hcr ⊢
 have hfew:(S3.opens.length+S5.opens.length)*8≤150000000000000:=by
  have:=hcr.ok.few
  have this:(S3.opens++S5.opens).length≤1000000:=this
  rw [List.length_append] at this
  omega
 clear hB hL hr3 hr5 h4 hcr
 refine Ctr.mv [1,2,3,5,6] [0,3,4] 5 hT hmix Tryz.func86 rfl (fun _ _=>by kernel_rfl) rfl (fun hok => ?_)
 clear hok
 conv=>whnf
 refine CutL.by (fun _:Unit=>⟨[(0,.ptr 0 0),(3,.ptr 5 0)],[(0,stB c (s) 3 4),(3,ndsB (s).nodes),(4,opsB (s).opens),(5,.cells 105 ((Stmt.mk kind name other (Expr.mk q1 q2 q3 q4 q5 q6::er) body els at_).cells.map .tr))],20⟩) (fun _=>True) ?_ ?_
 ·conv=>whnf
  exact ⟨(),[0,1,2,3,4,5],[],Sub.mk' rfl aut aut rfl rfl,trivial⟩
 rintro - - -
 conv=>whnf
 refine CutL.by (fun _:Unit=>⟨[(0,.ptr 0 0),(3,.ptr 5 0),(4,.tr (ti (b:Nat)))],[(0,stB c (S2) 3 4),(3,ndsB (S2).nodes),(4,opsB (S2).opens),(5,.cells 105 ((Stmt.mk kind name other (Expr.mk q1 q2 q3 q4 q5 q6::er) body els at_).cells.map .tr))],20⟩) (fun _=>True) ?_ ?_
 ·conv=>whnf
  refine ⟨rfl,Int.le_refl 0,(show (0:Int)<((Expr.rows (Expr.mk q1 q2 q3 q4 q5 q6::er)).length:Int) by rw [erows_len,List.length_cons]; omega),fun row hrow => ?_⟩
  obtain rfl:Expr.cells (.mk q1 q2 q3 q4 q5 q6)=row:=Option.some.inj hrow
  clear hrow
  conv=>whnf
  refine acall.new [0,3,4] [] _ _ _ _ (hv) rfl rfl rfl rfl aut aut rfl rfl ?_
  conv=>whnf
  intro _
  conv=>whnf
  refine acall.new [0,26,1048602] [] _ _ _ _ (hp) rfl rfl rfl rfl aut aut rfl rfl ?_
  conv=>whnf
  intro _
  conv=>whnf
  exact ⟨(),[0,1,2,_,_,5],[],Sub.aw,trivial⟩
 rintro - - -
 conv=>whnf
 refine CutL.by (fun _:Unit=>⟨[(0,.ptr 0 0),(3,.ptr 5 0),(4,.tr (ti (b:Nat)))],[(0,stB c (S3) 3 4),(3,ndsB (S3).nodes),(4,opsB (S3).opens),(5,.cells 105 ((Stmt.mk kind name other (Expr.mk q1 q2 q3 q4 q5 q6::er) body els at_).cells.map .tr))],20⟩) (fun _=>True) ?_ ?_
 ·conv=>whnf
  refine acall.new [0,3,4] [] _ _ _ _ (hbk) rfl rfl rfl rfl aut aut rfl rfl ?_
  conv=>whnf
  intro _
  conv=>whnf
  exact ⟨(),[0,1,2,_,_,5],[],Sub.aw,trivial⟩
 rintro - - -
 conv=>whnf
 refine CutL.by (fun _:Unit=>⟨[(0,.ptr 0 0),(3,.ptr 5 0),(5,.sl 6 S3.opens.length)],[(0,stB c (openS [(true,b)] S3) 3 4),(3,ndsB (openS [(true,b)] S3).nodes),(4,opsB (openS [(true,b)] S3).opens),(5,.cells 105 ((Stmt.mk kind name other (Expr.mk q1 q2 q3 q4 q5 q6::er) body els at_).cells.map .tr)),(6,opsB S3.opens)],20⟩) (fun _=>True) ?_ ?_
 ·conv=>whnf
  refine acall.au [0,3,4] [] (k_otherG c S3.slots S3.nodes.length S3.opens.length b S3.over S3.nodes S3.opens) ?_
  intro _
  conv=>whnf
  exact ⟨(),[0,1,2,3,_,5,4],[],Sub.aw,trivial⟩
 rintro - - -
 conv=>whnf
 refine CutL.by (fun _:Unit=>⟨[(0,.ptr 0 0),(5,.sl 6 S3.opens.length)],[(0,stB c (S5) 3 4),(3,ndsB (S5).nodes),(4,opsB (S5).opens),(6,opsB S3.opens)],20⟩) (fun _=>True) ?_ ?_
 ·conv=>whnf
  refine acall.new [0,3,4] [] _ _ _ _ (hlk) rfl rfl rfl rfl aut aut rfl rfl ?_
  conv=>whnf
  intro _
  conv=>whnf
  exact ⟨(),[0,1,2,_,_,5,6],[],Sub.aw,trivial⟩
 rintro - - -
 conv=>whnf
 refine ⟨(List.length_map ..).symm,(List.length_map ..).symm,hfew,?_⟩
 conv=>whnf
 exact ⟨[0,1,2,3,_],rfl,rfl,trivial,⟨rfl,.inl rfl,.inl rfl,.inl rfl,.inl rfl,.inl rfl,.inl rfl,.inl rfl,⟨rfl,rfl⟩,⟨rfl,(List.length_append ..).symm⟩,.inl rfl,trivial⟩,⟨rfl,rfl,rfl,rfl⟩,⟨rfl,rfl,rfl,(List.map_append ..).symm⟩,trivial⟩
end Go.Proofs.YthboippafkcoiaaGreatDoor.am
namespace Go.Proofs.YthboippafkcoiaaGreatDoor.am
open Go Go.Proofs
set_option linter.all false
set_option maxRecDepth 100000 in
set_option maxHeartbeats 2000000 in
theorem k_loopG (c:LowC) (kind:Int) (name other:ByteArray) (e:List Expr) (body els:List Stmt) (at_:Int) (s:LowS) (he:1≤e.length) (hw:wfEs e=true) (h:OkA s) (hB:KBlk c body):K 87 [.ptr 0 0,(Stmt.mk kind name other e body els at_).av] (stI c s) (.ret (.tup [])) (stO c (bif (blockS c body (putS { nd00 with kind:=8,a:=(kid0S c e s).2 } (kid0S c e s).1)).over then (blockS c body (putS { nd00 with kind:=8,a:=(kid0S c e s).2 } (kid0S c e s).1)) else { (blockS c body (putS { nd00 with kind:=8,a:=(kid0S c e s).2 } (kid0S c e s).1)) with nodes:=leadN s.nodes.length (blockS c body (putS { nd00 with kind:=8,a:=(kid0S c e s).2 } (kid0S c e s).1)).opens (blockS c body (putS { nd00 with kind:=8,a:=(kid0S c e s).2 } (kid0S c e s).1)).nodes,opens:=[(true,(putI (kid0S c e s).1).toNat)] })):=by
 obtain ⟨e0,er,rfl⟩ : ∃ e0 er,e=e0::er:=by
  cases e with
  | nil=>exact absurd he (by simp)
  | cons a r=>exact ⟨a,r,rfl⟩
 have hw0:wfE e0=true:=by unfold wfEs at hw; rw [Bool.and_eq_true] at hw; exact hw.1
 have hk0:kid0S c (e0::er) s=exprS c e0 s:=by rw [kid0S]
 have hv:=k_valG c e0 s hw0 h
 have hRel:=exprS_rel c e0 s
 rw [hk0]
 clear hk0
 generalize exprS c e0 s=A at hv hRel ⊢
 have hA:=h.relE hRel
 obtain ⟨q1,q2,q3,q4,q5,q6⟩:=e0
 have hp:=k_putG c { nd00 with kind:=8,a:=A.2 } A.1 hA.ok
 have hpr:=putS_rel { nd00 with kind:=8,a:=A.2 } A.1
 have hPb : ∃ b:Nat,putI A.1=b∧(putI A.1).toNat=b:=by
  unfold putI
  cases decide ((A.1.nodes.length:Int) ≥ 4096) with
  | true=>exact ⟨0,rfl,rfl⟩
  | false=>exact ⟨_,rfl,Int.toNat_natCast _⟩
 obtain ⟨b,hb1,hb2⟩:=hPb
 rw [hb2]
 rw [hb1] at hp
 generalize putS { nd00 with kind:=8,a:=A.2 } A.1=S2 at hp hpr ⊢
 have h2:=hA.relE hpr
 have hbk:=hB S2 h2
 have h3:=h2.rel (blockS_rel c body S2)
 generalize blockS c body S2=S3 at hbk h3 ⊢
 have hLl:=leadN_len s.nodes.length S3.opens S3.nodes
 have hld:=k_leadG c S3.slots S3.over s.nodes.length S3.nodes S3.opens h3.inn h3.ok.few
 generalize leadN s.nodes.length S3.opens S3.nodes=L3 at hLl hld ⊢
 clear hB
 refine Ctr.mv [2,3,4,5,6] [0,3,4] 5 hT hmix Tryz.func87 rfl (fun _ _=>by kernel_rfl) rfl (fun hok => ?_)
 clear hok
 conv=>whnf
 refine CutL.by (fun _:Unit=>⟨[(0,.ptr 0 0),(3,.ptr 5 0),(4,.tr (ti (s.nodes.length:Nat)))],[(0,stB c (s) 3 4),(3,ndsB (s).nodes),(4,opsB (s).opens),(5,.cells 105 ((Stmt.mk kind name other (Expr.mk q1 q2 q3 q4 q5 q6::er) body els at_).cells.map .tr))],20⟩) (fun _=>True) ?_ ?_
 ·conv=>whnf
  exact ⟨(),[0,1,2,3,4,5],[],Sub.mk' rfl aut aut rfl rfl,trivial⟩
 rintro - - -
 conv=>whnf
 refine CutL.by (fun _:Unit=>⟨[(0,.ptr 0 0),(3,.ptr 5 0),(4,.tr (ti (s.nodes.length:Nat))),(5,.tr (ti (b:Nat)))],[(0,stB c (S2) 3 4),(3,ndsB (S2).nodes),(4,opsB (S2).opens),(5,.cells 105 ((Stmt.mk kind name other (Expr.mk q1 q2 q3 q4 q5 q6::er) body els at_).cells.map .tr))],20⟩) (fun _=>True) ?_ ?_
 ·conv=>whnf
  refine ⟨rfl,Int.le_refl 0,(show (0:Int)<((Expr.rows (Expr.mk q1 q2 q3 q4 q5 q6::er)).length:Int) by rw [erows_len,List.length_cons]; omega),fun row hrow => ?_⟩
  obtain rfl:Expr.cells (.mk q1 q2 q3 q4 q5 q6)=row:=Option.some.inj hrow
  clear hrow
  conv=>whnf
  refine acall.new [0,3,4] [] _ _ _ _ (hv) rfl rfl rfl rfl aut aut rfl rfl ?_
  conv=>whnf
  intro _
  conv=>whnf
  refine acall.new [0,26,1048602] [] _ _ _ _ (hp) rfl rfl rfl rfl aut aut rfl rfl ?_
  conv=>whnf
  intro _
  conv=>whnf
  exact ⟨(),[0,1,2,_,_,5],[],Sub.aw,trivial⟩
 rintro - - -
 conv=>whnf
 refine CutL.by (fun _:Unit=>⟨[(0,.ptr 0 0),(4,.tr (ti (s.nodes.length:Nat))),(5,.tr (ti (b:Nat)))],[(0,stB c (S3) 3 4),(3,ndsB (S3).nodes),(4,opsB (S3).opens)],20⟩) (fun _=>True) ?_ ?_
 ·conv=>whnf
  refine acall.new [0,3,4] [] _ _ _ _ (hbk) rfl rfl rfl rfl aut aut rfl rfl ?_
  conv=>whnf
  intro _
  conv=>whnf
  exact ⟨(),[0,1,2,_,_],[],Sub.aw,trivial⟩
 rintro - - -
 obtain ⟨sl3,n3,o3,v3⟩:=S3
 simp only at hLl hld ⊢
 cases v3 with
 | true =>
  conv=>whnf
  refine CutL.by (fun _:Unit=>⟨[(0,.ptr 0 0)],[(0,stB c ⟨sl3,n3,o3,true⟩ 3 4),(3,ndsB n3),(4,opsB o3)],20⟩) (fun _=>False) ?_ ?_
  ·conv=>whnf
   exact ⟨[0,1,2,3,4],rfl,rfl,trivial,aut,aut,aut,trivial⟩
  rintro - hF
  exact hF.elim
 | false =>
  conv=>whnf
  refine CutL.by (fun _:Unit=>⟨[(0,.ptr 0 0),(4,.tr (ti (s.nodes.length:Nat))),(5,.tr (ti (b:Nat)))],[(0,stB c ⟨sl3,n3,o3,false⟩ 3 4),(3,ndsB n3),(4,opsB o3)],20⟩) (fun _=>True) ?_ ?_
  ·conv=>whnf
   exact ⟨(),[0,1,2,3,4],[],Sub.mk' rfl aut aut rfl rfl,trivial⟩
  rintro - - -
  conv=>whnf
  refine CutL.by (fun _:Unit=>⟨[(0,.ptr 0 0),(5,.tr (ti (b:Nat)))],[(0,lwN c sl3 n3.length false 3),(3,ndsB L3)],20⟩) (fun _=>True) ?_ ?_
  ·conv=>whnf
   refine acall.au [0,3,4] [] (hld) ?_
   intro _
   conv=>whnf
   exact ⟨(),[0,1,2,3],[],Sub.mk' rfl aut aut rfl rfl,trivial⟩
  rintro - - -
  conv=>whnf
  refine acall.au [0,3] [] (k_otherGN c sl3 n3.length b false L3) ?_
  intro _
  conv=>whnf
  exact ⟨[0,1,2,3,_],rfl,rfl,trivial,⟨rfl,.inl rfl,.inl rfl,.inl rfl,.inl rfl,.inl rfl,.inl rfl,.inl rfl,⟨rfl,hLl.symm⟩,⟨rfl,rfl⟩,.inl rfl,trivial⟩,⟨rfl,rfl,rfl,rfl⟩,⟨rfl,rfl,rfl,rfl⟩,trivial⟩
def KSwp (c:LowC):Prop := ∀ (kind:Int) (name other:ByteArray) (e:List Expr) (body els:List Stmt) (at_:Int) (s:LowS),1≤e.length→wfEs e=true→OkA s→K 85 [.ptr 0 0,(Stmt.mk kind name other e body els at_).av] (stI c s) (.ret (.tup [])) (stO c (swapS c name other (kid0S c e s).2 (kid0S c e s).1))
theorem blockS_at (c:LowC) {l:List Stmt} {i:Nat} {x:Stmt} {s:LowS} (h:l[i]? = some x):blockS c (l.drop i) s=bif s.over then s else blockS c (l.drop (i+1)) (stmtS c x s):=by
 rw [drop_cons h,blockS]
theorem size_stmt {l:List Stmt} {i:Nat} {x:Stmt} (h:l[i]? = some x):SizeOf.sizeOf x<SizeOf.sizeOf l:=List.sizeOf_lt_of_mem (List.mem_of_getElem? h)
theorem wfSs_at : ∀ {l:List Stmt} {i:Nat} {x:Stmt},wfSs l=true→l[i]? = some x→wfS x=true
 | [],i,x,_,h=>by simp at h
 | y::r,0,x,hw,h=>by
  unfold wfSs at hw
  rw [Bool.and_eq_true] at hw
  simp at h
  subst h
  exact hw.1
 | y::r,i+1,x,hw,h=>by
  unfold wfSs at hw
  rw [Bool.and_eq_true] at hw
  exact wfSs_at hw.2 (by simpa using h)
set_option maxRecDepth 100000 in
set_option maxHeartbeats 4000000 in
theorem k_blockG (c:LowC) (hSw:KSwp c) : ∀ (n:Nat) (l:List Stmt),SizeOf.sizeOf l<n→wfSs l=true→KBlk c l:=by
 intro n
 induction n with
 | zero=>intro l h; omega
 | succ n ih =>
 intro l hsz hwf s0 hS0
 obtain ⟨R,hR⟩ : ∃ R,R=blockS c l s0:=⟨_,rfl⟩
 rw [← hR]
 refine Ctr.mv [5] [0,3,4] 5 hT hmix Tryz.func41 rfl (fun _ _=>by kernel_rfl) rfl (fun hok => ?_)
 have hll:=(hok.slot 1 rfl).tr.lst.2.1
 rw [srows_len] at hll
 clear hok
 conv=>whnf
 refine LoopL.by (fun x:Nat × LowS=>⟨[(0,.ptr 0 0),(4,.ptr 5 0),(8,.tr (stmtsT l)),(9,.tr (ti ((Stmt.rows l).length:Nat))),(10,.tr (ti (x.1:Nat)))],[(0,stB c (x.2) 3 4),(3,ndsB (x.2).nodes),(4,opsB (x.2).opens),(5,.cells 136 [.tr (.v .nilFunc),.fn 84 [],.fn 85 [],.fn 86 [],.fn 87 [],.fn 88 [],.fn 89 [],.fn 90 []])],20⟩)
  (fun x=>x.1≤l.length∧R=blockS c (l.drop x.1) x.2∧OkA x.2) (fun x=>l.length - x.1) (0,s0) [0,1,2,3,4,_] []
  (Sub.aw) ⟨Nat.zero_le _,hR,hS0⟩ ?_
 clear hR hS0
 rintro ⟨i,s⟩ ⟨hi,hR,hS⟩ -
 simp only at hi hR hS
 conv=>whnf
 refine csplit (fun hit => ?_) (fun hit => ?_)
 ·replace hit:i<l.length:=by have:decide ((i:Int)<((Stmt.rows l).length:Int))=true:=hit; have:=of_decide_eq_true this; rw [srows_len] at this; omega
  obtain ⟨x,hx⟩ : ∃ x,l[i]? = some x:=⟨_,List.getElem?_eq_getElem hit⟩
  have hxs:=size_stmt hx
  have hxw:=wfSs_at hwf hx
  rw [blockS_at c hx] at hR
  obtain ⟨kind,name,other,e,body,els,at_⟩:=x
  conv=>whnf
  refine ⟨rfl,(show (0:Int)≤i by omega),(show (i:Int)<((Stmt.rows l).length:Int) by rw [srows_len]; omega),fun row hrow => ?_⟩
  obtain ⟨d,hd,rfl⟩:=srows_get hrow
  obtain rfl:=Option.some.inj (hx.symm.trans hd)
  clear hrow hd
  conv=>whnf
  obtain ⟨T,hT⟩ : ∃ T,T=s.over:=⟨_,rfl⟩
  cases T with
  | true =>
   rw [← hT] at hR
   replace hR:R=s:=hR
   subst hR
   refine CutL.by (fun _:Unit=>⟨[(0,.ptr 0 0)],[(0,stB c (R) 3 4),(3,ndsB (R).nodes),(4,opsB (R).opens)],20⟩) (fun _=>False) ?_ ?_
   ·conv=>whnf
    rw [← hT]
    conv=>whnf
    exact ⟨[0,1,2,3,4],rfl,rfl,trivial,⟨rfl,.inl rfl,.inl rfl,.inl rfl,.inl rfl,.inl rfl,.inl rfl,.inl rfl,⟨rfl,rfl⟩,⟨rfl,rfl⟩,.inl (by rw [← hT]),trivial⟩,aut,aut,trivial⟩
   rintro - hF
   exact hF.elim
  | false =>
  rw [← hT,cond_false] at hR
  have hov:s.over=false:=hT.symm
  have hnx:=hS.rel (stmtS_rel c (.mk kind name other e body els at_) s hov)
  refine CutL.by (fun _:Unit=>⟨[(0,.ptr 0 0),(4,.ptr 5 0),(8,.tr (stmtsT l)),(9,.tr (ti ((Stmt.rows l).length:Nat))),(10,.tr (ti (i:Nat))),(6,.ptr 6 0)],[(0,stB c (s) 3 4),(3,ndsB (s).nodes),(4,opsB (s).opens),(5,.cells 136 [.tr (.v .nilFunc),.fn 84 [],.fn 85 [],.fn 86 [],.fn 87 [],.fn 88 [],.fn 89 [],.fn 90 []]),(6,.cells 105 ((Stmt.mk kind name other e body els at_).cells.map .tr))],20⟩) (fun _=>True) ?_ ?_
  ·conv=>whnf
   rw [← hT]
   conv=>whnf
   exact ⟨(),[0,1,2,3,4,5,_],[],Sub.mk' rfl ⟨⟨rfl,rfl⟩,⟨rfl,rfl⟩,.inl rfl,.inl rfl,.inl rfl,⟨rfl,rfl⟩,trivial⟩ ⟨⟨rfl,.inl rfl,.inl rfl,.inl rfl,.inl rfl,.inl rfl,.inl rfl,.inl rfl,⟨rfl,rfl⟩,⟨rfl,rfl⟩,.inl (by rw [← hT]),trivial⟩,⟨rfl,rfl,rfl,rfl⟩,⟨rfl,rfl,rfl,rfl⟩,⟨rfl,.inl rfl,⟨rfl,trivial⟩,⟨rfl,trivial⟩,⟨rfl,trivial⟩,⟨rfl,trivial⟩,⟨rfl,trivial⟩,⟨rfl,trivial⟩,⟨rfl,trivial⟩,trivial⟩,⟨rfl,.inl rfl,.inl rfl,.inl rfl,.inl rfl,.inl rfl,.inl rfl,.inl rfl,trivial⟩,trivial⟩ rfl rfl,trivial⟩
  rintro - - -
  unfold wfS at hxw
  simp only [Bool.and_eq_true,decide_eq_true_eq] at hxw
  obtain ⟨⟨⟨⟨⟨w1,w2⟩,w3⟩,w4⟩,w5⟩,w6⟩:=hxw
  simp only [Stmt.mk.sizeOf_spec] at hxs
  have hBd:KBlk c body:=ih body (by omega) w5
  have hEl:KBlk c els:=ih els (by omega) w6
  have hk:K (bif kind == 1 then 84 else bif kind == 2 then 85 else bif kind == 3 then 86 else bif kind == 4 then 87 else bif kind == 5 then 88 else bif kind == 6 then 89 else 90)
    [.ptr 0 0,(Stmt.mk kind name other e body els at_).av] (stI c s) (.ret (.tup [])) (stO c (stmtS c (.mk kind name other e body els at_) s)):=by
   have hk7:kind=1∨kind=2∨kind=3∨kind=4∨kind=5∨kind=6∨kind=7:=by omega
   rw [stmtS]
   rcases hk7 with rfl | rfl | rfl | rfl | rfl | rfl | rfl
   ·exact k_assignG c 1 name other e body els at_ s (by simpa using w3) w4 hS
   ·exact hSw 2 name other e body els at_ s (by simpa using w3) w4 hS
   ·exact k_condG c 3 name other e body els at_ s (by simpa using w3) w4 hS hov hBd hEl
   ·exact k_loopG c 4 name other e body els at_ s (by simpa using w3) w4 hS hBd
   ·exact k_lockG c 5 name other e body els at_ s hS hBd
   ·exact k_printG c 6 name other e body els at_ s (by simpa using w3) w4 hS
   ·exact k_skipG c 7 name other e body els at_ s
  generalize stmtS c (.mk kind name other e body els at_) s=S2 at hk hR hnx
  have fin : ∀ q:Nat,True:=fun _=>trivial
  have hk7:kind=1∨kind=2∨kind=3∨kind=4∨kind=5∨kind=6∨kind=7:=by omega
  clear w1 w2 w3 w4 w5 w6 hBd hEl fin
  rcases hk7 with rfl | rfl | rfl | rfl | rfl | rfl | rfl
  all_goals
   conv=>whnf
   refine ⟨by decide,by decide,?_⟩
   conv=>whnf
   refine acall.new [0,3,4] [] _ _ _ _ (hk) rfl rfl rfl rfl aut aut rfl rfl ?_
   conv=>whnf
   refine ⟨by kernel_rfl,fun _ => ?_⟩
   conv=>whnf
   exact ⟨(i+1,S2),[0,1,2,_,_,5],[],Sub.mk' rfl ⟨⟨rfl,rfl⟩,⟨rfl,rfl⟩,.inl rfl,.inl rfl,.inl (ti_succ hit hll),trivial⟩ ⟨⟨rfl,.inl rfl,.inl rfl,.inl rfl,.inl rfl,.inl rfl,.inl rfl,.inl rfl,⟨rfl,rfl⟩,⟨rfl,rfl⟩,.inl rfl,trivial⟩,⟨rfl,rfl,rfl,rfl⟩,⟨rfl,rfl,rfl,rfl⟩,⟨rfl,.inl rfl,⟨rfl,trivial⟩,⟨rfl,trivial⟩,⟨rfl,trivial⟩,⟨rfl,trivial⟩,⟨rfl,trivial⟩,⟨rfl,trivial⟩,⟨rfl,trivial⟩,trivial⟩,trivial⟩ rfl rfl,⟨hit,hR,hnx⟩,by show l.length - (i+1)<l.length - i; omega⟩
 replace hit:l.length≤i:=by have:decide ((i:Int)<((Stmt.rows l).length:Int))=false:=hit; have:=of_decide_eq_false this; rw [srows_len] at this; omega
 rw [List.drop_eq_nil_of_le hit] at hR
 replace hR:R=s:=by rw [hR,blockS]
 subst hR
 conv=>whnf
 refine ⟨fun _ => ?_,fun h=>absurd rfl h⟩
 conv=>whnf
 exact ⟨[0,1,2,3,4],rfl,rfl,trivial,aut,aut,aut,trivial⟩
end Go.Proofs.YthboippafkcoiaaGreatDoor.am
namespace Go.Proofs.YthboippafkcoiaaGreatDoor.am
open Go Go.Proofs
set_option linter.all false
set_option maxRecDepth 100000 in
set_option maxHeartbeats 2000000 in
theorem k_swapG (c:LowC):KSwp c:=by
 intro kind name other e body els at_ s he hw h
 obtain ⟨e0,er,rfl⟩ : ∃ e0 er,e=e0::er:=by
  cases e with
  | nil=>exact absurd he (by simp)
  | cons a r=>exact ⟨a,r,rfl⟩
 have hw0:wfE e0=true:=by unfold wfEs at hw; rw [Bool.and_eq_true] at hw; exact hw.1
 have hk0:kid0S c (e0::er) s=exprS c e0 s:=by rw [kid0S]
 have hv:=k_valG c e0 s hw0 h
 have hRel:=exprS_rel c e0 s
 rw [hk0]
 clear hk0
 generalize exprS c e0 s=A at hv hRel ⊢
 have hA:=h.relE hRel
 obtain ⟨q1,q2,q3,q4,q5,q6⟩:=e0
 have hloc:=k20 c.p (c.t:Nat) name
 have hsh:=k16 c.p other
 have hE:swapS c name other A.2 A.1=bif decide (localI c.p c.t name ≥ 0) then putS { nd00 with kind:=4,a:=A.2,thing:=findI c.p.shared other 0,slot:=localI c.p c.t name } A.1
  else giveS c name (inV (slotI A.1)) (putS { nd00 with kind:=4,a:=A.2,thing:=findI c.p.shared other 0,slot:=slotI A.1 } (slotS A.1)):=rfl
 generalize swapS c name other A.2 A.1=R at hE ⊢
 generalize localI c.p (c.t:Nat) name=LI at hloc hE
 generalize findI c.p.shared other 0=FI at hsh hE
 refine Ctr.mv [1,2000001,2,3,6,7,8] [0,3,4] 5 hT hmix Tryz.func85 rfl (fun _ _=>by kernel_rfl) rfl (fun hok => ?_)
 clear hok
 conv=>whnf
 refine CutL.by (fun _:Unit=>⟨[(0,.ptr 0 0),(3,.ptr 5 0)],[(0,stB c (s) 3 4),(3,ndsB (s).nodes),(4,opsB (s).opens),(5,.cells 105 ((Stmt.mk kind name other (Expr.mk q1 q2 q3 q4 q5 q6::er) body els at_).cells.map .tr))],20⟩) (fun _=>True) ?_ ?_
 ·conv=>whnf
  exact ⟨(),[0,1,2,3,4,5],[],Sub.mk' rfl aut aut rfl rfl,trivial⟩
 rintro - - -
 conv=>whnf
 refine CutL.by (fun _:Unit=>⟨[(0,.ptr 0 0),(3,.ptr 5 0),(4,.ptr 6 0)],[(0,stB c (A.1) 3 4),(3,ndsB (A.1).nodes),(4,opsB (A.1).opens),(5,.cells 105 ((Stmt.mk kind name other (Expr.mk q1 q2 q3 q4 q5 q6::er) body els at_).cells.map .tr)),(6,.cells 75 (({ nd00 with kind:=4,a:=A.2,thing:=FI }:Nd).cells.map .tr))],20⟩) (fun _=>True) ?_ ?_
 ·conv=>whnf
  refine drawV_region (h:=0) (t := 92) (cs:=[.tr (declsT c.p.shared),.tr (declsT c.p.locks),.tr (threadsT c.p.threads)]) hT hmix (by decide) ⟨_,rfl,rfl⟩ ?_
  conv=>whnf
  (repeat (refine ⟨trivial,?_⟩; conv=>whnf))
  refine ⟨rfl,Int.le_refl 0,(show (0:Int)<((Expr.rows (Expr.mk q1 q2 q3 q4 q5 q6::er)).length:Int) by rw [erows_len,List.length_cons]; omega),fun row hrow => ?_⟩
  obtain rfl:Expr.cells (.mk q1 q2 q3 q4 q5 q6)=row:=Option.some.inj hrow
  clear hrow
  conv=>whnf
  (repeat (refine ⟨trivial,?_⟩; conv=>whnf))
  refine acall.new [0,3,4] [] _ _ _ _ (hv) rfl rfl rfl rfl aut aut rfl rfl ?_
  conv=>whnf
  refine ⟨⟨rfl,rfl⟩,?_⟩
  conv=>whnf
  (repeat (refine ⟨trivial,?_⟩; conv=>whnf))
  refine acall.pure _ (hsh) rfl rfl ?_
  conv=>whnf
  (repeat (refine ⟨trivial,?_⟩; conv=>whnf))
  refine ⟨by kernel_rfl,?_⟩
  conv=>whnf
  intro _
  conv=>whnf
  exact ⟨(),[0,1,2,_,_,5,_],[],Sub.aw,trivial⟩
 rintro - - -
 conv=>whnf
 refine CutL.by (fun _:Unit=>⟨[(0,.ptr 0 0),(3,.ptr 5 0),(4,.ptr 6 0),(5,.tr (ti LI))],[(0,stB c (A.1) 3 4),(3,ndsB (A.1).nodes),(4,opsB (A.1).opens),(5,.cells 105 ((Stmt.mk kind name other (Expr.mk q1 q2 q3 q4 q5 q6::er) body els at_).cells.map .tr)),(6,.cells 75 (({ nd00 with kind:=4,a:=A.2,thing:=FI }:Nd).cells.map .tr))],20⟩) (fun _=>True) ?_ ?_
 ·conv=>whnf
  refine acall.pure _ (hloc) rfl rfl ?_
  conv=>whnf
  refine ⟨by kernel_rfl,fun _ => ?_⟩
  conv=>whnf
  exact ⟨(),[0,1,2,3,4,5,6],[],Sub.mk' rfl aut aut rfl rfl,trivial⟩
 rintro - - -
 conv=>whnf
 refine CutL.by (fun _:Unit=>⟨[(0,.ptr 0 0),(3,.ptr 5 0),(4,.ptr 6 0)],[(0,stB c (A.1) 3 4),(3,ndsB (A.1).nodes),(4,opsB (A.1).opens),(5,.cells 105 ((Stmt.mk kind name other (Expr.mk q1 q2 q3 q4 q5 q6::er) body els at_).cells.map .tr)),(6,.cells 75 (({ nd00 with kind:=4,a:=A.2,thing:=FI }:Nd).cells.map .tr))],20⟩) (fun _=>decide (LI ≥ 0)=false) ?_ ?_
 ·conv=>whnf
  cases h3:decide (LI ≥ 0) with
  | true =>
   rw [h3,cond_true] at hE
   have hp:=k_putG c { nd00 with kind:=4,a:=A.2,thing:=FI,slot:=LI } A.1 hA.ok
   rw [← hE] at hp
   clear hE
   conv=>whnf
   refine acall.new [0,3,4] [] _ _ _ _ (hp) rfl rfl rfl rfl aut aut rfl rfl ?_
   conv=>whnf
   intro _
   conv=>whnf
   exact ⟨[0,1,2,_,_],rfl,rfl,trivial,⟨rfl,.inl rfl,.inl rfl,.inl rfl,.inl rfl,.inl rfl,.inl rfl,.inl rfl,⟨rfl,rfl⟩,⟨rfl,rfl⟩,.inl rfl,trivial⟩,⟨rfl,rfl,rfl,rfl⟩,⟨rfl,rfl,rfl,rfl⟩,trivial⟩
  | false =>
   conv=>whnf
   exact ⟨(),[0,1,2,3,4,5,6],[],Sub.mk' rfl aut aut rfl rfl,rfl⟩
 rintro - h3 -
 rw [h3,cond_false] at hE
 have hp:=k_putG c { nd00 with kind:=4,a:=A.2,thing:=FI,slot:=slotI A.1 } (slotS A.1) (slotS_ok hA.ok)
 have hA2:=hA.relE ((slotS_rel A.1).trans (putS_rel { nd00 with kind:=4,a:=A.2,thing:=FI,slot:=slotI A.1 } (slotS A.1)))
 generalize putS { nd00 with kind:=4,a:=A.2,thing:=FI,slot:=slotI A.1 } (slotS A.1)=S2 at hE hp hA2
 have hg:=k_giveG c name (inV (slotI A.1)) S2 hA2
 rw [← hE] at hg
 clear hE
 conv=>whnf
 refine CutL.by (fun _:Unit=>⟨[(0,.ptr 0 0),(3,.ptr 5 0),(4,.ptr 6 0)],[(0,stB c (slotS A.1) 3 4),(3,ndsB (slotS A.1).nodes),(4,opsB (slotS A.1).opens),(5,.cells 105 ((Stmt.mk kind name other (Expr.mk q1 q2 q3 q4 q5 q6::er) body els at_).cells.map .tr)),(6,.cells 75 (({ nd00 with kind:=4,a:=A.2,thing:=FI,slot:=slotI A.1 }:Nd).cells.map .tr))],20⟩) (fun _=>True) ?_ ?_
 ·conv=>whnf
  refine acall.au [0,3,4] [] (k_slotG c A.1) ?_
  intro _
  conv=>whnf
  exact ⟨(),[0,1,2,3,4,5,6],[],Sub.mk' rfl aut aut rfl rfl,trivial⟩
 rintro - - -
 conv=>whnf
 refine CutL.by (fun _:Unit=>⟨[(0,.ptr 0 0),(3,.ptr 5 0),(4,.ptr 6 0)],[(0,stB c (S2) 3 4),(3,ndsB (S2).nodes),(4,opsB (S2).opens),(5,.cells 105 ((Stmt.mk kind name other (Expr.mk q1 q2 q3 q4 q5 q6::er) body els at_).cells.map .tr)),(6,.cells 75 (({ nd00 with kind:=4,a:=A.2,thing:=FI,slot:=slotI A.1 }:Nd).cells.map .tr))],20⟩) (fun _=>True) ?_ ?_
 ·conv=>whnf
  refine acall.new [0,3,4] [] _ _ _ _ (hp) rfl rfl rfl rfl aut aut rfl rfl ?_
  conv=>whnf
  intro _
  conv=>whnf
  exact ⟨(),[0,1,2,_,_,5,6],[],Sub.aw,trivial⟩
 rintro - - -
 conv=>whnf
 refine acall.pure _ (k_inV (slotI A.1)) rfl rfl ?_
 conv=>whnf
 refine acall.new [0,3,4] [] _ _ _ _ (hg) rfl rfl rfl rfl aut aut rfl rfl ?_
 conv=>whnf
 refine ⟨by kernel_rfl,fun _ => ?_⟩
 conv=>whnf
 exact ⟨[0,1,2,_,_],rfl,rfl,trivial,⟨rfl,.inl rfl,.inl rfl,.inl rfl,.inl rfl,.inl rfl,.inl rfl,.inl rfl,⟨rfl,rfl⟩,⟨rfl,rfl⟩,.inl rfl,trivial⟩,⟨rfl,rfl,rfl,rfl⟩,⟨rfl,rfl,rfl,rfl⟩,trivial⟩
theorem k_blkG (c:LowC) (l:List Stmt) (hw:wfSs l=true):KBlk c l:=k_blockG c (k_swapG c) _ l (Nat.lt_succ_self _) hw
end Go.Proofs.YthboippafkcoiaaGreatDoor.am
