/- Plain: the unit of a program that Check lets pass is right. Plain: the run of a whole thread, by its tree and by its graph; the nodes are right. -/
import Derived.Test.YthboippafkcoiaaGreatDoorU12
import Derived.Test.YthboippafkcoiaaGreatDoorProg
import Derived.WalkLawsBesides
import Derived.Deep.WholeRow
import Derived.Lib.Hide
import Derived.Below
import Derived.Test.YthboippafkcoiaaGreatDoorU6
import Derived.Lib.Mul64
import Derived.Laws.Bits64b
import Derived.ShutString
set_option linter.all false
namespace Go.Proofs.YthboippafkcoiaaGreatDoor.am
open Go Go.Proofs
set_option linter.all false
theorem lowTs_some (p:Prg) : ∀ (l:List Thread) (i:Nat) (gs:List Gr),(∀ th ∈ l,th.locals.length≤64)→lowTs p i l=some gs→gs.length=l.length ∧ ∀ j th,l[j]? = some th→gs[j]? = some (thrG p (i+j) th)∧szB (thrC p (i+j) th) th.body<4096
 | [],i,gs,_,h=>by cases h; exact ⟨rfl,fun j th e=>by cases e⟩
 | x::r,i,gs,hl,h=>by
  unfold lowTs at h
  cases ho:(endS (blockS (thrC p i x) x.body (low0 x))).over with
  | true=>rw [ho] at h; cases h
  | false =>
   rw [ho,cond_false] at h
   cases hr:lowTs p (i+1) r with
   | none=>rw [hr] at h; cases h
   | some q =>
    rw [hr] at h
    cases h
    obtain ⟨e1,e2⟩:=thr_lw p i x (hl x (.head _)) ho
    obtain ⟨e3,e4⟩:=lowTs_some p r (i+1) q (fun th hm=>hl th (.tail _ hm)) hr
    refine ⟨by rw [List.length_cons,List.length_cons,e3],fun j th e => ?_⟩
    cases j with
    | zero =>
     cases e
     exact ⟨congrArg some e1,e2⟩
    | succ j =>
     have:=e4 j th e
     rwa [show i+1+j=i+(j+1) by omega] at this
theorem localI_lt {p:Prg} {t:Nat} {th:Thread} (ht:p.threads[t]? = some th) (name:ByteArray):localI p t name<(locN th:Nat):=by
 unfold localI
 rw [if_neg (by omega),Int.toNat_natCast,ht]
 have:=findI_lt th.locals name 0
 rw [Nat.zero_add] at this
 unfold locN
 rw [List.length_map]
 exact this
theorem thr_right {p:Prg} (hp:PrgOk p) {t:Nat} {th:Thread} (ht:p.threads[t]? = some th) (hz:szB (thrC p t th) th.body<4096) (gs:List Gr) : ∀ n ∈ (thrG p t th).nodes,rightB ⟨p.shared,p.locks,gs⟩ (thrG p t th) n=true:=by
 have hlen:=thr_len p t th
 have hc:RCtx (thrC p t th) ⟨p.shared,p.locks,gs⟩ (thrG p t th) (locN th+slB (thrC p t th) th.body) (szB (thrC p t th) th.body+1):=⟨rfl,hlen,by omega,rfl,rfl,fun name=>by have:=localI_lt ht name; show localI p t name<_; omega⟩
 have hk:=stmtsF_ok (thrC p t th) th.body 1 (hp.threads t th ht).body
 exact mem_app (block_right hc th.body 0 (locN th) _ hk (by omega) (Nat.le_refl _) (by omega)) (mem_cons2 (right_end hc.slots hc.nodes (by omega)) mem_nil)
structure UnOk (p:Prg) (gs:List Gr):Prop where
 prg:PrgOk p
 len:gs.length=p.threads.length
 at_ : ∀ t th,p.threads[t]? = some th→gs[t]? = some (thrG p t th)∧szB (thrC p t th) th.body<4096
theorem unit_ok {p:Prg} {gs:List Gr} (hc:(checkW p).1=0) (h:lowTs p 0 p.threads=some gs):UnOk p gs:=by
 have hp:=check_prg hc
 have hm : ∀ th ∈ p.threads,th.locals.length≤64:=fun th hm=>by
  obtain ⟨i,hi,e⟩:=List.mem_iff_getElem.1 hm
  exact decls_few (most:=64) (hp.threads i th (by rw [List.getElem?_eq_getElem hi,e])).locals
 obtain ⟨h1,h2⟩:=lowTs_some p p.threads 0 gs hm h
 have h3 : ∀ t th,p.threads[t]? = some th→gs[t]? = some (thrG p t th)∧szB (thrC p t th) th.body<4096:=fun t th e=>by
  have:=h2 t th e; rwa [Nat.zero_add] at this
 exact ⟨hp,h1,h3⟩
theorem lower_cases (p:Prg):((lowerU p).2≠0∧(lowerU p).1=⟨[],[],[]⟩) ∨ ∃ gs,lowerU p=(⟨p.shared,p.locks,gs⟩,0)∧UnOk p gs:=by
 unfold lowerU
 cases hc:((checkW p).1 != 0) with
 | true =>
  rw [cond_true]
  exact .inl ⟨by simpa using hc,rfl⟩
 | false =>
  rw [cond_false]
  cases hl:lowTs p 0 p.threads with
  | none=>exact .inl ⟨(show (3:Int)≠0 by decide),rfl⟩
  | some gs=>exact .inr ⟨gs,rfl,unit_ok (by simpa using hc) hl⟩
end Go.Proofs.YthboippafkcoiaaGreatDoor.am
namespace Go.Proofs.YthboippafkcoiaaGreatDoor.am
open Go Go.Proofs
set_option linter.all false
def gvRun (L:List Nd) (ws:List Int):Nat→GS→List Act × Bool
 | 0,g=>(g.acts,false)
 | n+1,g=>match L[g.at_]? with
  | some d=>bif d.kind == 9 then (g.acts,true) else gvRun L ws n (gvDo ws d g)
  | none=>(g.acts,false)
theorem gvDo_pre (ws:List Int) (n:Nd) (g:GS):g.acts <+: (gvDo ws n g).acts:=by
 unfold gvDo
 cases n.kind == 9 <;> cases n.kind == 1 <;> cases n.kind == 2 <;> cases n.kind == 4 <;> cases n.kind == 3 <;> cases n.kind == 7 <;> cases (n.kind == 5 || n.kind == 6) <;> simp only [cond_true,cond_false] <;> first | exact List.prefix_refl _ | exact List.prefix_append _ _
theorem gvRun_pre (L:List Nd) (ws:List Int) : ∀ (n:Nat) (g:GS),g.acts <+: (gvRun L ws n g).1
 | 0,g=>List.prefix_refl _
 | n+1,g=>by
  unfold gvRun
  split
  ·rename_i d _
   cases d.kind == 9 with
   | true=>exact List.prefix_refl _
   | false=>exact (gvDo_pre ws d g).trans (gvRun_pre L ws n _)
  ·exact List.prefix_refl _
theorem gvStep_stop {L:List Nd} {ws:List Int} {g:GS} {d:Nd} (h:L[g.at_]? = some d) (h9:(d.kind == 9)=true):gvStep L ws g=g:=by
 unfold gvStep
 rw [h]
 show gvDo ws d g=g
 unfold gvDo
 rw [h9]; rfl
theorem gvSteps_stop {L:List Nd} {ws:List Int} {g:GS} (h:gvStep L ws g=g) : ∀ n,gvSteps L ws n g=g
 | 0=>rfl
 | n+1=>by show gvSteps L ws n (gvStep L ws g)=g; rw [h]; exact gvSteps_stop h n
theorem gvRun_steps (L:List Nd) (ws:List Int) : ∀ (j n:Nat) (g:GS),j≤n→(gvSteps L ws j g).acts <+: (gvRun L ws n g).1
 | 0,n,g,_=>gvRun_pre L ws n g
 | j+1,0,g,h=>by omega
 | j+1,n+1,g,h=>by
  have ih:=gvRun_steps L ws j n
  show (gvSteps L ws j (gvStep L ws g)).acts <+: _
  unfold gvRun
  cases hd:L[g.at_]? with
  | none =>
   have:gvStep L ws g=g:=by unfold gvStep; rw [hd]
   rw [this,gvSteps_stop this]
   exact List.prefix_refl _
  | some d =>
   cases h9:d.kind == 9 with
   | true =>
    have:=gvStep_stop (ws:=ws) hd h9
    rw [this,gvSteps_stop this]
    simp only [h9]
    exact List.prefix_refl _
   | false =>
    have:gvStep L ws g=gvDo ws d g:=by unfold gvStep; rw [hd]
    rw [this]
    simp only [h9,cond_false]
    exact ih _ (by omega)
theorem gvRun_end (L:List Nd) (ws:List Int) {d:Nd} (h9:(d.kind == 9)=true) : ∀ (j n:Nat) (g:GS),j<n→L[(gvSteps L ws j g).at_]? = some d→gvRun L ws n g=((gvSteps L ws j g).acts,true)
 | _,0,g,h,_=>by omega
 | 0,n+1,g,_,hd=>by
  have hd:L[g.at_]? = some d:=hd
  unfold gvRun
  rw [hd]
  show (bif d.kind == 9 then _ else _)=_
  rw [h9]; rfl
 | j+1,n+1,g,h,hd=>by
  have ih:=gvRun_end L ws h9 j n
  have hd:L[(gvSteps L ws j (gvStep L ws g)).at_]? = some d:=hd
  show _=((gvSteps L ws j (gvStep L ws g)).acts,true)
  unfold gvRun
  cases he:L[g.at_]? with
  | none =>
   have e:gvStep L ws g=g:=by unfold gvStep; rw [he]
   rw [e,gvSteps_stop e,he] at hd
   cases hd
  | some x =>
   cases hx:x.kind == 9 with
   | true =>
    have e:=gvStep_stop (ws:=ws) he hx
    rw [e,gvSteps_stop e]
    simp only [hx,cond_true]
   | false =>
    have e:gvStep L ws g=gvDo ws x g:=by unfold gvStep; rw [he]
    rw [e] at hd ⊢
    simp only [hx,cond_false]
    exact ih _ (by omega) hd
structure GI (S N:Nat) (g:GS):Prop where
 wide:g.slots.length=S
 at_:g.at_<N
structure NdIn (S N:Nat) (n:Nd):Prop where
 k0:1≤n.kind
 k1:n.kind<10
 o0:0≤n.op
 o1:n.op<19
 s0:0≤n.slot
 s1:n.slot<(S:Nat)
 a:n.a.s=true→0≤n.a.k∧n.a.k<(S:Nat)
 b:n.b.s=true→0≤n.b.k∧n.b.k<(S:Nat)
 x0:0≤n.next
 x1:n.next<(N:Nat)
 e0:0≤n.els
 e1:n.els<(N:Nat)
theorem within_any {p has k most m:Int} (h:withinB p has k most=true) (hm:most≤m) (h0:0<m):0≤k∧k<m:=by
 unfold withinB at h
 simp only [Bool.or_eq_true,Bool.and_eq_true,beq_iff_eq,decide_eq_true_eq] at h
 rcases h with ⟨_,h⟩ | ⟨⟨_,h1⟩,h2⟩ <;> omega
theorem value_any {p has:Int} {v:Val} {S m:Int} (h:valueB p has v S=true) (hm:S≤m) (hs:v.s=true):0≤v.k∧v.k<m:=by
 unfold valueB at h
 cases hp:(andP p has == 0) with
 | true=>rw [hp,cond_true,hs] at h; cases h
 | false =>
  rw [hp,cond_false,hs,cond_true] at h
  simp only [Bool.and_eq_true,decide_eq_true_eq] at h
  omega
theorem nd_in {u:Un} {g:Gr} {n:Nd} {S N:Nat} (hS:g.slots=(S:Nat)) (hN:g.nodes.length=N) (hp:0<N) (h0:1≤n.kind) (h:rightB u g n=true):NdIn (S+1) N n:=by
 unfold rightB at h
 cases hh:headR n with
 | true=>rw [hh] at h; cases h
 | false =>
  rw [hh,cond_false] at h
  unfold headR at hh
  simp only [Bool.or_eq_false_iff,decide_eq_false_iff_not] at hh
  unfold fieldsR at h
  simp only [Bool.and_eq_true] at h
  obtain ⟨⟨⟨⟨⟨⟨w1,w2⟩,w3⟩,w4⟩,w5⟩,w6⟩,w7⟩:=h
  rw [hS] at w2 w6 w7
  rw [hN] at w4 w5
  have a1:=within_any w1 (Int.le_refl _) (by decide)
  have a2:=within_any (m:=((S+1:Nat):Int)) w2 (by omega) (by omega)
  have a4:=within_any w4 (Int.le_refl _) (by omega)
  have a5:=within_any w5 (Int.le_refl _) (by omega)
  exact ⟨h0,by omega,a1.1,a1.2,a2.1,a2.2,value_any (m:=((S+1:Nat):Int)) w6 (by omega),value_any (m:=((S+1:Nat):Int)) w7 (by omega),a4.1,a4.2,a5.1,a5.2⟩
theorem runs_same (p:Prg) (t:Nat) (th:Thread) (ws:List Int) (hok:okSs (thrC p t th) th.body=true) (hloc : ∀ name,localI p t name<(locN th:Nat)) :
  (blockR6 (thrC p t th) ws th.body ⟨List.replicate (locN th) 0,0,3000,[]⟩).acts <+: (gvRun (thrD p t th) ws 9000 ⟨List.replicate (locN th+slB (thrC p t th) th.body+1) 0,0,0,[]⟩).1 ∧
  (0<(blockR6 (thrC p t th) ws th.body ⟨List.replicate (locN th) 0,0,3000,[]⟩).fuel→(gvRun (thrD p t th) ws 9000 ⟨List.replicate (locN th+slB (thrC p t th) th.body+1) 0,0,0,[]⟩)=((blockR6 (thrC p t th) ws th.body ⟨List.replicate (locN th) 0,0,3000,[]⟩).acts,true)):=by
 have hat:At (thrD p t th) 0 (thrD p t th):=fun i n e=>by rw [Nat.zero_add]; exact e
 have hap:=hat.app (blockD_len ..)
 rw [Nat.zero_add] at hap
 have hend:=hap.2.cons.1
 have hz : ∀ (n k:Nat),(List.replicate n (0:Int)).getD k 0=0:=fun n k=>by
  rw [List.getD_eq_getElem?_getD,List.getElem?_replicate]
  split <;> rfl
 have hs:=block_sim6 (thrC p t th) ws (thrD p t th) (locN th) hloc th.body ⟨List.replicate (locN th) 0,0,3000,[]⟩ 0 (locN th) (szB (thrC p t th) th.body) ⟨List.replicate (locN th+slB (thrC p t th) th.body+1) 0,0,0,[]⟩ hok hap.1
  ⟨fun k _=>by rw [hz,hz],List.length_replicate,rfl,rfl,by show locN th≤(List.replicate _ _).length; rw [List.length_replicate]; omega⟩ (by have:=goOn_same (szB (thrC p t th) th.body) 0; rw [Nat.zero_add] at this; exact this.symm) (Nat.le_refl _) (by show _≤(List.replicate _ _).length; rw [List.length_replicate]; omega)
 generalize blockR6 (thrC p t th) ws th.body ⟨List.replicate (locN th) 0,0,3000,[]⟩=s at hs ⊢
 generalize (⟨List.replicate (locN th+slB (thrC p t th) th.body+1) 0,0,0,[]⟩:GS)=g at hs ⊢
 have hf:(⟨List.replicate (locN th) 0,0,3000,[]⟩:RS).fuel=3000:=rfl
 rcases Int.lt_or_le 0 s.fuel with q | q
 ·obtain ⟨g',⟨n,h1,rfl⟩,h2,h3,_⟩:=hs.1 q
  rw [hf] at h1
  have he:=gvRun_end (thrD p t th) ws (d := { nd00 with kind:=9,origin:=(szB (thrC p t th) th.body:Nat) }) rfl n 9000 g (by omega) (by rw [h3]; exact hend)
  rw [he,h2.acts]
  exact ⟨List.prefix_refl _,fun _=>rfl⟩
 ·obtain ⟨g',⟨n,h1,rfl⟩,h2⟩:=hs.2 q
  rw [hf] at h1
  have:=gvRun_steps (thrD p t th) ws n 9000 g (by omega)
  rw [h2] at this
  exact ⟨this,fun h=>by omega⟩
end Go.Proofs.YthboippafkcoiaaGreatDoor.am
namespace Go.Proofs.YthboippafkcoiaaGreatDoor.am
open Go Go.Proofs
set_option linter.all false
abbrev actsT (l:List Act):Tr := .lst 3 24 (l.map Act.cells)
set_option maxRecDepth 100000 in
theorem k_valueOf (sl:List Int) (v:Val) (h:v.s=true→0≤v.k∧v.k<(sl.length:Nat)):K 54 [.tr (intsT sl),.agg [.tr (tb v.s),.tr (ti v.k),.tr (ti v.w)]] [] (.ret (.tup [.tr (ti (gvV sl v)),.tr (tb true)])) []:=by
 obtain ⟨s,k,w⟩:=v
 simp only at h
 have hl:(sl.map irow).length=sl.length:=List.length_map ..
 cases s with
 | false =>
  refine Ctr.of hT hmix Tryz.func54 rfl (fun _ _=>by kernel_rfl) rfl fun hok => ?_
  clear hok
  conv=>whnf
  exact aut
 | true =>
  obtain ⟨h1,h2⟩:=h rfl
  have e1:decide (k<0)=false:=decide_eq_false (by omega)
  have e2:decide (k ≥ ((sl.map irow).length:Int))=false:=decide_eq_false (by omega)
  obtain ⟨x,hx⟩ : ∃ x,sl[k.toNat]? = some x:=⟨_,List.getElem?_eq_getElem (by omega)⟩
  have hg:gvV sl ⟨true,k,w⟩=x:=by show sl.getD k.toNat 0=x; rw [List.getD_eq_getElem?_getD,hx]; rfl
  rw [hg]
  refine Ctr.of hT hmix Tryz.func54 rfl (fun _ _=>by kernel_rfl) rfl fun hok => ?_
  clear hok
  conv=>whnf
  rw [e1]
  conv=>whnf
  rw [e2]
  conv=>whnf
  refine ⟨rfl,h1,(show k<((sl.map irow).length:Int) by omega),fun row hrow => ?_⟩
  obtain ⟨d,hd,rfl⟩:=irow_at hrow
  obtain rfl:=Option.some.inj (hx.symm.trans hd)
  clear hrow hd
  conv=>whnf
  exact aut
set_option maxRecDepth 100000 in
set_option maxHeartbeats 8000000 in
theorem k_graphW (g:Gr) (ws:List Int) (S N:Nat) (hS:g.slots=(S:Nat)) (hS4:S≤4160) (hN:g.nodes.length=N) (hp:0<N) (hN4:N≤4096) (hnd : ∀ n ∈ g.nodes,NdIn (S+1) N n):K 16 [g.av,.tr (intsT ws),.tr (ti 9000)] [] (.ret (.tup [.tr (actsT (gvRun g.nodes ws 9000 ⟨List.replicate (S+1) 0,0,0,[]⟩).1),.tr (tb (gvRun g.nodes ws 9000 ⟨List.replicate (S+1) 0,0,0,[]⟩).2)])) []:=by
 obtain ⟨gname,glocals,gslots,L⟩:=g
 simp only at hS hN hnd
 have hlw:(ws.map irow).length=ws.length:=List.length_map ..
 have hln:(L.map Nd.cells).length=N:=by rw [List.length_map]; exact hN
 have e1:decide (gslots<0)=false:=decide_eq_false (by omega)
 have e2:decide (gslots > 4160)=false:=decide_eq_false (by omega)
 have hw:IntKind.i64.wrap (gslots+1)=((S+1:Nat):Int):=by rw [w64 (by omega) (by omega)]; omega
 have hrep:List.replicate (S+1) [Tr.v (.int .i64 0)]=(List.replicate (S+1) (0:Int)).map irow:=by rw [List.map_replicate]; rfl
 have hlr:(List.replicate (S+1) (0:Int)).length=S+1:=List.length_replicate
 generalize hR:gvRun L ws 9000 ⟨List.replicate (S+1) 0,0,0,[]⟩=R
 refine Ctr.cut [11,12,13,15,18,20,28,31] hT hmix Tryz.func16 rfl (fun _ _=>by kernel_rfl) rfl fun hok => ?_
 have hlw8:=(hok.slot 1 rfl).tr.lst.2.1
 rw [hlw] at hlw8
 clear hok
 conv=>whnf
 rw [e1]
 conv=>whnf
 rw [e2]
 conv=>whnf
 rw [hw]
 refine ⟨by omega,Int.le_refl _,(by show ((S+1:Nat):Int)*8≤_; omega),?_⟩
 conv=>whnf
 rw [Int.toNat_natCast]
 refine LoopL.by (fun x:GS × Nat=>⟨[(1,.tr (intsT ws)),(2,.tr (ti (x.2:Nat))),(3,.ptr 0 0),(8,.sl 2 (x.1.acts).length),(9,.sl 1 (x.1.slots).length),(10,.tr (ti (x.1.reads:Nat))),(11,.tr (ti (x.1.at_:Nat)))],[(0,.cells 50 [.tr (ts gname),.tr (ti glocals),.tr (ti gslots),.tr (nodesT L)]),(1,.vec 2 1 8 ((x.1.slots).map irow)),(2,.vec 53 3 24 ((x.1.acts).map Act.cells))],20⟩) (fun x=>GI (S+1) N x.1∧x.1.acts.length+x.2≤9000∧x.1.reads+x.2≤9000∧R=gvRun L ws x.2 x.1) (fun x=>x.2) (⟨List.replicate (S+1) 0,0,0,[]⟩,9000) [_,_] [2]
  (Sub.mk' rfl ⟨.inl rfl,.inl rfl,⟨rfl,rfl⟩,⟨rfl,rfl,rfl,rfl⟩,⟨rfl,by rw [hlr]⟩,.inl rfl,.inl rfl,trivial⟩ ⟨⟨rfl,.inl rfl,.inl rfl,.inl rfl,.inl rfl,trivial⟩,⟨rfl,rfl,rfl,by rw [← hrep]; rfl⟩,⟨rfl,_,_,_,rfl,by decide⟩,trivial⟩ rfl rfl) ⟨⟨hlr,hp⟩,Nat.le_refl _,Nat.le_refl _,hR.symm⟩ ?_
 clear hR hrep hlr e1 e2 hw
 rintro ⟨⟨sl,rd,at_,ac⟩,m⟩ ⟨⟨hwd,hat⟩,hac,hrd,hR⟩ -
 simp only at hwd hat hac hrd hR
 conv=>whnf
 cases hm:decide ((m:Int) > 0) with
 | false =>
  have hm:=of_decide_eq_false hm
  obtain rfl:m=0:=by omega
  replace hR:R=(ac,false):=hR
  subst hR
  conv=>whnf
  refine ⟨fun _ => ?_,fun h=>absurd rfl h⟩
  conv=>whnf
  exact ⟨⟨⟨rfl,(by rw [List.length_map]; exact Nat.le_refl _),(by show Tr.lst 3 24 _=Tr.lst 3 24 (List.take _ _); rw [List.take_of_length_le (by rw [List.length_map]; exact Nat.le_refl _)])⟩,.inl rfl,trivial⟩,trivial⟩
 | true =>
  have hm:=of_decide_eq_true hm
  obtain ⟨m,rfl⟩ : ∃ k,m=k+1:=⟨m - 1,by omega⟩
  have hm1:IntKind.i64.wrap (((m+1:Nat):Int) - 1)=((m:Nat):Int):=by rw [w64 (by omega) (by omega)]; omega
  obtain ⟨n,hn⟩ : ∃ n,L[at_]? = some n:=⟨_,List.getElem?_eq_getElem (by omega)⟩
  have hin:=hnd n (List.mem_of_getElem? hn)
  have hR2:R=bif n.kind == 9 then (ac,true) else gvRun L ws m (gvDo ws n ⟨sl,rd,at_,ac⟩):=by
   rw [hR]
   show (match L[at_]? with
    | some d=>bif d.kind == 9 then (ac,true) else gvRun L ws m (gvDo ws d ⟨sl,rd,at_,ac⟩)
    | none=>(ac,false))=_
   rw [hn]
  clear hR
  have e3:decide ((at_:Int)<0)=false:=decide_eq_false (by omega)
  have e4:decide ((at_:Int) ≥ ((L.map Nd.cells).length:Int))=false:=decide_eq_false (by omega)
  obtain ⟨kind,op,slot,thing,⟨sa,ka,wa⟩,⟨sb,kb,wb⟩,next,els,origin⟩:=n
  obtain ⟨hk0,hk1,ho0,ho1,hs0,hs1,ha,hb,hx0,hx1,he0,he1⟩:=hin
  simp only at hk0 hk1 ho0 ho1 hs0 hs1 ha hb hx0 hx1 he0 he1
  have hva:=k_valueOf sl ⟨sa,ka,wa⟩ (by rw [hwd]; exact ha)
  have hvb:=k_valueOf sl ⟨sb,kb,wb⟩ (by rw [hwd]; exact hb)
  have hgA:gvV sl ⟨sa,ka,wa⟩=gvV sl ⟨sa,ka,wa⟩:=rfl
  have e5:decide (slot<0)=false:=decide_eq_false (by omega)
  have e6:decide (slot ≥ (sl.length:Int))=false:=decide_eq_false (by omega)
  conv=>whnf
  rw [e3]
  conv=>whnf
  rw [e4]
  conv=>whnf
  refine CutL.by (fun _:Unit=>⟨[(1,.tr (intsT ws)),(2,.tr (ti (m+1:Nat))),(3,.ptr 0 0),(8,.sl 2 (ac).length),(9,.sl 1 (sl).length),(10,.tr (ti (rd:Nat))),(11,.tr (ti (at_:Nat))),(12,.ptr 3 0)],[(0,.cells 50 [.tr (ts gname),.tr (ti glocals),.tr (ti gslots),.tr (nodesT L)]),(1,.vec 2 1 8 ((sl).map irow)),(2,.vec 53 3 24 ((ac).map Act.cells)),(3,.cells 75 ((Nd.mk kind op slot thing ⟨sa,ka,wa⟩ ⟨sb,kb,wb⟩ next els origin).cells.map .tr))],20⟩) (fun _=>True) ?_ ?_
  ·conv=>whnf
   refine ⟨rfl,(show (0:Int)≤at_ by omega),(show (at_:Int)<((L.map Nd.cells).length:Int) by omega),fun row hrow => ?_⟩
   obtain ⟨d,hd,rfl⟩:=nd_get hrow
   obtain rfl:=Option.some.inj (hn.symm.trans hd)
   clear hrow hd
   conv=>whnf
   exact ⟨(),[0,1,2,_],[],Sub.aw,trivial⟩
  rintro - - -
  conv=>whnf
  refine CutL.by (fun _:Unit=>⟨[(1,.tr (intsT ws)),(2,.tr (ti (m+1:Nat))),(3,.ptr 0 0),(8,.sl 2 (ac).length),(9,.sl 1 (sl).length),(10,.tr (ti (rd:Nat))),(11,.tr (ti (at_:Nat))),(12,.ptr 3 0),(13,.tr (ti (gvV sl ⟨sa,ka,wa⟩))),(14,.tr (tb true))],[(0,.cells 50 [.tr (ts gname),.tr (ti glocals),.tr (ti gslots),.tr (nodesT L)]),(1,.vec 2 1 8 ((sl).map irow)),(2,.vec 53 3 24 ((ac).map Act.cells)),(3,.cells 75 ((Nd.mk kind op slot thing ⟨sa,ka,wa⟩ ⟨sb,kb,wb⟩ next els origin).cells.map .tr))],20⟩) (fun _=>True) ?_ ?_
  ·conv=>whnf
   refine acall.gen [] [1] [.tr (intsT sl),.agg [.tr (tb sa),.tr (ti ka),.tr (ti wa)]] [] _ [] hva rfl rfl rfl rfl ⟨⟨rfl,(by rw [List.length_map]; exact Nat.le_refl _),(by show Tr.lst 1 8 _=Tr.lst 1 8 (List.take _ _); rw [List.take_of_length_le (by rw [List.length_map]; exact Nat.le_refl _)])⟩,aut,trivial⟩ trivial rfl rfl ?_
   intro _
   conv=>whnf
   exact ⟨(),[0,1,2,3],[],Sub.mk' rfl aut aut rfl rfl,trivial⟩
  rintro - - -
  generalize hA:gvV sl ⟨sa,ka,wa⟩=A
  conv=>whnf
  refine CutL.by (fun _:Unit=>⟨[(1,.tr (intsT ws)),(2,.tr (ti (m+1:Nat))),(3,.ptr 0 0),(8,.sl 2 (ac).length),(9,.sl 1 (sl).length),(10,.tr (ti (rd:Nat))),(11,.tr (ti (at_:Nat))),(12,.ptr 3 0),(13,.tr (ti A)),(14,.tr (tb true)),(15,.tr (ti (gvV sl ⟨sb,kb,wb⟩))),(16,.tr (tb true))],[(0,.cells 50 [.tr (ts gname),.tr (ti glocals),.tr (ti gslots),.tr (nodesT L)]),(1,.vec 2 1 8 ((sl).map irow)),(2,.vec 53 3 24 ((ac).map Act.cells)),(3,.cells 75 ((Nd.mk kind op slot thing ⟨sa,ka,wa⟩ ⟨sb,kb,wb⟩ next els origin).cells.map .tr))],20⟩) (fun _=>True) ?_ ?_
  ·conv=>whnf
   refine acall.gen [] [1] [.tr (intsT sl),.agg [.tr (tb sb),.tr (ti kb),.tr (ti wb)]] [] _ [] hvb rfl rfl rfl rfl ⟨⟨rfl,(by rw [List.length_map]; exact Nat.le_refl _),(by show Tr.lst 1 8 _=Tr.lst 1 8 (List.take _ _); rw [List.take_of_length_le (by rw [List.length_map]; exact Nat.le_refl _)])⟩,aut,trivial⟩ trivial rfl rfl ?_
   intro _
   conv=>whnf
   exact ⟨(),[0,1,2,3],[],Sub.mk' rfl aut aut rfl rfl,trivial⟩
  rintro - - -
  generalize hB:gvV sl ⟨sb,kb,wb⟩=Bv
  clear hva hvb hgA ha hb
  conv=>whnf
  refine CutL.by (fun _:Unit=>⟨[(1,.tr (intsT ws)),(2,.tr (ti (m+1:Nat))),(3,.ptr 0 0),(8,.sl 2 (ac).length),(9,.sl 1 (sl).length),(10,.tr (ti (rd:Nat))),(11,.tr (ti (at_:Nat))),(12,.ptr 3 0),(13,.tr (ti A)),(15,.tr (ti Bv))],[(0,.cells 50 [.tr (ts gname),.tr (ti glocals),.tr (ti gslots),.tr (nodesT L)]),(1,.vec 2 1 8 ((sl).map irow)),(2,.vec 53 3 24 ((ac).map Act.cells)),(3,.cells 75 ((Nd.mk kind op slot thing ⟨sa,ka,wa⟩ ⟨sb,kb,wb⟩ next els origin).cells.map .tr))],20⟩) (fun _=>True) ?_ ?_
  ·conv=>whnf
   rw [e5]
   conv=>whnf
   rw [e6]
   conv=>whnf
   exact ⟨(),[0,1,2,3],[],Sub.mk' rfl aut aut rfl rfl,trivial⟩
  rintro - - -
  clear e3 e4 e5 e6
  obtain ⟨W,hW⟩ : ∃ W,W=ws.getD rd 0:=⟨_,rfl⟩
  have hQ:gvDo ws ⟨kind,op,slot,thing,⟨sa,ka,wa⟩,⟨sb,kb,wb⟩,next,els,origin⟩ ⟨sl,rd,at_,ac⟩=bif kind == 9 then ⟨sl,rd,at_,ac⟩
   else bif kind == 1 then ⟨sl.set slot.toNat (recW op A Bv),rd,next.toNat,ac⟩
   else bif kind == 2 then ⟨sl.set slot.toNat W,rd+1,next.toNat,ac++[⟨2,thing,W⟩]⟩
   else bif kind == 4 then ⟨sl.set slot.toNat W,rd+1,next.toNat,ac++[⟨4,thing,A⟩]⟩
   else bif kind == 3 then ⟨sl,rd,next.toNat,ac++[⟨3,thing,A⟩]⟩
   else bif kind == 7 then ⟨sl,rd,next.toNat,ac++[⟨7,0,A⟩]⟩
   else bif kind == 5 || kind == 6 then ⟨sl,rd,next.toNat,ac++[⟨kind,thing,0⟩]⟩
   else ⟨sl,rd,bif A == 0 then els.toNat else next.toNat,ac⟩:=by rw [← hA,← hB,hW]; rfl
  rw [hQ] at hR2
  clear hQ hA hB
  have hidx : ∀ {row},(ws.map irow)[rd]? = some row→row=[ti W]:=fun {row} h=>by
   obtain ⟨d,hd,rfl⟩:=irow_at h
   have:ws.getD rd 0=d:=by rw [List.getD_eq_getElem?_getD,hd]; rfl
   rw [hW,this]
  have hWn : ¬ (rd<ws.length)→W=0:=fun h=>by rw [hW,List.getD_eq_getElem?_getD,List.getElem?_eq_none (by omega)]; rfl
  have hr1:IntKind.i64.wrap (((rd:Nat):Int)+1)=((rd+1:Nat):Int):=by rw [w64 (by omega) (by omega)]; omega
  clear hW
  conv=>whnf
  refine CutL.by (fun _:Unit=>⟨[(1,.tr (intsT ws)),(2,.tr (ti (m+1:Nat))),(3,.ptr 0 0),(8,.sl 2 (ac).length),(9,.sl 1 (sl).length),(10,.tr (ti (rd:Nat))),(11,.tr (ti (at_:Nat))),(12,.ptr 3 0),(13,.tr (ti A)),(15,.tr (ti Bv)),(17,.tr (ti (bif kind == 2 || kind == 4 then W else 0)))],[(0,.cells 50 [.tr (ts gname),.tr (ti glocals),.tr (ti gslots),.tr (nodesT L)]),(1,.vec 2 1 8 ((sl).map irow)),(2,.vec 53 3 24 ((ac).map Act.cells)),(3,.cells 75 ((Nd.mk kind op slot thing ⟨sa,ka,wa⟩ ⟨sb,kb,wb⟩ next els origin).cells.map .tr))],20⟩) (fun _=>True) ?_ ?_
  ·have hread : ∀ (b:Bool),(b=decide (((rd:Nat):Int)<((ws.map irow).length:Int)))→b=true∨W=0:=fun b hb=>by
    cases hq:decide (((rd:Nat):Int)<((ws.map irow).length:Int)) with
    | true=>exact .inl (hb.trans hq)
    | false=>have:=of_decide_eq_false hq; exact .inr (hWn (by omega))
   cases k2:(kind == 2) with
   | true =>
    have k2:=eq_of_beq k2
    subst k2
    conv=>whnf
    cases hq:decide (((rd:Nat):Int)<((ws.map irow).length:Int)) with
    | true =>
     have hq:=of_decide_eq_true hq
     conv=>whnf
     refine ⟨rfl,(show (0:Int)≤rd by omega),hq,fun row hrow => ?_⟩
     obtain rfl:=hidx hrow
     clear hrow
     conv=>whnf
     exact ⟨(),[0,1,2,3],[],Sub.mk' rfl aut aut rfl rfl,trivial⟩
    | false =>
     have hq:=of_decide_eq_false hq
     have hW0:=hWn (by omega)
     conv=>whnf
     exact ⟨(),[0,1,2,3],[],Sub.mk' rfl ⟨.inl rfl,.inl rfl,⟨rfl,rfl⟩,⟨rfl,rfl⟩,⟨rfl,rfl⟩,.inl rfl,.inl rfl,⟨rfl,rfl⟩,.inl rfl,.inl rfl,.inl (by rw [hW0]; rfl),trivial⟩ aut rfl rfl,trivial⟩
   | false =>
    cases k4:(kind == 4) with
    | true =>
     have k4:=eq_of_beq k4
     subst k4
     conv=>whnf
     cases hq:decide (((rd:Nat):Int)<((ws.map irow).length:Int)) with
     | true =>
      have hq:=of_decide_eq_true hq
      conv=>whnf
      refine ⟨rfl,(show (0:Int)≤rd by omega),hq,fun row hrow => ?_⟩
      obtain rfl:=hidx hrow
      clear hrow
      conv=>whnf
      exact ⟨(),[0,1,2,3],[],Sub.mk' rfl aut aut rfl rfl,trivial⟩
     | false =>
      have hq:=of_decide_eq_false hq
      have hW0:=hWn (by omega)
      conv=>whnf
      exact ⟨(),[0,1,2,3],[],Sub.mk' rfl ⟨.inl rfl,.inl rfl,⟨rfl,rfl⟩,⟨rfl,rfl⟩,⟨rfl,rfl⟩,.inl rfl,.inl rfl,⟨rfl,rfl⟩,.inl rfl,.inl rfl,.inl (by rw [hW0]; rfl),trivial⟩ aut rfl rfl,trivial⟩
    | false =>
     conv=>whnf
     rw [k2]
     conv=>whnf
     rw [k4]
     conv=>whnf
     exact ⟨(),[0,1,2,3],[],Sub.mk' rfl aut aut rfl rfl,trivial⟩
  rintro - - -
  clear hidx hWn
  conv=>whnf
  refine CutL.by (fun _:Unit=>⟨[(1,.tr (intsT ws)),(2,.tr (ti (m+1:Nat))),(3,.ptr 0 0),(8,.sl 2 (ac).length),(9,.sl 1 (sl).length),(10,.tr (ti ((bif kind == 2 || kind == 4 then rd+1 else rd):Nat))),(11,.tr (ti (at_:Nat))),(12,.ptr 3 0),(13,.tr (ti A)),(15,.tr (ti Bv)),(17,.tr (ti (bif kind == 2 || kind == 4 then W else 0)))],[(0,.cells 50 [.tr (ts gname),.tr (ti glocals),.tr (ti gslots),.tr (nodesT L)]),(1,.vec 2 1 8 ((sl).map irow)),(2,.vec 53 3 24 ((ac).map Act.cells)),(3,.cells 75 ((Nd.mk kind op slot thing ⟨sa,ka,wa⟩ ⟨sb,kb,wb⟩ next els origin).cells.map .tr))],20⟩) (fun _=>True) ?_ ?_
  ·cases k2:(kind == 2) with
   | true =>
    have k2:=eq_of_beq k2
    subst k2
    conv=>whnf
    rw [hr1]
    exact ⟨(),[0,1,2,3],[],Sub.mk' rfl aut aut rfl rfl,trivial⟩
   | false =>
    cases k4:(kind == 4) with
    | true =>
     have k4:=eq_of_beq k4
     subst k4
     conv=>whnf
     rw [hr1]
     exact ⟨(),[0,1,2,3],[],Sub.mk' rfl aut aut rfl rfl,trivial⟩
    | false =>
     conv=>whnf
     rw [k2]
     conv=>whnf
     rw [k4]
     conv=>whnf
     exact ⟨(),[0,1,2,3],[],Sub.mk' rfl aut aut rfl rfl,trivial⟩
  rintro - - -
  clear hr1
  obtain h | h | h | h | h | h | h | h | h:kind=1∨kind=2∨kind=3∨kind=4∨kind=5∨kind=6∨kind=7∨kind=8∨kind=9:=by omega
  ·subst h
   replace hR:R=gvRun L ws m ⟨sl.set slot.toNat (recW op A Bv),rd,next.toNat,ac⟩:=hR2
   clear hR2
   have hop:opOkB op=true:=by
    have:op=0∨(1≤op∧op≤16)∨op=17∨op=18:=by omega
    unfold opOkB two
    rcases this with rfl | ⟨q1,q2⟩ | rfl | rfl
    ·rfl
    ·rw [decide_eq_true (show op ≥ 1 from q1),decide_eq_true q2]; cases op == 0 <;> rfl
    ·rfl
    ·rfl
   have hrec:=k_reckon op A Bv hop
   generalize recW op A Bv=Q at hrec hR
   conv=>whnf
   refine acall.pure _ (hrec) rfl rfl ?_
   conv=>whnf
   refine ⟨rfl,hs0,(show slot<(sl.length:Int) by omega),?_⟩
   conv=>whnf
   refine ⟨rfl,rfl,(by show slot.toNat<(sl.map irow).length; rw [List.length_map]; omega),fun row hrow => ?_⟩
   obtain ⟨d,hd,rfl⟩:=irow_at hrow
   clear hrow hd
   refine ⟨(show 0+1≤1 by decide),?_⟩
   conv=>whnf
   refine ⟨by kernel_rfl,fun _ => ?_⟩
   conv=>whnf
   exact ⟨(⟨sl.set slot.toNat Q,rd,next.toNat,ac⟩,m),[0,1,2],[],Sub.mk' rfl ⟨.inl rfl,.inl (by rw [hm1]),⟨rfl,rfl⟩,⟨rfl,rfl⟩,⟨rfl,by rw [List.length_set]⟩,.inl rfl,.inl (by rw [Int.toNat_of_nonneg (by omega)]),trivial⟩ ⟨aut,⟨rfl,rfl,rfl,by rw [List.map_set]; rfl⟩,aut,trivial⟩ rfl rfl,⟨⟨(by show (sl.set _ _).length=_; rw [List.length_set]; exact hwd),by show next.toNat<N; omega⟩,(by show ac.length+m≤9000; omega),by show rd+m≤9000; omega,hR⟩,Nat.lt_succ_self _⟩
  ·subst h
   replace hR:R=gvRun L ws m ⟨sl.set slot.toNat W,rd+1,next.toNat,ac++[⟨2,thing,W⟩]⟩:=hR2
   clear hR2
   have hl8:(sl.set slot.toNat W).length=sl.length:=List.length_set
   conv=>whnf
   refine CutL.by (fun _:Unit=>⟨[(1,.tr (intsT ws)),(2,.tr (ti (m+1:Nat))),(3,.ptr 0 0),(8,.sl 2 (ac).length),(9,.sl 1 (sl.set slot.toNat W).length),(10,.tr (ti ((rd+1:Nat):Int))),(11,.tr (ti next)),(12,.ptr 3 0),(17,.tr (ti W))],[(0,.cells 50 [.tr (ts gname),.tr (ti glocals),.tr (ti gslots),.tr (nodesT L)]),(1,.vec 2 1 8 ((sl.set slot.toNat W).map irow)),(2,.vec 53 3 24 ((ac).map Act.cells)),(3,.cells 75 ((Nd.mk 2 op slot thing ⟨sa,ka,wa⟩ ⟨sb,kb,wb⟩ next els origin).cells.map .tr))],20⟩) (fun _=>True) ?_ ?_
   ·conv=>whnf
    refine ⟨rfl,hs0,(show slot<(sl.length:Int) by omega),?_⟩
    conv=>whnf
    refine ⟨rfl,rfl,(by show slot.toNat<(sl.map irow).length; rw [List.length_map]; omega),fun row hrow => ?_⟩
    obtain ⟨d,hd,rfl⟩:=irow_at hrow
    clear hrow hd
    refine ⟨(show 0+1≤1 by decide),?_⟩
    conv=>whnf
    exact ⟨(),[0,1,2,3],[],Sub.mk' rfl ⟨.inl rfl,.inl rfl,⟨rfl,rfl⟩,⟨rfl,rfl⟩,⟨rfl,by rw [hl8]⟩,.inl rfl,.inl rfl,⟨rfl,rfl⟩,.inl rfl,trivial⟩ ⟨aut,⟨rfl,rfl,rfl,by rw [List.map_set]; rfl⟩,aut,aut,trivial⟩ rfl rfl,trivial⟩
   rintro - - -
   replace hwd:(sl.set slot.toNat W).length=S+1:=by rw [hl8]; exact hwd
   generalize sl.set slot.toNat W=sl2 at hR hwd
   conv=>whnf
   refine ⟨rfl,rfl,rfl,(by rw [List.length_map]; exact Nat.le_refl _),(show (ac.length+1)*24≤150000000000000 by omega),fun q hq => ?_,?_⟩
   ·cases hq with
    | head=>exact Nat.ne_of_beq_eq_false rfl
    | tail _ h =>
     first
     | (cases h; done)
     | (cases h with
      | head=>exact Nat.ne_of_beq_eq_false rfl
      | tail _ h=>cases h)
   conv=>whnf
   exact ⟨(⟨sl2,rd+1,next.toNat,ac++[⟨2,thing,W⟩]⟩,m),[0,1,_],[],Sub.mk' rfl ⟨.inl rfl,.inl (by rw [hm1]),⟨rfl,rfl⟩,⟨rfl,by rw [List.length_append]; rfl⟩,⟨rfl,rfl⟩,.inl rfl,.inl (by rw [Int.toNat_of_nonneg (by omega)]),trivial⟩ ⟨⟨rfl,.inl rfl,.inl rfl,.inl rfl,.inl rfl,trivial⟩,⟨rfl,rfl,rfl,rfl⟩,⟨rfl,rfl,rfl,by rw [List.take_of_length_le (by rw [List.length_map]; exact Nat.le_refl _),List.map_append]; rfl⟩,trivial⟩ rfl rfl,⟨⟨hwd,by show next.toNat<N; omega⟩,(by show (ac++[_]).length+m≤9000; rw [List.length_append]; show ac.length+1+m≤9000; omega),by show rd+1+m≤9000; omega,hR⟩,Nat.lt_succ_self _⟩
  ·subst h
   replace hR:R=gvRun L ws m ⟨sl,rd,next.toNat,ac++[⟨3,thing,A⟩]⟩:=hR2
   clear hR2
   conv=>whnf
   refine ⟨rfl,rfl,rfl,(by rw [List.length_map]; exact Nat.le_refl _),(show (ac.length+1)*24≤150000000000000 by omega),fun q hq => ?_,?_⟩
   ·cases hq with
    | head=>exact Nat.ne_of_beq_eq_false rfl
    | tail _ h =>
     first
     | (cases h; done)
     | (cases h with
      | head=>exact Nat.ne_of_beq_eq_false rfl
      | tail _ h=>cases h)
   conv=>whnf
   exact ⟨(⟨sl,rd,next.toNat,ac++[⟨3,thing,A⟩]⟩,m),[0,1,_],[],Sub.mk' rfl ⟨.inl rfl,.inl (by rw [hm1]),⟨rfl,rfl⟩,⟨rfl,by rw [List.length_append]; rfl⟩,⟨rfl,rfl⟩,.inl rfl,.inl (by rw [Int.toNat_of_nonneg (by omega)]),trivial⟩ ⟨⟨rfl,.inl rfl,.inl rfl,.inl rfl,.inl rfl,trivial⟩,⟨rfl,rfl,rfl,rfl⟩,⟨rfl,rfl,rfl,by rw [List.take_of_length_le (by rw [List.length_map]; exact Nat.le_refl _),List.map_append]; rfl⟩,trivial⟩ rfl rfl,⟨⟨hwd,by show next.toNat<N; omega⟩,(by show (ac++[_]).length+m≤9000; rw [List.length_append]; show ac.length+1+m≤9000; omega),by show rd+m≤9000; omega,hR⟩,Nat.lt_succ_self _⟩
  ·subst h
   replace hR:R=gvRun L ws m ⟨sl.set slot.toNat W,rd+1,next.toNat,ac++[⟨4,thing,A⟩]⟩:=hR2
   clear hR2
   have hl8:(sl.set slot.toNat W).length=sl.length:=List.length_set
   conv=>whnf
   refine CutL.by (fun _:Unit=>⟨[(1,.tr (intsT ws)),(2,.tr (ti (m+1:Nat))),(3,.ptr 0 0),(8,.sl 2 (ac).length),(9,.sl 1 (sl.set slot.toNat W).length),(10,.tr (ti ((rd+1:Nat):Int))),(11,.tr (ti next)),(12,.ptr 3 0),(13,.tr (ti A))],[(0,.cells 50 [.tr (ts gname),.tr (ti glocals),.tr (ti gslots),.tr (nodesT L)]),(1,.vec 2 1 8 ((sl.set slot.toNat W).map irow)),(2,.vec 53 3 24 ((ac).map Act.cells)),(3,.cells 75 ((Nd.mk 4 op slot thing ⟨sa,ka,wa⟩ ⟨sb,kb,wb⟩ next els origin).cells.map .tr))],20⟩) (fun _=>True) ?_ ?_
   ·conv=>whnf
    refine ⟨rfl,hs0,(show slot<(sl.length:Int) by omega),?_⟩
    conv=>whnf
    refine ⟨rfl,rfl,(by show slot.toNat<(sl.map irow).length; rw [List.length_map]; omega),fun row hrow => ?_⟩
    obtain ⟨d,hd,rfl⟩:=irow_at hrow
    clear hrow hd
    refine ⟨(show 0+1≤1 by decide),?_⟩
    conv=>whnf
    exact ⟨(),[0,1,2,3],[],Sub.mk' rfl ⟨.inl rfl,.inl rfl,⟨rfl,rfl⟩,⟨rfl,rfl⟩,⟨rfl,by rw [hl8]⟩,.inl rfl,.inl rfl,⟨rfl,rfl⟩,.inl rfl,trivial⟩ ⟨aut,⟨rfl,rfl,rfl,by rw [List.map_set]; rfl⟩,aut,aut,trivial⟩ rfl rfl,trivial⟩
   rintro - - -
   replace hwd:(sl.set slot.toNat W).length=S+1:=by rw [hl8]; exact hwd
   generalize sl.set slot.toNat W=sl2 at hR hwd
   conv=>whnf
   refine ⟨rfl,rfl,rfl,(by rw [List.length_map]; exact Nat.le_refl _),(show (ac.length+1)*24≤150000000000000 by omega),fun q hq => ?_,?_⟩
   ·cases hq with
    | head=>exact Nat.ne_of_beq_eq_false rfl
    | tail _ h =>
     first
     | (cases h; done)
     | (cases h with
      | head=>exact Nat.ne_of_beq_eq_false rfl
      | tail _ h=>cases h)
   conv=>whnf
   exact ⟨(⟨sl2,rd+1,next.toNat,ac++[⟨4,thing,A⟩]⟩,m),[0,1,_],[],Sub.mk' rfl ⟨.inl rfl,.inl (by rw [hm1]),⟨rfl,rfl⟩,⟨rfl,by rw [List.length_append]; rfl⟩,⟨rfl,rfl⟩,.inl rfl,.inl (by rw [Int.toNat_of_nonneg (by omega)]),trivial⟩ ⟨⟨rfl,.inl rfl,.inl rfl,.inl rfl,.inl rfl,trivial⟩,⟨rfl,rfl,rfl,rfl⟩,⟨rfl,rfl,rfl,by rw [List.take_of_length_le (by rw [List.length_map]; exact Nat.le_refl _),List.map_append]; rfl⟩,trivial⟩ rfl rfl,⟨⟨hwd,by show next.toNat<N; omega⟩,(by show (ac++[_]).length+m≤9000; rw [List.length_append]; show ac.length+1+m≤9000; omega),by show rd+1+m≤9000; omega,hR⟩,Nat.lt_succ_self _⟩
  ·subst h
   replace hR:R=gvRun L ws m ⟨sl,rd,next.toNat,ac++[⟨5,thing,0⟩]⟩:=hR2
   clear hR2
   conv=>whnf
   refine ⟨rfl,rfl,rfl,(by rw [List.length_map]; exact Nat.le_refl _),(show (ac.length+1)*24≤150000000000000 by omega),fun q hq => ?_,?_⟩
   ·cases hq with
    | head=>exact Nat.ne_of_beq_eq_false rfl
    | tail _ h =>
     first
     | (cases h; done)
     | (cases h with
      | head=>exact Nat.ne_of_beq_eq_false rfl
      | tail _ h=>cases h)
   conv=>whnf
   exact ⟨(⟨sl,rd,next.toNat,ac++[⟨5,thing,0⟩]⟩,m),[0,1,_],[],Sub.mk' rfl ⟨.inl rfl,.inl (by rw [hm1]),⟨rfl,rfl⟩,⟨rfl,by rw [List.length_append]; rfl⟩,⟨rfl,rfl⟩,.inl rfl,.inl (by rw [Int.toNat_of_nonneg (by omega)]),trivial⟩ ⟨⟨rfl,.inl rfl,.inl rfl,.inl rfl,.inl rfl,trivial⟩,⟨rfl,rfl,rfl,rfl⟩,⟨rfl,rfl,rfl,by rw [List.take_of_length_le (by rw [List.length_map]; exact Nat.le_refl _),List.map_append]; rfl⟩,trivial⟩ rfl rfl,⟨⟨hwd,by show next.toNat<N; omega⟩,(by show (ac++[_]).length+m≤9000; rw [List.length_append]; show ac.length+1+m≤9000; omega),by show rd+m≤9000; omega,hR⟩,Nat.lt_succ_self _⟩
  ·subst h
   replace hR:R=gvRun L ws m ⟨sl,rd,next.toNat,ac++[⟨6,thing,0⟩]⟩:=hR2
   clear hR2
   conv=>whnf
   refine ⟨rfl,rfl,rfl,(by rw [List.length_map]; exact Nat.le_refl _),(show (ac.length+1)*24≤150000000000000 by omega),fun q hq => ?_,?_⟩
   ·cases hq with
    | head=>exact Nat.ne_of_beq_eq_false rfl
    | tail _ h =>
     first
     | (cases h; done)
     | (cases h with
      | head=>exact Nat.ne_of_beq_eq_false rfl
      | tail _ h=>cases h)
   conv=>whnf
   exact ⟨(⟨sl,rd,next.toNat,ac++[⟨6,thing,0⟩]⟩,m),[0,1,_],[],Sub.mk' rfl ⟨.inl rfl,.inl (by rw [hm1]),⟨rfl,rfl⟩,⟨rfl,by rw [List.length_append]; rfl⟩,⟨rfl,rfl⟩,.inl rfl,.inl (by rw [Int.toNat_of_nonneg (by omega)]),trivial⟩ ⟨⟨rfl,.inl rfl,.inl rfl,.inl rfl,.inl rfl,trivial⟩,⟨rfl,rfl,rfl,rfl⟩,⟨rfl,rfl,rfl,by rw [List.take_of_length_le (by rw [List.length_map]; exact Nat.le_refl _),List.map_append]; rfl⟩,trivial⟩ rfl rfl,⟨⟨hwd,by show next.toNat<N; omega⟩,(by show (ac++[_]).length+m≤9000; rw [List.length_append]; show ac.length+1+m≤9000; omega),by show rd+m≤9000; omega,hR⟩,Nat.lt_succ_self _⟩
  ·subst h
   replace hR:R=gvRun L ws m ⟨sl,rd,next.toNat,ac++[⟨7,0,A⟩]⟩:=hR2
   clear hR2
   conv=>whnf
   refine ⟨rfl,rfl,rfl,(by rw [List.length_map]; exact Nat.le_refl _),(show (ac.length+1)*24≤150000000000000 by omega),fun q hq => ?_,?_⟩
   ·cases hq with
    | head=>exact Nat.ne_of_beq_eq_false rfl
    | tail _ h =>
     first
     | (cases h; done)
     | (cases h with
      | head=>exact Nat.ne_of_beq_eq_false rfl
      | tail _ h=>cases h)
   conv=>whnf
   exact ⟨(⟨sl,rd,next.toNat,ac++[⟨7,0,A⟩]⟩,m),[0,1,_],[],Sub.mk' rfl ⟨.inl rfl,.inl (by rw [hm1]),⟨rfl,rfl⟩,⟨rfl,by rw [List.length_append]; rfl⟩,⟨rfl,rfl⟩,.inl rfl,.inl (by rw [Int.toNat_of_nonneg (by omega)]),trivial⟩ ⟨⟨rfl,.inl rfl,.inl rfl,.inl rfl,.inl rfl,trivial⟩,⟨rfl,rfl,rfl,rfl⟩,⟨rfl,rfl,rfl,by rw [List.take_of_length_le (by rw [List.length_map]; exact Nat.le_refl _),List.map_append]; rfl⟩,trivial⟩ rfl rfl,⟨⟨hwd,by show next.toNat<N; omega⟩,(by show (ac++[_]).length+m≤9000; rw [List.length_append]; show ac.length+1+m≤9000; omega),by show rd+m≤9000; omega,hR⟩,Nat.lt_succ_self _⟩
  ·subst h
   replace hR2:R=gvRun L ws m ⟨sl,rd,bif A == 0 then els.toNat else next.toNat,ac⟩:=hR2
   cases hA0:(A == 0) with
   | true =>
    rw [hA0,cond_true] at hR2
    have hR:=hR2
    conv=>whnf
    rw [hA0]
    conv=>whnf
    exact ⟨(⟨sl,rd,els.toNat,ac⟩,m),[0,1,2],[],Sub.mk' rfl ⟨.inl rfl,.inl (by rw [hm1]),⟨rfl,rfl⟩,⟨rfl,rfl⟩,⟨rfl,rfl⟩,.inl rfl,.inl (by rw [Int.toNat_of_nonneg (by omega)]),trivial⟩ aut rfl rfl,⟨⟨hwd,by show els.toNat<N; omega⟩,(by show ac.length+m≤9000; omega),by show rd+m≤9000; omega,hR⟩,Nat.lt_succ_self _⟩
   | false =>
    rw [hA0,cond_false] at hR2
    have hR:=hR2
    conv=>whnf
    rw [hA0]
    conv=>whnf
    exact ⟨(⟨sl,rd,next.toNat,ac⟩,m),[0,1,2],[],Sub.mk' rfl ⟨.inl rfl,.inl (by rw [hm1]),⟨rfl,rfl⟩,⟨rfl,rfl⟩,⟨rfl,rfl⟩,.inl rfl,.inl (by rw [Int.toNat_of_nonneg (by omega)]),trivial⟩ aut rfl rfl,⟨⟨hwd,by show next.toNat<N; omega⟩,(by show ac.length+m≤9000; omega),by show rd+m≤9000; omega,hR⟩,Nat.lt_succ_self _⟩
  ·subst h
   replace hR:R=(ac,true):=hR2
   subst hR
   conv=>whnf
   exact ⟨⟨⟨rfl,(by rw [List.length_map]; exact Nat.le_refl _),(by show Tr.lst 3 24 _=Tr.lst 3 24 (List.take _ _); rw [List.take_of_length_le (by rw [List.length_map]; exact Nat.le_refl _)])⟩,.inl rfl,trivial⟩,trivial⟩
end Go.Proofs.YthboippafkcoiaaGreatDoor.am
namespace Go.Proofs.YthboippafkcoiaaGreatDoor.am
open Go Go.Proofs
set_option linter.all false
def kB (n:Nd):Bool:=decide (1≤n.kind) && decide (n.kind≤8)
def OkN (a:Nat) (D:List Nd):Prop := ∀ i n,D[i]? = some n→kB n=true∧n.origin=((a+i:Nat):Int)
theorem OkN.nil {a:Nat}:OkN a []:=fun i n e=>by cases e
theorem OkN.app {a k:Nat} {X Y:List Nd} (hx:OkN a X) (hk:X.length=k) (hy:OkN (a+k) Y):OkN a (X++Y):=by
 subst hk
 intro i n e
 by_cases q:i<X.length
 ·rw [List.getElem?_append_left q] at e; exact hx i n e
 ·rw [List.getElem?_append_right (by omega)] at e
  have:=hy _ n e
  rwa [show a+X.length+(i - X.length)=a+i by omega] at this
theorem OkN.cons {a:Nat} {n:Nd} {Y:List Nd} (h1:kB n=true) (h2:n.origin=(a:Nat)) (hy:OkN (a+1) Y):OkN a (n::Y):=by
 intro i m e
 cases i with
 | zero=>cases e; exact ⟨h1,h2⟩
 | succ j =>
  have:=hy j m e
  rwa [show a+1+j=a+(j+1) by omega] at this
theorem OkN.one {a:Nat} {n:Nd} (h1:kB n=true) (h2:n.origin=(a:Nat)):OkN a [n] := .cons h1 h2 .nil
mutual
theorem expr_okN (c:LowC) : ∀ (e:Expr) (a m to:Nat),OkN a (exprD c e a m to)
 | .mk kind op _ name kids _,a,m,to=>by
  have h0:=fun a m to=>kid0_okN c kids a m to
  have h1:=fun a m to=>kid1_okN c kids a m to
  unfold exprD
  cases kind == 1 with
  | true=>exact .nil
  | false =>
  cases kind == 2 with
  | true =>
   cases decide (localI c.p c.t name ≥ 0) with
   | true=>exact .nil
   | false=>exact .one rfl rfl
  | false =>
  cases two op with
  | true=>exact (h0 _ _ _).app (kid0D_len ..) ((h1 _ _ _).app (kid1D_len ..) (.one rfl (by rw [Nat.add_assoc])))
  | false=>exact (h0 _ _ _).app (kid0D_len ..) (.one rfl rfl)
theorem kid0_okN (c:LowC) : ∀ (l:List Expr) (a m to:Nat),OkN a (kid0D c l a m to)
 | [],a,m,to=>by unfold kid0D; exact .nil
 | e::_,a,m,to=>by unfold kid0D; exact expr_okN c e a m to
theorem kid1_okN (c:LowC) : ∀ (l:List Expr) (a m to:Nat),OkN a (kid1D c l a m to)
 | [],a,m,to=>by unfold kid1D; exact .nil
 | _::r,a,m,to=>by unfold kid1D; exact kid0_okN c r a m to
end
mutual
theorem stmt_okN (c:LowC) : ∀ (x:Stmt) (a m to:Nat),OkN a (stmtD c x a m to)
 | .mk kind name other e body els _,a,m,to=>by
  have h0:=fun a m to=>kid0_okN c e a m to
  have hb:=fun a m to=>block_okN c body a m to
  have hl:=fun a m to=>block_okN c els a m to
  have lb:=fun a m to=>blockD_len c body a m to
  unfold stmtD
  cases kind == 1 with
  | true =>
   refine (h0 _ _ _).app (kid0D_len ..) ?_
   unfold giveN
   cases decide (localI c.p c.t name ≥ 0) <;> exact .one rfl rfl
  | false =>
  cases kind == 2 with
  | true =>
   refine (h0 _ _ _).app (kid0D_len ..) ?_
   unfold swapD
   cases decide (localI c.p c.t name ≥ 0)
   ·exact .cons rfl rfl (.one rfl rfl)
   ·exact .one rfl rfl
  | false =>
  cases kind == 3 with
  | true=>exact (h0 _ _ _).app (kid0D_len ..) (.cons rfl rfl ((hb _ _ _).app (lb ..) (hl _ _ _)))
  | false =>
  cases kind == 4 with
  | true=>exact (h0 _ _ _).app (kid0D_len ..) (.cons rfl rfl (hb _ _ _))
  | false =>
  cases kind == 5 with
  | true=>exact .cons rfl rfl ((hb _ _ _).app (lb ..) (.one rfl rfl))
  | false =>
  cases kind == 6 with
  | true=>exact (h0 _ _ _).app (kid0D_len ..) (.one rfl rfl)
  | false=>exact .nil
theorem block_okN (c:LowC) : ∀ (l:List Stmt) (a m to:Nat),OkN a (blockD c l a m to)
 | [],a,m,to=>by unfold blockD; exact .nil
 | x::r,a,m,to=>by
  have hx:=fun a m to=>stmt_okN c x a m to
  have hr:=fun a m to=>block_okN c r a m to
  unfold blockD
  exact (hx _ _ _).app (stmtD_len ..) (hr _ _ _)
end
theorem thr_node (p:Prg) (t:Nat) (th:Thread) {k:Nat} {n:Nd} (h:(thrG p t th).nodes[k]? = some n):n.origin=(k:Nat)∧0≤n.kind∧(n.kind == 9)=(k == (thrG p t th).nodes.length - 1):=by
 have hlen:=thr_len p t th
 have hat:At (thrD p t th) 0 (thrD p t th):=fun i n e=>by rw [Nat.zero_add]; exact e
 have hend:=(hat.app (blockD_len ..)).2.cons.1
 rw [Nat.zero_add] at hend
 have hN:=block_okN (thrC p t th) th.body 0 (locN th) (szB (thrC p t th) th.body)
 have h:(thrD p t th)[k]? = some n:=h
 have hk:=(List.getElem?_eq_some_iff.1 h).1
 show n.origin=(k:Nat)∧0≤n.kind∧(n.kind == 9)=(k == (thrD p t th).length - 1)
 rw [hlen,Nat.add_sub_cancel]
 rcases Nat.lt_or_ge k (szB (thrC p t th) th.body) with q | q
 ·have h2:(blockD (thrC p t th) th.body 0 (locN th) (szB (thrC p t th) th.body))[k]? = some n:=by
   have:thrD p t th=_++_:=rfl
   rw [this,List.getElem?_append_left (by rw [blockD_len]; exact q)] at h
   exact h
  obtain ⟨q1,q2⟩:=hN k n h2
  unfold kB at q1
  rw [Bool.and_eq_true,decide_eq_true_eq,decide_eq_true_eq] at q1
  rw [Nat.zero_add] at q2
  refine ⟨q2,by omega,?_⟩
  have e1:(n.kind == 9)=false:=by rw [beq_eq_false_iff_ne]; omega
  have e2:(k == szB (thrC p t th) th.body)=false:=by rw [beq_eq_false_iff_ne]; omega
  rw [e1,e2]
 ·obtain rfl:k=szB (thrC p t th) th.body:=by omega
  obtain rfl:=Option.some.inj (hend.symm.trans h)
  exact ⟨rfl,(show (0:Int)≤9 by decide),by simp⟩
end Go.Proofs.YthboippafkcoiaaGreatDoor.am
namespace Go.Proofs.YthboippafkcoiaaGreatDoor.ws
open Go Go.RowKit Go.Lib
theorem maskN (a:Nat) (ha:a<18446744073709551616):bits .and .u64 (a:Int) 4294967295=((a % 4294967296:Nat):Int):=by
 have h:=bits_and_u64_nat a 4294967295 ha (by omega)
 have e:a &&& 4294967295=a % 4294967296:=Nat.and_two_pow_sub_one_eq_mod a 32
 rw [e] at h
 exact h
theorem divN (a:Nat):(a:Int) / 4294967296=((a / 4294967296:Nat):Int):=by omega
theorem mulN (a b:Nat):(a:Int)*(b:Int)=((a*b:Nat):Int):=(Int.natCast_mul a b).symm
theorem addN (a b:Nat):(a:Int)+(b:Int)=((a+b:Nat):Int):=(Int.natCast_add a b).symm
theorem wrapN (a:Nat) (ha:a<18446744073709551616):IntKind.u64.wrap (a:Int)=(a:Int):=by rw [IntKind.wrap_u64]; omega
theorem wrapM (a:Nat):IntKind.u64.wrap (a:Int)=((a % 18446744073709551616:Nat):Int):=by rw [IntKind.wrap_u64]; omega
theorem num_u64 {a b:Int} (h:a=b):Value.int .u64 a=Value.int .u64 b:=by rw [h]
theorem ret_int3 {k l m:IntKind} {a b c a' b' c':Int} (h:a=a') (h2:b=b') (h3:c=c'):Ending.returned (.tuple #[.int k a,.int l b,.int m c]) = .returned (.tuple #[.int k a',.int l b',.int m c']):=by rw [h,h2,h3]
end Go.Proofs.YthboippafkcoiaaGreatDoor.ws
namespace Go.Proofs.YthboippafkcoiaaGreatDoor.ws
open Go Go.RowKit Go.Lib
end Go.Proofs.YthboippafkcoiaaGreatDoor.ws
namespace Go.Proofs.YthboippafkcoiaaGreatDoor.ws
open Go Go.RowKit Go.Lib
end Go.Proofs.YthboippafkcoiaaGreatDoor.ws
namespace Go.Proofs.YthboippafkcoiaaGreatDoor.ws
open Go Go.RowKit Go.Lib
def prRow (l:List UInt8):Array Value:=(List.replicate (20 - l.length) (Value.int .u8 0)++l.map fun c=>Value.int .u8 c.toNat).toArray
theorem prRow_eq (l:List UInt8):(prRow l).toList=List.replicate (20 - l.length) (Value.int .u8 0)++l.map fun c=>Value.int .u8 c.toNat:=rfl
theorem prRow_get (l:List UInt8) (p:Nat) (hp:1≤p) (hl:p+l.length=20):(prRow l)[p - 1]? = some (.int .u8 0):=by
 unfold prRow
 have h:20 - l.length=(p - 1)+1:=by omega
 rw [List.getElem?_toArray,List.getElem?_append_left (by simp; omega),h,List.getElem?_replicate,if_pos (by omega)]
theorem prRow_set (l:List UInt8) (c:UInt8) (p:Nat) (hp:1≤p) (hl:p+l.length=20):(prRow l).setIfInBounds (p - 1) (.int .u8 c.toNat)=prRow (c::l):=by
 unfold prRow
 have h:20 - l.length=(p - 1)+1:=by omega
 have h':20 - (c::l).length=p - 1:=by simp; omega
 rw [h,h',List.setIfInBounds_toArray,List.replicate_succ',List.append_assoc]
 congr 1
 rw [List.set_append_right _ _ (by simp)]
 simp
theorem prRow_at (l:List UInt8) (p i:Nat) (hl:p+l.length=20) (hi:i<l.length):(prRow l)[p+i]? = some (.int .u8 (l[i]'hi).toNat):=by
 unfold prRow
 rw [List.getElem?_toArray,List.getElem?_append_right (by simp; omega)]
 simp [show p+i - (20 - l.length)=i by omega,hi]
theorem slice_end (B p:Nat) (hp:1≤p) (hp2:p≤20) (W:World) :
  (Instr.sliceAt 224 (.pointer (some ⟨B,0,none⟩)) (some (.int .i64 ((p:Int) - 1))) none none).run Tryz.prog W = .ok (.slice (some ⟨B,p - 1,none⟩) (21 - p) (21 - p)) W:=by
 have hal : Tryz.prog.arrayLen 224 = 20:=by kernel_rfl
 have hu : Tryz.prog.underlying 224 = some (.array (Tryz.prog.arrayLen 224) (Tryz.prog.elem 224)):=by kernel_rfl
 have hz : ∀ W,(sizeOf (Tryz.prog.elem 224)).run Tryz.prog W = .ok 1 W:=fun W=>by kernel_rfl
 rw [run_sliceAt_array_l W _ _ hu .i64 _ (by omega) (by rw [hal]; omega),hz]
 simp only [Result.andThen,slicedAt,hal]
 have e:((p:Int) - 1).toNat=p - 1:=by omega
 rw [e,if_neg (by omega)]
 have e2:(⟨B,0,none⟩:Addr).add ((p - 1)*1)=⟨B,p - 1,none⟩:=by
  unfold Addr.add
  by_cases h:(p - 1)*1=0
  ·rw [if_pos h,show p - 1=0 by omega]
  ·rw [if_neg h]; simp
 rw [e2,show 20 - (p - 1)=21 - p by omega]
theorem conv_end (l:List UInt8) (p n:Nat) (w:World) (hl:p+l.length=20) (hn:l.length=n) :
  (convert 126 9 (.slice (some ⟨w.heap.size,p,none⟩) n n)).run Tryz.prog (w.alloc (.cells (prRow l) 224)) = .ok (.string ⟨l.toArray⟩) (w.alloc (.cells (prRow l) 224)):=by
 subst hn
 refine run_convert_bytes_back _ _ _ 5 _ _ l Tryz.underlying126 Tryz.underlying5 Tryz.underlying9 fun j hj => ?_
 have e:(⟨w.heap.size,p,none⟩:Addr).add j=⟨w.heap.size,p+j,none⟩:=by
  unfold Addr.add; split <;> simp_all
 rw [e,World.cell?_alloc_at _ _ _ _ rfl,prRow_at l p j hl hj]
theorem dig_toNat (n:Nat):(dch (n % 10)).toNat=48+n % 10:=dch_toNat (by omega)
theorem pow_bound {n j:Nat} (h:n*10 ^ j≤9223372036854775808) (hn:0<n):j≤18:=by
 apply Decidable.byContradiction
 intro hj
 have h1:10 ^ 19≤10 ^ j:=Nat.pow_le_pow_right (by decide) (by omega)
 have h2:1*10 ^ j≤n*10 ^ j:=Nat.mul_le_mul_right _ hn
 have h3:(10:Nat) ^ 19=10000000000000000000:=by decide
 omega
theorem pow_step {n j N:Nat} (h:n*10 ^ j≤N):n / 10*10 ^ (j+1)≤N:=by
 have h1:n / 10*10≤n:=Nat.div_mul_le_self n 10
 have h2:=Nat.mul_le_mul_right (10 ^ j) h1
 have h3:n / 10*10 ^ (j+1)=n / 10*10*10 ^ j:=by rw [Nat.pow_succ,Nat.mul_assoc,Nat.mul_comm 10]
 omega
def rowOf (p:Nat) (d:Int) (l:List UInt8):Array Value:=(prRow l).setIfInBounds (p - 1) (.int .u8 d)
theorem rowOf_eq (p m:Nat) (l:List UInt8) (hp:1≤p) (hl:p+l.length=20):(prRow l).setIfInBounds (p - 1) (.int .u8 (48+(m:Int) % 10))=prRow (dch (m % 10)::l):=by
 rw [← prRow_set l _ p hp hl,dig_toNat]
 rfl
theorem minus_eq (p:Nat) (l:List UInt8) (hp:1≤p) (hl:p+l.length=20):(prRow l).setIfInBounds (p - 1) (.int .u8 45)=prRow (45::l):=prRow_set l 45 p hp hl
set_option maxRecDepth 100000 in
set_option maxHeartbeats 1000000 in
theorem print_pos (N:Nat) (w:World) (hN:N≤9223372036854775807) :
  Calls Tryz.prog 175 #[.int .i64 N] w fun e w'=>e = .returned (.string ⟨(prn N).toArray⟩)∧Below w.heap.size w w':=by
 have R:Hid (prn N=dig N):=by
  show prn N=dig N
  unfold prn; rw [if_neg (by omega)]; rfl
 go_enter Tryz.func175,Tryz.ntmps175
 go_wp2
 go_loopw [4,5] (fun a n wr => ∃ (l:List UInt8) (p m:Nat),p+l.length=20∧1≤p∧a = .int .i64 p∧n = .int .u64 m∧m≤N∧Hid ((0<l.length→0<m)∧m*10 ^ l.length≤N∧dig N=dig m++l)∧wr=w.alloc (.cells (prRow l) 224)) (fun a _ _=>(intOf a).toNat)
 case atStart=>exact ⟨[],20,N,rfl,by omega,rfl,rfl,by omega,⟨fun h=>absurd h (by decide),by simp,by simp⟩,rfl⟩
 case round =>
  obtain ⟨l,p,m,hp,hp1,rfl,rfl,hmN,H,rfl⟩:=hrel
  have hg:=prRow_get l p hp1 hp
  have hsl:=slice_end w.heap.size p hp1 (by omega)
  have hrow:=rowOf_eq p m l hp1 hp
  by_cases h9:m<10
  ·have hz:(((m:Int) / 10) == 0)=true:=by simp; omega
   have hcv:=conv_end (dch (m % 10)::l) (p - 1) (21 - p) w (by simp; omega) (by simp; omega)
   go_wp2
   go_ret
   refine ⟨ret_str ?_,(Below.refl _ _).alloc (Nat.le_refl _) _⟩
   rw [R.out,H.out.2.2,dig_small h9,show m % 10=m by omega]
   rfl
  ·have hz:(((m:Int) / 10) == 0)=false:=by simp; omega
   go_wp2
   have hl18:l.length+1≤18:=pow_bound (n:=m / 10) (by have:=pow_step H.out.2.1; omega) (by omega)
   go_roundw
   case rel =>
    exact ⟨dch (m % 10)::l,p - 1,m / 10,by simp; omega,by omega,by go_num,by go_num,by omega,⟨fun _=>by omega,pow_step H.out.2.1,by rw [H.out.2.2,dig_big h9,List.append_assoc]; rfl⟩,rfl⟩
   case measure=>simp [intOf]; omega
set_option maxRecDepth 100000 in
set_option maxHeartbeats 1000000 in
theorem print_neg (N:Nat) (w:World) (hN:N≤9223372036854775808) (h0:0<N) :
  Calls Tryz.prog 175 #[.int .i64 (-(N:Int))] w fun e w'=>e = .returned (.string ⟨(prn (-(N:Int))).toArray⟩)∧Below w.heap.size w w':=by
 have R:Hid (prn (-(N:Int))=45::dig N):=by
  show prn _=_
  unfold prn; rw [if_pos (by omega),Int.neg_neg]; rfl
 have hlt : -(N:Int)<0:=by omega
 have hw:IntKind.u64.wrap (-(IntKind.u64.wrap (-(N:Int))))=N:=by rw [IntKind.wrap_u64,IntKind.wrap_u64]; omega
 go_enter Tryz.func175,Tryz.ntmps175
 go_wp2
 go_loopw [4,5] (fun a n wr => ∃ (l:List UInt8) (p m:Nat),p+l.length=20∧2≤p∧a = .int .i64 p∧n = .int .u64 m∧m≤N∧Hid ((0<l.length→0<m)∧m*10 ^ l.length≤N∧dig N=dig m++l)∧wr=w.alloc (.cells (prRow l) 224)) (fun a _ _=>(intOf a).toNat)
 case atStart=>exact ⟨[],20,N,rfl,by omega,rfl,rfl,by omega,⟨fun h=>absurd h (by decide),by simp,by simp⟩,rfl⟩
 case round =>
  obtain ⟨l,p,m,hp,hp1,rfl,rfl,hmN,H,rfl⟩:=hrel
  have hg:=prRow_get l p (by omega) hp
  have hrow:=rowOf_eq p m l (by omega) hp
  by_cases h9:m<10
  ·have hz:(((m:Int) / 10) == 0)=true:=by simp; omega
   have hp':p - 1+(dch (m % 10)::l).length=20:=by simp; omega
   have hg':=prRow_get (dch (m % 10)::l) (p - 1) (by omega) hp'
   have hmin:=minus_eq (p - 1) (dch (m % 10)::l) (by omega) hp'
   have hsl:=slice_end w.heap.size (p - 1) (by omega) (by omega)
   have hcv:=conv_end (45::dch (m % 10)::l) (p - 1 - 1) (21 - (p - 1)) w (by simp; omega) (by simp; omega)
   have e:((p - 1:Nat):Int)=(p:Int) - 1:=by omega
   rw [e] at hsl
   clear e hp'
   go_wp2
   go_ret
   refine ⟨ret_str ?_,(Below.refl _ _).alloc (Nat.le_refl _) _⟩
   rw [R.out,H.out.2.2,dig_small h9,show m % 10=m by omega]
   rfl
  ·have hz:(((m:Int) / 10) == 0)=false:=by simp; omega
   go_wp2
   have hl18:l.length+1≤18:=pow_bound (n:=m / 10) (by have:=pow_step H.out.2.1; omega) (by omega)
   go_roundw
   case rel =>
    exact ⟨dch (m % 10)::l,p - 1,m / 10,by simp; omega,by omega,by go_num,by go_num,by omega,⟨fun _=>by omega,pow_step H.out.2.1,by rw [H.out.2.2,dig_big h9,List.append_assoc]; rfl⟩,rfl⟩
   case measure=>simp [intOf]; omega
theorem print_any (v:Int) (w:World) (h1 : -9223372036854775808≤v) (h2:v≤9223372036854775807) :
  Calls Tryz.prog 175 #[.int .i64 v] w fun e w'=>e = .returned (.string ⟨(prn v).toArray⟩)∧Below w.heap.size w w':=by
 by_cases h:0≤v
 ·obtain ⟨N,rfl⟩:=Int.eq_ofNat_of_zero_le h
  exact print_pos N w (by omega)
 ·obtain ⟨N,hN⟩:=Int.eq_ofNat_of_zero_le (a := -v) (by omega)
  obtain rfl:v = -(N:Int):=by omega
  exact print_neg N w (by omega) (by omega)
end Go.Proofs.YthboippafkcoiaaGreatDoor.ws
namespace Go.Proofs.YthboippafkcoiaaGreatDoor.ws
open Go Go.RowKit Go.Lib
end Go.Proofs.YthboippafkcoiaaGreatDoor.ws
