/- The abstract machine: a function that takes its blocks over under other handles. The abstract machine: regions that draw their order, where -/
import Derived.Test.YthboippafkcoiaaGreatDoorV5
import Derived.WalkKit
set_option linter.all false
namespace Go.Proofs.YthboippafkcoiaaGreatDoor.am
open Go
set_option linter.unusedSimpArgs false
def mvOk (k nx:Nat) (ρ:List Nat):Bool:=Nat.beq ρ.length k && decide ρ.Nodup && Nat.ble k nx && Nat.ble nx HMod && (List.range k).all fun i=>match ρ[i]? with | some h=>(Nat.beq h i || Nat.ble k h) && Nat.blt h nx | none=>false
def zipB (ρ:List Nat):List Nat→List Blk→List (Nat × Option Blk)
 | h::r,b::l=>(h,some (b.out ρ))::zipB ρ r l
 | _,_=>[]
def mvL (ρ:List Nat) (nx:Nat) (args:List AV) (bin:List Blk):LS:=⟨numL 0 (outL ρ args),zipB ρ ρ bin,nx⟩
def gmv (g:Gh) (k:Nat) (ρ:List Nat):Gh:=⟨fun h=>match idx ρ h with | some i=>g i | none=>if h<k then (match g h with | .un => .un | _ => .dead) else g h,g.X,g.D,fun h b=>match idx ρ h with | some i=>g.F i b | none=>g.F h b⟩
theorem zipB_lk (ρ0:List Nat) : ∀ (ρ:List Nat) (bin:List Blk),ρ.length=bin.length → ∀ h,lkM (zipB ρ0 ρ bin) h=match idx ρ h with | some i=>(bin[i]?).map (Blk.out ρ0) | none=>none
 | [],[],_,h=>rfl
 | k::r,b::l,hl,h=>by
  have ih:=zipB_lk ρ0 r l (by simpa using hl) h
  unfold lkM at ih ⊢
  unfold zipB
  rw [lk_cons]
  unfold idx
  cases hb:Nat.beq k h with
  | true=>rfl
  | false =>
   rw [cond_false,cond_false,ih]
   cases idx r h with
   | none=>rfl
   | some i=>simp
 | [],_::_,hl,_=>by simp at hl
 | _::_,[],hl,_=>by simp at hl
section
variable {X:Gh→World→Prop} {P:Program} {N:Nat} {c:Code} {Q:AX→AS→Prop} {args:List AV} {bin:List Blk} {ρ:List Nat} {nx:Nat}
theorem Wp.mv (hρ:mvOk bin.length nx ρ=true) (ha:belowL bin.length args=true) (hb:bin.all (Blk.lowH bin.length)=true) (h:Wp X P bin.length N c Q (mvL ρ nx args bin).st):Wp X P bin.length N c Q (AS.init args bin):=by
 intro g0 g w0 w act hk hs
 refine h g0 (gmv g bin.length ρ) w0 w act hk ?_
 unfold mvOk at hρ
 simp only [Bool.and_eq_true,decide_eq_true_eq] at hρ
 obtain ⟨⟨⟨⟨q1,q2⟩,q3⟩,q4⟩,q5⟩:=hρ
 have q1:=Nat.eq_of_beq_eq_true q1
 have q3:=Nat.le_of_ble_eq_true q3
 have q4:=Nat.le_of_ble_eq_true q4
 have hr : ∀ i h,ρ[i]? = some h→(h=i∨bin.length≤h)∧h<nx:=fun i h hi=>by
  have hlt:=(List.getElem?_eq_some_iff.1 hi).1
  have:=List.all_eq_true.1 q5 i (List.mem_range.2 (by omega))
  rw [hi] at this
  simp only [Bool.and_eq_true,Bool.or_eq_true] at this
  exact ⟨this.1.imp Nat.eq_of_beq_eq_true Nat.le_of_ble_eq_true,Nat.le_of_ble_eq_true this.2⟩
 have hun : ∀ h,bin.length≤h % HMod→g h = .un:=hs.un
 have hnew : ∀ i h,idx ρ h=some i→h=i∨(bin.length≤h∧g h = .un):=fun i h hi=>by
  obtain ⟨e1,e2⟩:=hr i h (idx_some hi)
  rcases e1 with e1 | e1
  ·exact .inl e1
  ·exact .inr ⟨e1,hun h (by rw [Nat.mod_eq_of_lt (by omega)]; exact e1)⟩
 have hlt : ∀ i h,idx ρ h=some i→i<bin.length:=fun i h hi=>by
  have:=(List.getElem?_eq_some_iff.1 (idx_some hi)).1; omega
 have hget : ∀ i h,idx ρ h=some i→gmv g bin.length ρ h=g i:=fun i h hi=>by
  show (match idx ρ h with | some i=>g i | none=>_)=_
  rw [hi]
 have hnone : ∀ h,idx ρ h=none→bin.length≤h→gmv g bin.length ρ h=g h:=fun h hi hk=>by
  show (match idx ρ h with | some i=>g i | none=>if h<bin.length then _ else g h)=_
  rw [hi]
  exact if_neg (by omega)
 have hdead : ∀ h,idx ρ h=none→h<bin.length → ∀ l,gmv g bin.length ρ h ≠ .live l:=fun h hi hk l e=>by
  have e2:(match idx ρ h with | some i=>g i | none=>if h<bin.length then (match g h with | .un => .un | _ => .dead) else g h) = .live l:=e
  rw [hi] at e2
  simp only [if_pos hk] at e2
  cases hg:g h <;> rw [hg] at e2 <;> cases e2
 have hF : ∀ i h,idx ρ h=some i→(gmv g bin.length ρ).F h=g.F i:=fun i h hi=>by
  funext b
  show (match idx ρ h with | some i=>g.F i b | none=>g.F h b)=_
  rw [hi]
 have owns : ∀ h b,Owns (gmv g bin.length ρ) h b→(∃ i,idx ρ h=some i∧Owns g i b)∨(idx ρ h=none∧bin.length≤h∧Owns g h b):=fun h b ho=>by
  obtain ⟨l,e1,e2⟩:=ho
  cases hi:idx ρ h with
  | some i =>
   refine .inl ⟨i,rfl,l,(hget i h hi).symm.trans e1,?_⟩
   rw [hF i h hi] at e2
   exact e2
  | none =>
   rcases Nat.lt_or_ge h bin.length with q | q
   ·exact absurd e1 (hdead h hi q l)
   ·refine .inr ⟨rfl,q,l,(hnone h hi q).symm.trans e1,?_⟩
    have e3:l.b=some b∨(match idx ρ h with | some i=>g.F i b | none=>g.F h b):=e2
    rw [hi] at e3
    exact e3
 have owns2 : ∀ h b,Owns (gmv g bin.length ρ) h b → ∃ i,Owns g i b:=fun h b ho=>(owns h b ho).elim (fun ⟨i,_,e⟩=>⟨i,e⟩) fun ⟨_,_,e⟩=>⟨h,e⟩
 have hok : ∀ b,okB g w b→okB (gmv g bin.length ρ) w b:=fun b hb=>⟨hb.1,hb.2.1,fun h ho=>by obtain ⟨i,e⟩:=owns2 h b ho; exact hb.2.2 i e⟩
 have hh : ∀ i h,ρ[i]? = some h→gmv g bin.length ρ h=g i:=fun i h hi=>hget i h (idx_of q2 hi)
 have hm:=hs.mem
 have hmem : ∀ h b',(mvL ρ nx args bin).st.m h=some b' → ∃ i b,idx ρ h=some i∧bin[i]? = some b∧b'=b.out ρ:=fun h b' hb'=>by
  have e:lkM (zipB ρ ρ bin) h=some b':=hb'
  rw [zipB_lk ρ ρ bin q1] at e
  cases hi:idx ρ h with
  | none=>rw [hi] at e; cases e
  | some i =>
   rw [hi] at e
   simp only [Option.map_eq_some_iff] at e
   obtain ⟨b,e1,e2⟩:=e
   exact ⟨i,b,rfl,e1,e2.symm⟩
 refine ⟨hs.size,hs.defers,fun i a hi => ?_,⟨fun h b' hb' => ?_,fun h h' b e1 e2 => ?_,fun h b e => ?_,hm.xlt,fun h b e => ?_,fun b Q hq => ?_⟩,fun h hh2 => ?_,?_⟩
 ·have e:lk (numL 0 (outL ρ args)) i=some a:=hi
  rw [numL_lk,if_pos (Nat.zero_le _),Nat.sub_zero,outL_get,Option.map_eq_some_iff] at e
  obtain ⟨a0,e1,rfl⟩:=e
  obtain ⟨e2,e3⟩:=hs.fr i a0 e1
  exact ⟨e2,e3.out q1.symm hok hh (belowL_get ha e1)⟩
 ·obtain ⟨i,b,e1,e2,rfl⟩:=hmem h b' hb'
  obtain ⟨l,e3,e4⟩:=hm.blk i b e2
  refine ⟨l,(hget i h e1).trans e3,?_⟩
  rw [hF i h e1]
  exact e4.out q1.symm hok hh (List.all_eq_true.1 hb b (List.mem_of_getElem? e2))
 ·rcases owns h b e1 with ⟨i,a1,a2⟩ | ⟨a1,a2,a3⟩ <;> rcases owns h' b e2 with ⟨i',b1,b2⟩ | ⟨b1,b2,b3⟩
  ·have:=hm.inj i i' b a2 b2
   subst this
   have c1:=idx_some a1
   rw [idx_some b1] at c1
   exact (Option.some.inj c1).symm
  ·have:=hm.inj i h' b a2 b3
   have:=hlt i h a1
   omega
  ·have:=hm.inj h i' b a3 b2
   have:=hlt i' h' b1
   omega
  ·exact hm.inj h h' b a3 b3
 ·obtain ⟨i,e⟩:=owns2 h b e
  exact hm.lt i b e
 ·obtain ⟨i,e⟩:=owns2 h b e
  exact hm.xl i b e
 ·exact ⟨⟨(hm.gl b Q hq).1.1,fun h ho=>by obtain ⟨i,e⟩:=owns2 h b ho; exact (hm.gl b Q hq).1.2 i e⟩,(hm.gl b Q hq).2⟩
 ·have hh3:nx≤h % HMod:=hh2
  have hle:=Nat.mod_le h HMod
  have hi:idx ρ h=none:=by
   cases hi:idx ρ h with
   | none=>rfl
   | some i=>have:=(hr i h (idx_some hi)).2; omega
  rw [hnone h hi (by omega)]
  exact hun h (by omega)
 ·refine hs.grow.trans ⟨rfl,rfl,rfl,Nat.le_refl _,fun _ _=>rfl,fun _ _=>rfl,rfl,fun h hh2 => ?_,fun h l e => ?_,fun h b e => .inl (owns2 h b e)⟩
  ·cases hi:idx ρ h with
   | some i =>
    rw [hget i h hi]
    rcases hnew i h hi with rfl | ⟨_,e⟩
    ·exact hh2
    ·exact absurd e hh2
   | none =>
    rcases Nat.lt_or_ge h bin.length with q | q
    ·intro e
     have e2:(match idx ρ h with | some i=>g i | none=>if h<bin.length then (match g h with | .un => .un | _ => .dead) else g h) = .un:=e
     rw [hi] at e2
     simp only [if_pos q] at e2
     cases hg:g h <;> first | exact hh2 hg | (rw [hg] at e2; cases e2) | (simp [hg] at e2)
    ·rw [hnone h hi q]; exact hh2
  ·cases hi:idx ρ h with
   | some i =>
    rw [hget i h hi] at e
    rcases hnew i h hi with rfl | ⟨_,e2⟩
    ·exact .inl e
    ·exact .inr e2
   | none =>
    rcases Nat.lt_or_ge h bin.length with q | q
    ·exact absurd e (hdead h hi q l)
    ·rw [hnone h hi q] at e; exact .inl e
end
theorem Ctr.mv (cuts ρ0:List Nat) (nx:Nat) {P:Program} {T:Ty} (hT:TOk P T) (hmix:P.follows .mixedOrders=true) {f:Nat} {fn:Func} {c:Code} (hf:P.funcs[f]? = some fn) (hb:fn.body=some c) (hcall:Callable P f) {args:List AV} {bin:List Blk} {res:AE} {bout:List (Option Blk)}
  (hN:Nat.ble args.length fn.ntmps=true) (h:SOk (AS.init args bin)→awpL XT P T bin.length fn.ntmps cuts c (fun x s => ∃ ρ,rhoOk bin.length ρ=true∧ρ.length=bout.length∧afinR T ρ fn.results.toList res bout x s.st) (mvL ρ0 nx args bin))
  (h1:mvOk bin.length nx ρ0=true:=by exact rfl) (h2:belowL bin.length args=true:=by exact rfl) (h3:bin.all (Blk.lowH bin.length)=true:=by exact rfl):Ctr P f args bin res bout :=
 Ctr.introR hT hf hb hcall hN fun hok=>Wp.mv h1 h2 h3 (by
  refine (awpL_sound hT hmix c _ _ (h hok)).mono fun x s hx => ?_
  obtain ⟨ls,rfl,hx⟩:=hx
  exact hx)
end Go.Proofs.YthboippafkcoiaaGreatDoor.am
namespace Go.Proofs.YthboippafkcoiaaGreatDoor.am
open Go
set_option linter.unusedSimpArgs false
def WStepV (V:Mem→Prop) (P:Program) (o:Oper) (nh:Nat) (ev:Operand→Option AV) (rd:List (Nat × Blk)) (up:List (Nat × Option Blk)) (a:AV) (pan:Bool):Prop :=
 ∀ (g:Gh) (w:World) (m:Mem) (act:Act) (Kc:Act→World→Prop) (Q:Exit→Act→World→Prop),MSt g w m→(∀ k,k % HMod=nh→g k = .un)→V m→(∀ p ∈ rd,m p.1=some p.2)→(∀ x b,ev x=some b→Rep g w (act.eval x) b) →
  (pan=false → ∀ v w' g',Rep g' w' v a→MSt g' w' (updM m up)→Grow g w g' w'→(∀ h,h % HMod≠nh→g h = .un→g' h = .un)→Kc (act.put o.dst v) w') →
  (pan=true → ∀ v w' g',Rep g' w' v a→MSt g' w' (updM m up)→Grow g w g' w'→(∀ h,h % HMod≠nh→g h = .un→g' h = .un)→Q (.panic [{ v,recovered:=false }]) act w')→o.wp P act w Kc Q
def RecsV (V:Mem→Prop) (P:Program) (N:Nat) (ops:Array Oper) (nh:Nat):List Oper→Nat→AS→List Rc→AS→Prop
 | [],_,s,[],sf=>sf=s
 | o::r,i,s,c::cs,sf=>dstOk N o.dst=true∧wants ops s.t o c.run∧RdUp s.m (nh+i) c.rd c.up∧(c.run=true→WStepV V P o (nh+i) (evR ops o s.t) c.rd c.up c.a false)∧(c.run=false→c.a = .und∧c.up=[]) ∧
   RecsV V P N ops nh r (i+1) (s.put o.dst c.a c.up) cs sf
 | _,_,_,_,_=>False
section
variable {P:Program} {T:Ty} {N:Nat} {ops:Array Oper} {nh:Nat} {g0:Gh} {w0:World} {V:Mem→Prop}
theorem RecsV.at {R:Nat→Rc} {s0:AS} : ∀ (l:List Oper) (i:Nat) (s:AS) (cs:List Rc) (sf:AS),RecsV V P N ops nh l i s cs sf→(∀ j,l[j]? = ops[i+j]?)→(∀ j,j<l.length→R (i+j)=recAt cs j)→s=foldS ops R s0 (List.range i) →
  sf=foldS ops R s0 (List.range (i+l.length))∧cs.length=l.length ∧ ∀ j o,l[j]? = some o→dstOk N o.dst=true∧wants ops (foldS ops R s0 (List.range (i+j))).t o (R (i+j)).run∧RdUp (foldS ops R s0 (List.range (i+j))).m (nh+(i+j)) (R (i+j)).rd (R (i+j)).up ∧
   ((R (i+j)).run=true→WStepV V P o (nh+(i+j)) (evR ops o (foldS ops R s0 (List.range (i+j))).t) (R (i+j)).rd (R (i+j)).up (R (i+j)).a false)∧((R (i+j)).run=false→(R (i+j)).a = .und∧(R (i+j)).up=[]):=by
 intro l
 induction l with
 | nil =>
  intro i s cs sf h _ _ hs
  cases cs with
  | nil=>exact ⟨by rw [show sf=s from h,hs]; rfl,rfl,fun j o h=>by simp at h⟩
  | cons=>exact h.elim
 | cons o r ih =>
  intro i s cs sf h hl hR hs
  cases cs with
  | nil=>exact h.elim
  | cons c cs =>
   obtain ⟨h1,h2,h3,h4,h5,h6⟩:=h
   have hRi:R i=c:=by have:=hR 0 (by simp); simpa [recAt] using this
   have ho:ops[i]? = some o:=by have:=hl 0; simpa using this.symm
   have hd:dstOf ops i=o.dst:=by simp [dstOf,ho]
   obtain ⟨q1,q2,q3⟩:=ih (i+1) (s.put o.dst c.a c.up) cs sf h6 (fun j=>by have:=hl (j+1); rw [show i+(j+1)=i+1+j by omega] at this; simpa using this)
    (fun j hj=>by have:=hR (j+1) (by simp; omega); rw [show i+(j+1)=i+1+j by omega] at this; simpa [recAt] using this)
    (by rw [List.range_succ,foldS_snoc,hd,hRi,← hs])
   refine ⟨by rw [q1,List.length_cons,show i+(r.length+1)=i+1+r.length by omega],by simp [q2],fun j o' hj => ?_⟩
   cases j with
   | zero =>
    simp at hj; subst hj
    rw [Nat.add_zero,hRi,← hs]
    exact ⟨h1,h2,h3,h4,h5⟩
   | succ j =>
    have:=q3 j o' (by simpa using hj)
    rwa [show i+1+j=i+(j+1) by omega] at this
theorem foldV {cs:List Rc} {s0:AS} (hV0:V s0.m) (hVu : ∀ i,i<ops.size → ∀ m,V m→V (updM m (recAt cs i).up)) : ∀ l:List Nat,(∀ i ∈ l,i<ops.size)→V (foldS ops (recAt cs) s0 l).m :=
 snoc_ind (fun _=>hV0) fun l i ih h=>by
  rw [foldS_snoc]
  exact hVu i (h i (by simp)) _ (ih fun j hj=>h j (by simp [hj]))
theorem draw_anyV {cs:List Rc} {s0:AS} {Q:Exit→Act→World→Prop} (hok:drawOk ops (cs.map Rc.ft)=true) (hnx:s0.nx=nh) (hV0:V s0.m) (hVu : ∀ i,i<ops.size → ∀ m,V m→V (updM m (recAt cs i).up))
  (F : ∀ i o,ops[i]? = some o→dstOk N o.dst=true∧wants ops (foldS ops (recAt cs) s0 (List.range i)).t o (recAt cs i).run∧RdUp (foldS ops (recAt cs) s0 (List.range i)).m (nh+i) (recAt cs i).rd (recAt cs i).up ∧
   ((recAt cs i).run=true→WStepV V P o (nh+i) (evR ops o (foldS ops (recAt cs) s0 (List.range i)).t) (recAt cs i).rd (recAt cs i).up (recAt cs i).a false)∧((recAt cs i).run=false→(recAt cs i).a = .und∧(recAt cs i).up=[]))
  (hQ : ∀ act w g,St g0 w0 N g act w { foldS ops (recAt cs) s0 (List.range ops.size) with nx:=nh+ops.size }→Q .normal act w) :
  ∀ (fuel:Nat) (listed:Array Bool) (act:Act) (w:World),listed.size=ops.size→listed.toList.countP (fun b => !b)≤fuel→(∀ i,i<ops.size→listed.getD i true=true → ∀ d ∈ deps ops i,listed.getD d true=true) →
   Inv g0 w0 N ops nh (recAt cs) s0 (fun i=>listed.getD i true) act w→wpAny P .any ops Q fuel listed act w:=by
 have hup : ∀ j,j<ops.size → ∀ d ∈ deps ops j,d<j:=fun j hj d hd=>by
  have h:=hok
  unfold drawOk upw at h
  simp only [Bool.and_eq_true,List.all_eq_true,List.mem_range] at h
  exact Nat.le_of_ble_eq_true (h.1 j hj d hd)
 have final : ∀ (listed:Array Bool) (act:Act) (w:World),(∀ i,i<ops.size→listed.getD i true=true)→Inv g0 w0 N ops nh (recAt cs) s0 (fun i=>listed.getD i true) act w→Q .normal act w:=by
  intro listed act w hall hI
  obtain ⟨g,h1,h2,h3,h4⟩:=hI.rest
  have e:(List.range ops.size).filter (fun i=>listed.getD i true)=List.range ops.size:=List.filter_eq_self.2 fun k hk=>hall k (List.mem_range.1 hk)
  rw [e] at h1 h2
  refine hQ act w g ⟨hI.size,hI.defers,h1,h2,fun h (hh:nh+ops.size≤h % HMod)=>h3 h (by omega) (fun i hi _=>by omega),h4⟩
 intro fuel
 induction fuel with
 | zero =>
  intro listed act w hs hc hcl hI
  have hall : ∀ i,i<ops.size→listed.getD i true=true:=fun i hi=>by
   cases hl:listed.getD i true with
   | true=>rfl
   | false =>
    have hi':i<listed.size:=by omega
    have h0:listed[i]=false:=by simpa [Array.getD,hi'] using hl
    have:0<listed.toList.countP (fun b => !b):=List.countP_pos_iff.2 ⟨false,by rw [← h0]; simp,rfl⟩
    omega
  refine ⟨?_,final listed act w hall hI⟩
  refine List.eq_nil_iff_forall_not_mem.2 fun i hi => ?_
  obtain ⟨h1,h2,_⟩:=dr_ready hi
  rw [hall i h1] at h2
  cases h2
 | succ fuel ih =>
  intro listed act w hs hc hcl hI
  refine ⟨fun hr=>final listed act w (dr_all hup hs hr) hI,fun i hi => ?_⟩
  obtain ⟨h1,h2,h3⟩:=dr_ready hi
  have h3' : ∀ d ∈ deps ops i,listed.getD d true=true:=fun d hd=>by
   rw [dr_any (by have:=hup i h1 d hd; omega) true false]; exact h3 d hd
  have ho:ops[i]? = some ops[i]:=by simp [h1]
  generalize ops[i]=o at ho
  obtain ⟨f1,f2,f3,f4,f5⟩:=F i o ho
  obtain ⟨t1,t2,t3⟩:=draw_step (s0:=s0) hok hcl h1 h2 h3' ho
  have hE' : ∀ k,k<ops.size→(fun k=>(listed.setIfInBounds i true).getD k true) k=(Nat.beq k i || (fun k=>listed.getD k true) k):=fun k hk=>by
   simp only
   by_cases hki:k=i
   ·subst hki; rw [dr_set_same _ _ (by omega)]; simp
   ·rw [dr_set_ne _ hki,beq_ne hki,Bool.false_or]
  have hput:=t3 _ hE'
  have hcl' : ∀ k,k<ops.size→(listed.setIfInBounds i true).getD k true=true → ∀ d ∈ deps ops k,(listed.setIfInBounds i true).getD d true=true:=fun k hk hlk d hd=>by
   by_cases hdi:d=i
   ·subst hdi; exact dr_set_same _ _ (by omega)
   ·rw [dr_set_ne _ hdi]
    by_cases hki:k=i
    ·subst hki; exact h3' d hd
    ·rw [dr_set_ne _ hki] at hlk; exact hcl k hk hlk d hd
  obtain ⟨g,g1,g2,g3,g4⟩:=hI.rest
  have hun : ∀ k,k % HMod=nh+i→g k = .un:=fun k' hk'=>g3 _ (by omega) fun k hk hEk=>by
   intro e
   have:k=i:=by omega
   subst this
   rw [h2] at hEk; cases hEk
  have hlook : ∀ x a,has (o.looksAt ops) x=true→(foldS ops (recAt cs) s0 (List.range i)).t x=some a→x<N∧Rep g w (act.tmps.getD x undef) a:=fun x a hx ha=>g1 x a (by rw [t1 x (has_iff.1 hx)]; exact ha)
  have hev : ∀ x b,evR ops o (foldS ops (recAt cs) s0 (List.range i)).t x=some b→Rep g w (act.eval x) b:=by
   intro x b hx
   cases x with
   | tmp k =>
    have hx:(bif has (o.looksAt ops) k then (foldS ops (recAt cs) s0 (List.range i)).t k else none)=some b:=hx
    cases hh:has (o.looksAt ops) k with
    | false=>rw [hh] at hx; cases hx
    | true=>rw [hh,cond_true] at hx; exact (hlook k b hh hx).2
   | const v=>exact evA_ok (N:=N) (act:=act) (g:=g) (w:=w) (t:=fun _=>none) (fun _ _ h=>by cases h) (.const v) b (by
     have hx:evA (foldS ops (recAt cs) s0 (List.range i)).t (.const v)=some b:=hx
     rw [← hx]
     unfold evA
     cases v <;> rfl)
   | global k=>cases hx
   | func f=>exact evA_ok (N:=N) (act:=act) (g:=g) (w:=w) (t:=fun _=>none) (fun _ _ h=>by cases h) (.func f) b hx
  have hwant:Region.wanted o (yielded ops act.tmps)=(recAt cs i).run:=by
   unfold wants at f2
   unfold Region.wanted
   split at f2
   ·rename_i hg; rw [hg,f2]
   ·rename_i j want hg
    rw [hg]
    have hgv : ∀ a,gval ops (foldS ops (recAt cs) s0 (List.range i)).t j=some a→gval ops (foldS ops (recAt cs) s0 ((List.range ops.size).filter fun k=>listed.getD k true)).t j=some a:=fun a ha=>by
     unfold gval at ha ⊢
     cases hj:ops[j]? with
     | none=>rw [hj] at ha; cases ha
     | some oj =>
      rw [hj] at ha
      have ha:(match oj.dst with | some d=>(foldS ops (recAt cs) s0 (List.range i)).t d | none=>none)=some a:=ha
      cases hd:oj.dst with
      | none=>rw [hd] at ha; cases ha
      | some d =>
       rw [hd] at ha
       have ha:(foldS ops (recAt cs) s0 (List.range i)).t d=some a:=ha
       show (match oj.dst with | some d=>(foldS ops (recAt cs) s0 ((List.range ops.size).filter fun k=>listed.getD k true)).t d | none=>none)=some a
       rw [hd]
       show (foldS ops (recAt cs) s0 ((List.range ops.size).filter fun k=>listed.getD k true)).t d=some a
       rw [t1 d (by unfold Oper.looksAt; rw [hg]; simp [hj,hd])]
       exact ha
    rcases f2 with ⟨e1,e2⟩ | ⟨y,e1,e2⟩
    ·have:=(yielded_ok hI.size g1 (hgv _ e1)).1 rfl
     rw [e2]; show (yielded ops act.tmps j == some want)=false; rw [this]; rfl
    ·have:=(yielded_ok hI.size g1 (hgv _ e1)).2 y rfl
     rw [e2]; show (yielded ops act.tmps j == some want)=_; rw [this]
     cases y <;> cases want <;> rfl
  have next : ∀ v w' g',Rep g' w' v (recAt cs i).a→MSt g' w' (updM (foldS ops (recAt cs) s0 ((List.range ops.size).filter fun k=>listed.getD k true)).m (recAt cs i).up)→Grow g w g' w'→(∀ h,h % HMod≠nh+i→g h = .un→g' h = .un)→wpAny P .any ops Q fuel (listed.setIfInBounds i true) (act.put o.dst v) w':=by
   intro v w' g' e1 e2 e3 e4
   obtain ⟨p1,p2⟩:=put_ok (dst:=o.dst) hI.size g1 e3 f1 e1
   refine ih _ _ _ (by simpa using hs) (dr_count (by omega) h2 _ hc) hcl' ⟨p1,(put_defers ..).trans hI.defers,g',?_,?_,fun h hh hn => ?_,g4.trans e3⟩
   ·rw [hput]; exact p2
   ·rw [hput]; exact e2
   ·have hne:h % HMod≠nh+i:=hn i h1 (dr_set_same _ _ (by omega))
    refine e4 h hne (g3 h hh fun k hk hEk => ?_)
    by_cases hki:k=i
    ·subst hki; exact hne
    ·exact hn k hk (by rw [dr_set_ne _ hki]; exact hEk)
  unfold wpOp
  rw [ho]
  simp only
  rw [hwant]
  cases hrun:(recAt cs i).run with
  | true =>
   rw [if_pos rfl]
   refine .inl (f4 hrun g w _ act _ _ g2 hun (foldV hV0 hVu _ fun k hk=>List.mem_range.1 (List.mem_filter.1 hk).1) (fun p hp => ?_) hev (fun _ v w' g' e1 e2 e3 e4=>next v w' g' e1 e2 e3 e4) (fun h=>by cases h))
   rw [t2 p.1 (List.mem_map.2 ⟨p,hp,rfl⟩)]
   exact f3.1 p hp
  | false =>
   rw [if_neg (by simp)]
   obtain ⟨e1,e2⟩:=f5 hrun
   exact next undef w g (by rw [e1]; exact .und) (by rw [e2]; exact g2) (Grow.refl _ _) fun _ _ h=>h
def Vm (h t:Nat) (cs:List AV) (m:Mem):Prop := ∃ l,m h=some (.cells t l)∧l.take cs.length=cs
def VUp (h t:Nat) (cs:List AV) (up:List (Nat × Option Blk)):Prop:=match lk up h with
 | none=>True
 | some (some (.cells t' l))=>t'=t∧l.take cs.length=cs
 | _=>False
theorem VUp.ok {h t:Nat} {cs:List AV} {up:List (Nat × Option Blk)} (hu:VUp h t cs up) {m:Mem} (hV:Vm h t cs m):Vm h t cs (updM m up):=by
 unfold VUp at hu
 unfold Vm updM
 split at hu
 ·rename_i e; rw [e]; exact hV
 ·rename_i t' l e
  obtain ⟨rfl,hu⟩:=hu
  rw [e]
  exact ⟨l,rfl,hu⟩
 ·exact hu.elim
def vstep (T:Ty) (h:Nat) (cs:List AV) (ev:Operand→Option AV):Op→Option AV
 | .nilCheck x=>match ev x with
  | some (.ptr h' o)=>bif Nat.beq h' h then some (.ptr h' o) else none
  | _=>none
 | .fieldAddr ty x f=>match lk T ty,ev x with
  | some ⟨.struct fs,_,_,_,_⟩,some (.ptr h' o)=>bif Nat.beq h' h then (match fs[f]? with
   | some (ft,off)=>match lk T ft with
    | some ti=>bif Nat.beq ti.size 0 then none else some (.ptr h' (o+off))
    | none=>none
   | none=>none) else none
  | _,_=>none
 | .load ty x=>match lk T ty,ev x with
  | some i,some (.ptr h' o)=>bif Nat.beq h' h && i.d.agg && Nat.ble (o+i.size) cs.length then some (.agg ((cs.drop o).take i.size)) else none
  | _,_=>none
 | _=>none
theorem drop_take_pre {α:Type} {l cs:List α} (h:l.take cs.length=cs) {o n:Nat} (hle:o+n≤cs.length):(l.drop o).take n=(cs.drop o).take n:=by
 refine List.ext_getElem? fun i => ?_
 rw [List.getElem?_take,List.getElem?_take,List.getElem?_drop,List.getElem?_drop]
 split
 ·rw [← h,List.getElem?_take,if_pos (by omega)]
 ·rfl
theorem vstep_ok (hT:TOk P T) {o:Oper} {h t:Nat} {cs:List AV} {ev:Operand→Option AV} {a:AV} (hnb:nh<HMod) (hs:vstep T h cs ev o.op=some a):WStepV (Vm h t cs) P o nh ev [] [] a false:=by
 intro g w m act Kc Q hm hn hV _ hev hk _
 obtain ⟨l,hml,hcs⟩:=hV
 have key:LOk P o m nh ev (fun a' rd up=>a'=a∧rd=[(h,.cells t l)]∧up=[]):=by
  generalize hop:o.op=op at hs
  unfold vstep at hs
  split at hs
  ·rename_i x
   split at hs
   case h_2=>cases hs
   rename_i h' of hx
   cases hb:Nat.beq h' h with
   | false=>rw [hb] at hs; cases hs
   | true =>
    rw [hb,cond_true] at hs
    obtain rfl:=Nat.eq_of_beq_eq_true hb
    cases hs
    exact l_nilCheckP hop hx hml aut
  ·rename_i ty x f
   split at hs
   case h_2=>cases hs
   rename_i fs s1 s2 s3 s4 h' of e1 hx
   cases hb:Nat.beq h' h with
   | false=>rw [hb] at hs; cases hs
   | true =>
    rw [hb,cond_true] at hs
    obtain rfl:=Nat.eq_of_beq_eq_true hb
    split at hs
    case h_2=>cases hs
    rename_i ft off e2
    split at hs
    case h_2=>cases hs
    rename_i ti e3
    cases hz:Nat.beq ti.size 0 with
    | true=>rw [hz] at hs; cases hs
    | false =>
     rw [hz,cond_false] at hs
     cases hs
     refine l_fieldAddr hT hop hx ?_
     unfold afieldAddr
     simp only [e1,e2,e3,hz,cond_false,hml]
     exact ⟨trivial,trivial,trivial⟩
  ·rename_i ty x
   split at hs
   case h_2=>cases hs
   rename_i i h' of e1 hx
   cases hb:(Nat.beq h' h && i.d.agg && Nat.ble (of+i.size) cs.length) with
   | false=>rw [hb] at hs; cases hs
   | true =>
    rw [hb,cond_true] at hs
    simp only [Bool.and_eq_true] at hb
    obtain ⟨⟨hb,hag⟩,hle⟩:=hb
    obtain rfl:=Nat.eq_of_beq_eq_true hb
    have hle:=Nat.le_of_ble_eq_true hle
    have hll:cs.length≤l.length:=by
     have:=congrArg List.length hcs
     rw [List.length_take] at this
     omega
    cases hs
    refine l_load hT hop hx ?_
    unfold aload
    simp only [e1,hml,hag,cond_true]
    rw [show Nat.ble (of+i.size) l.length=true from Nat.ble_eq_true_of_le (by omega),cond_true,drop_take_pre hcs hle]
    first | exact aut | exact ⟨trivial,trivial,trivial⟩ | simp
  ·cases hs
 obtain ⟨a',rd,up,⟨rfl,rfl,rfl⟩,h1,h2,h3⟩:=key
 obtain ⟨g',w',hr,e1,e2,e3⟩:=h3 g w m act.eval hm (hn nh (Nat.mod_eq_of_lt hnb)) h1 hev
 have e3 : ∀ h,h % HMod≠nh→g h = .un→g' h = .un:=fun h q=>e3 h fun e=>q (by rw [e]; exact Nat.mod_eq_of_lt hnb)
 unfold Oper.wp
 rcases hr with ⟨v,hr,hv⟩ | ⟨hr,rfl⟩
 ·rw [hr]; exact hk rfl v w' g' hv e1 e2 e3
 ·rw [hr]; exact hk rfl undef w' g' .und e1 e2 e3
noncomputable def adrawsV (P:Program) (T:Ty) (N:Nat) (ops:Array Oper) (nh h t:Nat) (cs:List AV) (Q:LS→Prop) (l:List Oper):RF :=
 List.rec (motive:=fun _=>RF) (fun i tl bl acc=>drawOk ops acc=true∧fN (nh+i) fun n=>Q ⟨tl,bl,n⟩)
  (fun o _ ih i tl bl acc=>bif dstOk N o.dst then (match o.guard with
   | none=>match vstep T h cs (evR ops o (lk tl)) o.op with
    | some a=>putL tl o.dst a fun tl=>ih (i+1) tl bl (acc++[⟨[],[]⟩])
    | none=>astep P T false o (nh+i) (evR ops o (lk tl)) (lkM bl) (fun a rd up=>VUp h t cs up∧putL tl o.dst a fun tl=>putM up bl fun bl=>ih (i+1) tl bl (acc++[⟨rd.map (·.1),up.map (·.1)⟩])) (fun _ _ _=>False)
   | some _=>False) else False) l
theorem adrawsV_cons (nh h t:Nat) (cs:List AV) (Q:LS→Prop) (o:Oper) (l:List Oper) (i:Nat) (tl:List (Nat × AV)) (bl:List (Nat × Option Blk)) (acc:List Ft):adrawsV P T N ops nh h t cs Q (o::l) i tl bl acc=bif dstOk N o.dst then (match o.guard with
   | none=>match vstep T h cs (evR ops o (lk tl)) o.op with
    | some a=>putL tl o.dst a fun tl=>adrawsV P T N ops nh h t cs Q l (i+1) tl bl (acc++[⟨[],[]⟩])
    | none=>astep P T false o (nh+i) (evR ops o (lk tl)) (lkM bl) (fun a rd up=>VUp h t cs up∧putL tl o.dst a fun tl=>putM up bl fun bl=>adrawsV P T N ops nh h t cs Q l (i+1) tl bl (acc++[⟨rd.map (·.1),up.map (·.1)⟩])) (fun _ _ _=>False)
   | some _=>False) else False:=rfl
theorem adrawsV_recs (hT:TOk P T) (nh h t:Nat) (cs:List AV) (Q:LS→Prop) (n:Nat) : ∀ (l:List Oper) (i:Nat) (tl:List (Nat × AV)) (bl:List (Nat × Option Blk)) (acc:List Ft),nh+(i+l.length)≤HMod→adrawsV P T N ops nh h t cs Q l i tl bl acc →
  ∃ rs sf,RecsV (Vm h t cs) P N ops nh l i (LS.st ⟨tl,bl,n⟩) rs sf∧drawOk ops (acc++rs.map Rc.ft)=true∧(∀ c ∈ rs,VUp h t cs c.up) ∧ ∃ ls:LS,ls.st = { sf with nx:=nh+(i+l.length) }∧Q ls:=by
 intro l
 induction l with
 | nil =>
  intro i tl bl acc _ hh
  have hh:drawOk ops acc=true∧fN (nh+i) (fun n=>Q ⟨tl,bl,n⟩):=hh
  rw [fN_eq] at hh
  exact ⟨[],_,rfl,by simpa using hh.1,by simp,_,rfl,hh.2⟩
 | cons o r ih =>
  intro i tl bl acc hb hh
  rw [List.length_cons] at hb
  have hnb:nh+i<HMod:=by omega
  rw [adrawsV_cons] at hh
  cases hd:dstOk N o.dst with
  | false=>rw [hd] at hh; exact hh.elim
  | true =>
  rw [hd,cond_true] at hh
  simp only [putL_eq,putM_eq] at hh
  split at hh
  case h_2=>exact hh.elim
  rename_i hg
  have hw:wants ops (lk tl) o true:=by simp [wants,hg]
  split at hh
  ·rename_i a hs
   obtain ⟨rs,sf,q1,q2,q3,ls,q4,q5⟩:=ih (i+1) _ _ _ (by omega) hh
   rw [show LS.st ⟨putLs tl o.dst a,bl,n⟩=(LS.st ⟨tl,bl,n⟩).put o.dst a [] from st_put tl bl n o.dst a []] at q1
   refine ⟨⟨a,[],[],true⟩::rs,sf,⟨hd,hw,⟨by simp,by simp⟩,fun _=>vstep_ok hT hnb hs,fun h=>(by cases h),q1⟩,by simpa [Rc.ft] using q2,fun c hc => ?_,ls,?_,q5⟩
   ·rcases List.mem_cons.1 hc with rfl | hc
    ·exact trivial
    ·exact q3 c hc
   ·rw [q4,List.length_cons,show i+1+r.length=i+(r.length+1) by omega]
  ·rcases astep_ok hnb hT hh with ⟨a,rd,up,hK,hru,hws⟩ | ⟨a,rd,up,hK,hru,hws⟩
   ·obtain ⟨hv,hK⟩:=hK (fun h=>by cases h)
    obtain ⟨rs,sf,q1,q2,q3,ls,q4,q5⟩:=ih (i+1) _ _ _ (by omega) hK
    rw [st_put] at q1
    refine ⟨⟨a,rd,up,true⟩::rs,sf,⟨hd,hw,hru,fun _=>fun g w m act Kc Q p1 p2 _ p3 p4 p5 p6=>hws g w m act Kc Q p1 p2 p3 p4 p5 p6,fun h=>(by cases h),q1⟩,by simpa [Rc.ft] using q2,fun c hc => ?_,ls,?_,q5⟩
    ·rcases List.mem_cons.1 hc with rfl | hc
     ·exact hv
     ·exact q3 c hc
    ·rw [q4,List.length_cons,show i+1+r.length=i+(r.length+1) by omega]
   ·exact (hK (fun h=>by cases h)).elim
theorem drawV_region {X:Gh→World→Prop} {k id h t:Nat} {cs:List AV} {Q:QL} {tl:List (Nat × AV)} {bl:List (Nat × Option Blk)} {nx:Nat} (hT:TOk P T) (hmix:P.follows .mixedOrders=true) (hb:nx+ops.size≤HMod) (hV:Vm h t cs (lkM bl))
  (hh:adrawsV P T N ops nx h t cs (fun s'=>SOk s'.st→Q .normal s') ops.toList 0 tl bl []):Wp X P k N (.region id ops true) (Ql Q) (LS.mk tl bl nx).st:=by
 intro g0 g w0 w act hk hs
 have hInv : ∀ (R:Nat→Rc),Inv g0 w0 N ops nx R (LS.mk tl bl nx).st (fun i=>(Array.replicate ops.size false).getD i true) act { w with drawn:=w.drawn+1 }:=by
  intro R
  refine ⟨hs.size,hs.defers,g,?_⟩
  have e:(List.range ops.size).filter (fun i=>(Array.replicate ops.size false).getD i true)=[]:=by
   rw [List.filter_eq_nil_iff]
   intro k hk
   have:=List.mem_range.1 hk
   simp [Array.getD,this]
  rw [e]
  have hg:Grow g w g { w with drawn:=w.drawn+1 }:=⟨rfl,rfl,rfl,Nat.le_refl _,fun _ _=>rfl,fun _ _=>rfl,rfl,fun _ h=>h,fun _ _ h => .inl h,fun h b e => .inl ⟨h,e⟩⟩
  refine ⟨fun i a ha=>⟨(hs.fr i a ha).1,((hs.fr i a ha).2).grow hg⟩,⟨fun k b hb => ?_,hs.mem.inj,hs.mem.lt,hs.mem.xlt,hs.mem.xl,hs.mem.gl.grow hg⟩,fun h hh _=>hs.un h hh,hs.grow.trans hg⟩
  obtain ⟨l,e1,e2⟩:=hs.mem.blk k b hb
  exact ⟨l,e1,e2.grow hg fun _ _=>rfl⟩
 have hli : ∀ i,i<ops.size→(Array.replicate ops.size false).getD i true=true → ∀ d ∈ deps ops i,(Array.replicate ops.size false).getD d true=true:=fun i hi hl=>by simp [Array.getD,hi] at hl
 refine wp_region_any hmix ?_
 obtain ⟨rs,sf,h1,h2,hu,ls,h3,h4⟩:=adrawsV_recs hT nx h t cs _ nx ops.toList 0 tl bl [] (by simpa using hb) hh
 obtain ⟨q1,q2,q3⟩:=RecsV.at (R:=recAt rs) (s0:=(LS.mk tl bl nx).st) ops.toList 0 _ rs sf h1 (fun j=>by simp) (fun j _=>by simp) rfl
 simp only [Nat.zero_add,Array.length_toList] at q1 q2 q3 h3
 refine draw_anyV (V:=Vm h t cs) (nh:=nx) (s0:=(LS.mk tl bl nx).st) (g0:=g0) (w0:=w0) (N:=N) (by simpa using h2) rfl hV (fun i hi m hm => ?_) (fun i o ho=>q3 i o (by simpa using ho)) (fun act w g hst => ?_) ops.size _ act _ (by simp) (Nat.le_trans List.countP_le_length (by simp)) hli (hInv _)
 ·refine VUp.ok (hu _ ?_) hm
  unfold recAt
  rw [List.getD_eq_getElem?_getD,List.getElem?_eq_getElem (by omega)]
  exact List.getElem_mem _
 ·rw [← q1] at hst
  rw [← h3] at hst
  exact ⟨.normal,_,g,⟨ls,rfl,h4 hst.ok⟩,hst,trivial⟩
end
end Go.Proofs.YthboippafkcoiaaGreatDoor.am
namespace Go.Proofs.YthboippafkcoiaaGreatDoor.ws
open Go Go.RowKit
theorem ret_int {k:IntKind} {a b:Int} (h:a=b):Ending.returned (.int k a) = .returned (.int k b):=by rw [h]
theorem ret_bool {a b:Bool} (h:a=b):Ending.returned (.bool a) = .returned (.bool b):=by rw [h]
theorem ret_str {a b:ByteArray} (h:a=b):Ending.returned (.string a) = .returned (.string b):=by rw [h]
def shN (b:Int):Nat:=(b % 64).toNat
def band (a b:Int):Int:=IntKind.i64.wrap ((BitVec.ofInt 64 a &&& BitVec.ofInt 64 b).toNat)
def bor (a b:Int):Int:=IntKind.i64.wrap ((BitVec.ofInt 64 a ||| BitVec.ofInt 64 b).toNat)
def bxor (a b:Int):Int:=IntKind.i64.wrap ((BitVec.ofInt 64 a ^^^ BitVec.ofInt 64 b).toNat)
def quo (a b:Int):Int:=if b=0 then 0 else wrap64 (a.tdiv b)
def tr (c:Bool):Int:=if c then 1 else 0
def rem (a b:Int):Int:=if b=0 then a else wrap64 (a - wrap64 (quo a b*b))
def doV (op:Nat) (a b:Int):Int :=
 match op with
 | 1=>wrap64 (a+b) | 2=>wrap64 (a - b) | 3=>wrap64 (a*b) | 4=>quo a b | 5=>rem a b
 | 6=>band a b | 7=>bor a b | 8=>bxor a b
 | 9=>wrap64 (a*2 ^ shN b) | 10=>a / 2 ^ shN b
 | 11=>tr (a == b) | 12=>tr (a != b) | 13=>tr (decide (a<b)) | 14=>tr (decide (a≤b))
 | 15=>tr (decide (b<a)) | 16=>tr (decide (b≤a)) | _=>0
def oneV (op:Nat) (a:Int):Int :=
 match op with
 | 17=>wrap64 (-a) | 18=>tr (a == 0) | _=>0
theorem and63_nat (b:Int):(BitVec.ofInt 64 b &&& BitVec.ofInt 64 63).toNat=shN b:=by
 have e:(BitVec.ofInt 64 63).toNat=2 ^ 6 - 1:=by decide
 rw [BitVec.toNat_and,e,Nat.and_two_pow_sub_one_eq_mod,BitVec.toNat_ofInt]
 unfold shN
 omega
theorem shN_lt (b:Int):shN b<64:=by unfold shN; omega
theorem shN_u64 (b:Int):shN (IntKind.u64.wrap b)=shN b:=by unfold shN; rw [IntKind.wrap_u64]; omega
theorem bits_and63 (b:Int):bits BinOp.and IntKind.u64 (IntKind.u64.wrap b) 63=((shN b:Nat):Int):=by
 have h:=shN_lt b
 show IntKind.u64.wrap ((BitVec.ofInt 64 (IntKind.u64.wrap b) &&& BitVec.ofInt 64 63).toNat:Nat)=_
 rw [and63_nat,shN_u64,IntKind.wrap_u64]; omega
theorem bits_and63' (b:Int):bits BinOp.and IntKind.i64 b 63=((shN b:Nat):Int):=by
 have h:=shN_lt b
 show IntKind.i64.wrap ((BitVec.ofInt 64 b &&& BitVec.ofInt 64 63).toNat:Nat)=_
 rw [and63_nat,IntKind.wrap_i64]; omega
theorem bits_band (a b:Int):bits BinOp.and IntKind.i64 a b=band a b:=rfl
theorem bits_bor (a b:Int):bits BinOp.or IntKind.i64 a b=bor a b:=rfl
theorem bits_bxor (a b:Int):bits BinOp.xor IntKind.i64 a b=bxor a b:=rfl
end Go.Proofs.YthboippafkcoiaaGreatDoor.ws
namespace Go.Proofs.YthboippafkcoiaaGreatDoor.ws
open Go Go.RowKit
def most (neg:Bool):Nat:=if neg then 9223372036854775808 else 9223372036854775807
theorem most_le (neg:Bool):most neg≤9223372036854775808:=by unfold most; split <;> omega
theorem most_ge (neg:Bool):9223372036854775807≤most neg:=by unfold most; split <;> omega
def bad (neg:Bool) (at_ i n c:Nat):Bool:=decide (c<48∨57<c∨(at_<i∧n=0)∨(neg=true∧i=at_∧c=48)∨most neg<10*n+(c - 48))
def okV (neg:Bool) (n:Nat):Int:=if neg then -n else n
def pgo (neg:Bool) (at_:Nat):List UInt8→Nat→Nat→Int × Int × Int
 | [],i,n=>if i=at_ then (0,10,(i:Int)) else (okV neg n,0,0)
 | c::r,i,n=>if bad neg at_ i n c.toNat then (0,10,(i:Int)) else pgo neg at_ r (i+1) (10*n+(c.toNat - 48))
def isNeg (l:List UInt8):Bool:=l.head? == some 45
def prs (l:List UInt8):Int × Int × Int :=
 if isNeg l then pgo true 1 (l.drop 1) 1 0 else pgo false 0 l 0 0
theorem pgo_bad {neg:Bool} {at_ i n:Nat} {c:UInt8} {r:List UInt8} (h:bad neg at_ i n c.toNat=true):pgo neg at_ (c::r) i n=(0,10,(i:Int)):=by simp [pgo,h]
theorem pgo_go {neg:Bool} {at_ i n:Nat} {c:UInt8} {r:List UInt8} (h:bad neg at_ i n c.toNat=false):pgo neg at_ (c::r) i n=pgo neg at_ r (i+1) (10*n+(c.toNat - 48)):=by simp [pgo,h]
theorem drop_at (s:ByteArray) (i:Nat) (h:i<s.size):s.data.toList.drop i=s[i]::s.data.toList.drop (i+1):=by
 rw [List.drop_eq_getElem_cons (by simpa using h)]; rfl
theorem drop_end (s:ByteArray) (i:Nat) (h:s.size≤i):s.data.toList.drop i=[]:=List.drop_of_length_le (by simpa using h)
theorem toList_data (s:ByteArray):s.toList=s.data.toList:=ByteArray.toList_eq s
theorem ne_empty {s:ByteArray} (h:0<s.size):s.toList.isEmpty=false:=by
 rw [toList_data]
 cases hq:s.data.toList with
 | nil =>
          have:s.data.toList.length=s.size:=by simp
          rw [hq] at this; simp at this; omega
 | cons _ _=>rfl
theorem is_empty {s:ByteArray} (h:s.size=0):s.toList=[]:=by
 rw [toList_data]
 exact List.length_eq_zero_iff.1 (by simpa using h)
theorem head_at (s:ByteArray) (h:0<s.size):s.data.toList.head? = some (s[0]'h):=by
 have:=drop_at s 0 h
 rw [List.drop_zero] at this
 rw [this]; rfl
theorem prs_pos {s:ByteArray} (h:0<s.size) (h0:(s[0]'h).toNat≠45):prs s.data.toList=pgo false 0 (s.data.toList.drop 0) 0 0:=by
 have e:isNeg s.data.toList=false:=by
  unfold isNeg
  rw [head_at s h]
  cases hq:(some (s[0]'h) == some (45:UInt8))
  ·rfl
  ·exact absurd (by rw [show s[0]'h=45 from by simpa using hq]; rfl) h0
 simp [prs,e]
theorem prs_neg {s:ByteArray} (h:0<s.size) (h0:(s[0]'h).toNat=45):prs s.data.toList=pgo true 1 (s.data.toList.drop 1) 1 0:=by
 have e:isNeg s.data.toList=true:=by
  unfold isNeg
  rw [head_at s h,show s[0]'h=45 from UInt8.toNat_inj.1 h0]
  rfl
 simp [prs,e]
theorem prs_none {s:ByteArray} (h:s.size=0):prs s.data.toList=(0,10,0):=by
 have:s.data.toList=[]:=List.length_eq_zero_iff.1 (by simpa using h)
 rw [this]; rfl
theorem big_iff (neg:Bool) {n d:Nat} (hn:n≤most neg) (hd:d≤9) :
  n*10 / 18446744073709551616+(n*10 % 18446744073709551616+d) / 18446744073709551616=0∧(n*10 % 18446744073709551616+d) % 18446744073709551616≤most neg↔10*n+d≤most neg:=by
 have:=most_le neg
 omega
def dch (d:Nat):UInt8:=UInt8.ofNat (48+d)
theorem dch_toNat {d:Nat} (h:d<10):(dch d).toNat=48+d:=by unfold dch; rw [UInt8.toNat_ofNat']; omega
def dig (n:Nat):List UInt8:=if n<10 then [dch n] else dig (n / 10)++[dch (n % 10)]
 termination_by n
 decreasing_by omega
theorem dig_small {n:Nat} (h:n<10):dig n=[dch n]:=by rw [dig,if_pos h]
theorem dig_big {n:Nat} (h : ¬ n<10):dig n=dig (n / 10)++[dch (n % 10)]:=by rw [dig,if_neg h]
theorem dig_len : ∀ (k n:Nat),n<10 ^ (k+1)→(dig n).length≤k+1
 | 0,n,h=>by rw [dig_small (by simpa using h)]; simp
 | k+1,n,h=>by
  by_cases hn:n<10
  ·rw [dig_small hn]; simp
  ·rw [dig_big hn]
   have:=dig_len k (n / 10) (by rw [Nat.pow_succ] at h; omega)
   simp; omega
theorem dig_len64 {n:Nat} (h:n<18446744073709551616):(dig n).length≤20 :=
 dig_len 19 n (Nat.lt_trans h (by decide))
def prn (w:Int):List UInt8:=if w<0 then 45::dig (-w).toNat else dig w.toNat
end Go.Proofs.YthboippafkcoiaaGreatDoor.ws
namespace Go.Proofs.YthboippafkcoiaaGreatDoor.am
set_option linter.all false
theorem contains_congr {l l':List Nat} (h : ∀ b,b ∈ l↔b ∈ l') (k:Nat):l.contains k=l'.contains k:=by
 have:=h k
 by_cases q:k ∈ l
 ·rw [List.contains_iff_mem.2 q,List.contains_iff_mem.2 (this.1 q)]
 ·have q':k ∉ l':=fun w=>q (this.2 w)
  rw [show l.contains k=false by simpa using q,show l'.contains k=false by simpa using q']
theorem aheadN_congr {fol fol':Nat→List Nat} (h : ∀ a b,b ∈ fol a↔b ∈ fol' a) (n k:Nat):aheadN fol n k=aheadN fol' n k:=by
 unfold aheadN
 refine List.filter_congr fun i _ => ?_
 exact contains_congr (h i) k
theorem aheadL_congr {fol fol':Nat→List Nat} (h : ∀ a b,b ∈ fol a↔b ∈ fol' a) (N:Nat):aheadL fol N=aheadL fol' N:=by
 unfold aheadL
 exact List.map_congr_left fun k _=>aheadN_congr h N k
theorem take_snocL {l:List Nat} {j k:Nat} (hk:l[j]? = some k):l.take (j+1)=l.take j++[k]:=by rw [List.take_succ,hk]; rfl
theorem aheadJ_again {fol:Nat→List Nat} {N n j k:Nat} (hk:(fol n)[j]? = some k) (hin:((fol n).take j).contains k=true):aheadJ fol N n (j+1)=aheadJ fol N n j:=by
 unfold aheadJ
 refine List.map_congr_left fun x _ => ?_
 rw [take_snocL hk]
 have:((fol n).take j++[k]).contains x=((fol n).take j).contains x:=by
  by_cases e:x=k
  ·subst e; rw [hin]; simp [List.contains_iff_mem.1 hin]
  ·simp [e]
 rw [this]
theorem aheadJ_new {fol:Nat→List Nat} {N n j k:Nat} (hk:(fol n)[j]? = some k) (hkN:k<N) (hin:((fol n).take j).contains k=false):aheadJ fol N n (j+1)=(aheadJ fol N n j).set k (aheadN fol n k++[n]):=by
 refine List.ext_getElem? fun x => ?_
 by_cases hx:x<N
 ·by_cases e:x=k
  ·subst e
   rw [List.getElem?_set_self (by simp [aheadJ,hx]),aheadJ_at hx,take_snocL hk]
   simp
  ·rw [List.getElem?_set_ne (fun w=>e w.symm),aheadJ_at hx,aheadJ_at hx,take_snocL hk]
   have:((fol n).take j++[k]).contains x=((fol n).take j).contains x:=by simp [e]
   rw [this]
 ·rw [List.getElem?_eq_none (by simp [aheadJ]; omega),List.getElem?_eq_none (by simp [aheadJ]; omega)]
theorem aheadN_mem_lt {fol:Nat→List Nat} {n k i:Nat} (h:i ∈ aheadN fol n k):i<n:=(mem_aheadN.1 h).1
def NextI (fol:Nat→List Nat) (b n:Nat) (v:Int):Prop :=
 (v = -1 ∧ ∀ a,a<n → ¬ (a≠b∧Dm fol a b)) ∨ ∃ m:Nat,v=m∧m<n∧m≠b∧Dm fol m b ∧ ∀ a,a<n→a≠b→Dm fol a b→Dm fol a m
theorem NextI.start (fol:Nat→List Nat) (b:Nat):NextI fol b 0 (-1) := .inl ⟨rfl,fun a h=>absurd h (Nat.not_lt_zero a)⟩
theorem NextI.skip {fol:Nat→List Nat} {b n:Nat} {v:Int} (h:NextI fol b n v) (hn : ¬ (n≠b∧Dm fol n b)):NextI fol b (n+1) v:=by
 rcases h with ⟨h1,h2⟩ | ⟨m,h1,h0,h2,h3,h4⟩
 ·exact .inl ⟨h1,fun a ha=>if e:a=n then e ▸ hn else h2 a (by omega)⟩
 ·refine .inr ⟨m,h1,by omega,h2,h3,fun a ha g1 g2 => ?_⟩
  by_cases e:a=n
  ·subst e; exact absurd ⟨g1,g2⟩ hn
  ·exact h4 a (by omega) g1 g2
theorem NextI.first {fol:Nat→List Nat} {b n:Nat} {v:Int} (h:NextI fol b n v) (hv:v<0) (h1:n≠b) (h2:Dm fol n b):NextI fol b (n+1) n:=by
 rcases h with ⟨_,g2⟩ | ⟨m,g1,_⟩
 ·refine .inr ⟨n,rfl,Nat.lt_succ_self n,h1,h2,fun a ha g3 g4 => ?_⟩
  by_cases e:a=n
  ·rw [e]; exact dm_refl h2.1
  ·exact absurd ⟨g3,g4⟩ (g2 a (by omega))
 ·omega
theorem NextI.fin {fol:Nat→List Nat} {N b:Nat} {v:Int} (hN:0<N) (hf : ∀ a,∀ b ∈ fol a,b<N) (h:NextI fol b N v):v=idomI fol b:=by
 refine (idomI_eq hN hf ?_).symm
 rcases h with ⟨rfl,h2⟩ | ⟨m,rfl,_,h2,h3,h4⟩
 ·refine .inl ⟨rfl,?_⟩
  by_cases e:b=0
  ·exact .inl e
  ·exact .inr fun w=>h2 0 hN ⟨fun q=>e q.symm,dm_zero w⟩
 ·refine .inr ⟨fun e => ?_,m,rfl,h2,h3,fun c g1 g2=>h4 c (g2.1.lt hN hf) g1 g2⟩
  subst e
  exact not_dm_zero h2 h3
theorem nodup_lenL : ∀ (N:Nat) (l:List Nat),l.Nodup→(∀ x ∈ l,x<N)→l.length≤N
 | 0,l,_,h=>by
  cases l with
  | nil=>exact Nat.le_refl _
  | cons x l=>exact absurd (h x (.head _)) (Nat.not_lt_zero x)
 | N+1,l,hn,h=>by
  by_cases hm:N ∈ l
  ·have:=nodup_lenL N (l.erase N) (hn.erase N) (fun x hx=>by
    have:=(hn.mem_erase_iff).1 hx
    have:=h x this.2
    omega)
   rw [List.length_erase_of_mem hm] at this
   omega
  ·have:=nodup_lenL N l hn (fun x hx=>by
    have:=h x hx
    have:x≠N:=fun w=>hm (w ▸ hx)
    omega)
   omega
structure GatI (fol:Nat→List Nat) (N h:Nat) (I:List Bool) (todo l:List Nat):Prop where
 len:I.length=N
 nd:todo.Nodup
 mem : ∀ x,I[x]? = some true↔x ∈ todo
 ok : ∀ x ∈ todo,Dm fol h x∧h ∈ fol x
 all : ∀ a ∈ l,Dm fol h a→a ∈ todo
theorem rep_no {N x:Nat} : ¬ (List.replicate N false)[x]? = some true:=fun h=>by
 have:=List.mem_of_getElem? h
 simp at this
theorem GatI.start (fol:Nat→List Nat) (N h:Nat):GatI fol N h (List.replicate N false) [] []:=⟨by simp,.nil,fun x=>⟨fun h=>absurd h rep_no,fun h=>by cases h⟩,fun _ h=>(by cases h),fun _ h=>(by cases h)⟩
theorem GatI.skip {fol:Nat→List Nat} {N h:Nat} {I:List Bool} {todo l:List Nat} {p:Nat} (hG:GatI fol N h I todo l) (hp : ¬ Dm fol h p∨I[p]? = some true):GatI fol N h I todo (l++[p]) :=
 ⟨hG.len,hG.nd,hG.mem,hG.ok,fun a ha hd=>by
  rcases List.mem_append.1 ha with q | q
  ·exact hG.all a q hd
  ·rw [List.mem_singleton.1 q] at hd ⊢; exact hp.elim (fun w=>absurd hd w) (fun w=>(hG.mem p).1 w)⟩
theorem GatI.push {fol:Nat→List Nat} {N h:Nat} {I:List Bool} {todo l:List Nat} {p:Nat} (hG:GatI fol N h I todo l) (hI:I[p]? = some false) (hp:Dm fol h p) (hh:h ∈ fol p):GatI fol N h (I.set p true) (todo++[p]) (l++[p]):=by
 have hpl:=(List.getElem?_eq_some_iff.1 hI).1
 have hm:=fun x=>mem_set_true (l:=I) (i:=p) (x:=x) hpl
 have hno:p ∉ todo:=fun w=>by rw [(hG.mem p).2 w] at hI; cases hI
 refine ⟨by rw [List.length_set]; exact hG.len,List.nodup_append.2 ⟨hG.nd,by simp,fun a ha b hb=>by rw [List.mem_singleton.1 hb]; exact fun e=>hno (e ▸ ha)⟩,fun x => ?_,fun x hx => ?_,fun a ha hd => ?_⟩
 ·rw [hm,hG.mem,List.mem_append,List.mem_singleton]; exact Or.comm
 ·rcases List.mem_append.1 hx with q | q
  ·exact hG.ok x q
  ·rw [List.mem_singleton.1 q]; exact ⟨hp,hh⟩
 ·rcases List.mem_append.1 ha with q | q
  ·simp [hG.all a q hd]
  ·simp [List.mem_singleton.1 q]
structure LpI (fol:Nat→List Nat) (N h:Nat) (I:List Bool) (todo:List Nat) (i:Nat):Prop where
 len:I.length=N
 nd:todo.Nodup
 mem : ∀ x,I[x]? = some true↔x=h∨x ∈ todo
 ok : ∀ x ∈ todo,InLoop fol h x
 clos : ∀ n ∈ todo.take i,n≠h → ∀ p,n ∈ fol p→Rch fol (-1) p→p=h∨p ∈ todo
 back : ∀ a,Dm fol h a→h ∈ fol a→a ∈ todo
 has:HasBack fol h
theorem LpI.lt {fol:Nat→List Nat} {N h:Nat} {I:List Bool} {todo:List Nat} {i:Nat} (hL:LpI fol N h I todo i) {x:Nat} (hx:x ∈ todo):x<N:=by
 have:=(List.getElem?_eq_some_iff.1 ((hL.mem x).2 (.inr hx))).1
 rw [hL.len] at this; exact this
theorem LpI.todo_len {fol:Nat→List Nat} {N h:Nat} {I:List Bool} {todo:List Nat} {i:Nat} (hL:LpI fol N h I todo i):todo.length≤N:=nodup_lenL N todo hL.nd fun x hx=>hL.lt hx
theorem GatI.todo_len {fol:Nat→List Nat} {N h:Nat} {I:List Bool} {todo l:List Nat} (hG:GatI fol N h I todo l):todo.length≤N:=nodup_lenL N todo hG.nd fun x hx=>by
 have:=(List.getElem?_eq_some_iff.1 ((hG.mem x).2 hx)).1
 rw [hG.len] at this; exact this
theorem GatI.fin {fol:Nat→List Nat} {N h:Nat} {I:List Bool} {todo:List Nat} (hfd : ∀ a,N≤a→fol a=[]) (hh:h<N) (hG:GatI fol N h I todo (aheadN fol N h)) (hne:todo≠[]):LpI fol N h (I.set h true) todo 0:=by
 have hm:=fun x=>mem_set_true (l:=I) (i:=h) (x:=x) (by rw [hG.len]; exact hh)
 have hall : ∀ a,Dm fol h a→h ∈ fol a→a ∈ todo:=fun a h1 h2=>by
  have hlt:a<N:=by
   refine Classical.byContradiction fun w => ?_
   rw [hfd a (by omega)] at h2
   cases h2
  exact hG.all a (mem_aheadN.2 ⟨hlt,h2⟩) h1
 obtain ⟨a,ha⟩:=List.exists_mem_of_ne_nil todo hne
 have hbk:HasBack fol h:=⟨a,hG.ok a ha⟩
 refine ⟨by rw [List.length_set]; exact hG.len,hG.nd,fun x=>by rw [hm,hG.mem],fun x hx=>⟨hbk,?_⟩,fun n hn=>(by cases hn),hall,hbk⟩
 by_cases e:x=h
 ·exact .inl e
 ·exact .inr (.back (hG.ok x hx).1 (hG.ok x hx).2 e)
structure LpJ (fol:Nat→List Nat) (N h:Nat) (I:List Bool) (todo:List Nat) (i n:Nat) (l:List Nat):Prop where
 toI:LpI fol N h I todo i
 at_:todo[i]? = some n
 ne:n≠h
 cur : ∀ p ∈ l,Rch fol (-1) p→p=h∨p ∈ todo
theorem take_memL {l:List Nat} {i n x:Nat} (h:l[i]? = some n):x ∈ l.take (i+1)↔x ∈ l.take i∨x=n:=by
 rw [List.take_succ,h,List.mem_append]; simp
theorem LpI.take {fol:Nat→List Nat} {N h:Nat} {I:List Bool} {todo:List Nat} {i n:Nat} (hL:LpI fol N h I todo i) (hn:todo[i]? = some n) (hne:n≠h):LpJ fol N h I todo i n []:=⟨hL,hn,hne,fun p hp=>by cases hp⟩
theorem LpJ.skip {fol:Nat→List Nat} {N h:Nat} {I:List Bool} {todo l:List Nat} {i n p:Nat} (hJ:LpJ fol N h I todo i n l) (hp : ¬ Rch fol (-1) p∨I[p]? = some true):LpJ fol N h I todo i n (l++[p]) :=
 ⟨hJ.toI,hJ.at_,hJ.ne,fun q hq hr=>by
  rcases List.mem_append.1 hq with w | w
  ·exact hJ.cur q w hr
  ·rw [List.mem_singleton.1 w] at hr ⊢; exact hp.elim (fun w=>absurd hr w) (fun w=>(hJ.toI.mem p).1 w)⟩
theorem LpJ.push {fol:Nat→List Nat} {N h:Nat} {I:List Bool} {todo l:List Nat} {i n p:Nat} (hJ:LpJ fol N h I todo i n l) (hI:I[p]? = some false) (hr:Rch fol (-1) p) (hnp:n ∈ fol p):LpJ fol N h (I.set p true) (todo++[p]) i n (l++[p]):=by
 have hpl:=(List.getElem?_eq_some_iff.1 hI).1
 have hm:=fun x=>mem_set_true (l:=I) (i:=p) (x:=x) hpl
 have hno : ¬ (p=h∨p ∈ todo):=fun w=>by rw [(hJ.toI.mem p).2 w] at hI; cases hI
 have hil:=(List.getElem?_eq_some_iff.1 hJ.at_).1
 have htk:(todo++[p]).take i=todo.take i:=by rw [List.take_append_of_le_length (by omega)]
 have hnt:=List.mem_of_getElem? hJ.at_
 have up : ∀ {q:Nat},q=h∨q ∈ todo→q=h∨q ∈ todo++[p]:=fun {q} w=>w.imp id fun e=>by simp [e]
 refine ⟨⟨by rw [List.length_set]; exact hJ.toI.len,List.nodup_append.2 ⟨hJ.toI.nd,by simp,fun a ha b hb=>by rw [List.mem_singleton.1 hb]; exact fun e=>hno (.inr (e ▸ ha))⟩,fun x => ?_,fun x hx => ?_,fun a ha h1 q h2 h3=>up (hJ.toI.clos a (by rw [htk] at ha; exact ha) h1 q h2 h3),fun a h1 h2=>by simp [hJ.toI.back a h1 h2],hJ.toI.has⟩,by rw [List.getElem?_append_left hil]; exact hJ.at_,hJ.ne,fun q hq hr => ?_⟩
 ·rw [hm,hJ.toI.mem,List.mem_append,List.mem_singleton]
  constructor
  ·rintro (q | q | q)
   ·exact .inr (.inr q)
   ·exact .inl q
   ·exact .inr (.inl q)
  ·rintro (q | q | q)
   ·exact .inr (.inl q)
   ·exact .inr (.inr q)
   ·exact .inl q
 ·rcases List.mem_append.1 hx with q | q
  ·exact hJ.toI.ok x q
  ·rw [List.mem_singleton.1 q]
   have hin:=hJ.toI.ok n hnt
   exact ⟨hin.1,.inr (.pre (hin.2.resolve_left hJ.ne) hnp hr fun e=>hno (.inl e))⟩
 ·rcases List.mem_append.1 hq with w | w
  ·exact up (hJ.cur q w hr)
  ·rw [List.mem_singleton.1 w]; simp
theorem LpJ.fin {fol:Nat→List Nat} {N h:Nat} {I:List Bool} {todo:List Nat} {i n:Nat} (hfd : ∀ a,N≤a→fol a=[]) (hJ:LpJ fol N h I todo i n (aheadN fol N n)):LpI fol N h I todo (i+1) :=
 ⟨hJ.toI.len,hJ.toI.nd,hJ.toI.mem,hJ.toI.ok,fun a hm hne p h1 h2=>by
  rcases (take_memL hJ.at_).1 hm with q | q
  ·exact hJ.toI.clos a q hne p h1 h2
  ·subst q
   refine hJ.cur p (mem_aheadN.2 ⟨?_,h1⟩) h2
   refine Classical.byContradiction fun w => ?_
   rw [hfd p (by omega)] at h1
   exact absurd h1 (by simp),hJ.toI.back,hJ.toI.has⟩
theorem LpI.fin {fol:Nat→List Nat} {N h:Nat} {I:List Bool} {todo:List Nat} {i:Nat} (hL:LpI fol N h I todo i) (hi:todo.length≤i) (x:Nat):I[x]? = some true↔InLoop fol h x:=by
 rw [hL.mem]
 constructor
 ·rintro (e | q)
  ·exact ⟨hL.has,.inl e⟩
  ·exact hL.ok x q
 ·rintro ⟨e_,e | hl⟩
  ·exact .inl e
  ·clear e_
   induction hl with
   | back a b _=>exact .inr (hL.back _ a b)
   | pre hn hp hr _ ih =>
    have hin:=ih.resolve_left hn.ne
    exact hL.clos _ (by rw [List.take_of_length_le hi]; exact hin) hn.ne _ hp hr
end Go.Proofs.YthboippafkcoiaaGreatDoor.am
namespace Go.Proofs.YthboippafkcoiaaGreatDoor.am
set_option linter.all false
structure ChainI (fol:Nat→List Nat) (N k:Nat) (at_:Nat) (chain:List Bool):Prop where
 len:chain.length=N
 dm:Dm fol at_ k
 mem : ∀ x,x<N→(chain[x]? = some true↔Dm fol x k ∧ ¬ Dm fol x at_)
theorem ChainI.start {fol:Nat→List Nat} {N k:Nat} (hk:Rch fol (-1) k):ChainI fol N k k (List.replicate N false):=by
 refine ⟨List.length_replicate ..,dm_refl hk,fun x hx=>⟨fun h => ?_,fun h=>absurd h.1 h.2⟩⟩
 rw [List.getElem?_replicate,if_pos hx] at h
 cases h
theorem ChainI.new {fol:Nat→List Nat} {N k at_:Nat} {chain:List Bool} (h:ChainI fol N k at_ chain) (hN:at_<N):chain[at_]? = some false:=by
 obtain ⟨b,hb⟩ : ∃ b,chain[at_]? = some b:=⟨_,List.getElem?_eq_getElem (by rw [h.len]; exact hN)⟩
 cases b with
 | false=>exact hb
 | true=>exact absurd (dm_refl h.dm.1) ((h.mem at_ hN).1 hb).2
theorem ChainI.mark {fol:Nat→List Nat} {N k at_:Nat} {chain:List Bool} (h:ChainI fol N k at_ chain) (hN:at_<N) (x:Nat) (hx:x<N):((chain.set at_ true)[x]? = some true↔Dm fol x k∧(x=at_ ∨ ¬ Dm fol x at_)):=by
 by_cases e:x=at_
 ·subst e
  rw [List.getElem?_set_self (by rw [h.len]; exact hN)]
  exact ⟨fun _=>⟨h.dm,.inl rfl⟩,fun _=>rfl⟩
 ·rw [List.getElem?_set_ne (fun w=>e w.symm),h.mem x hx]
  exact ⟨fun w=>⟨w.1,.inr w.2⟩,fun w=>⟨w.1,w.2.resolve_left e⟩⟩
theorem ChainI.top {fol:Nat→List Nat} {N k:Nat} {chain:List Bool} (h:ChainI fol N k 0 chain) (hN:0<N) (x:Nat) (hx:x<N):((chain.set 0 true)[x]? = some true↔Dm fol x k):=by
 rw [h.mark hN x hx]
 refine ⟨fun w=>w.1,fun w=>⟨w,?_⟩⟩
 by_cases e:x=0
 ·exact .inl e
 ·exact .inr (not_dm_zero e)
theorem ChainI.up {fol:Nat→List Nat} {N k at_ a:Nat} {chain:List Bool} (h:ChainI fol N k at_ chain) (hN:at_<N) (hne:a≠at_) (hd:Dm fol a at_) (hi : ∀ x,Dm fol x at_↔x=at_∨Dm fol x a):ChainI fol N k a (chain.set at_ true):=by
 refine ⟨by rw [List.length_set]; exact h.len,hd.trans h.dm,fun x hx => ?_⟩
 rw [h.mark hN x hx,hi x]
 refine ⟨fun w=>⟨w.1,fun q => ?_⟩,fun w=>⟨w.1,?_⟩⟩
 ·rcases w.2 with rfl | w2
  ·exact hne (Dm.anti hd q)
  ·exact w2 (.inr q)
 ·by_cases e:x=at_
  ·exact .inl e
  ·exact .inr fun q=>q.elim e w.2
end Go.Proofs.YthboippafkcoiaaGreatDoor.am
