/- Plain: a thread does the same by its graph as by its tree. Plain: what check's OK gives the lowering. Plain: a thread's statements do the same by -/
import Derived.Test.YthboippafkcoiaaGreatDoorU11
import Derived.Test.YthboippafkcoiaaGreatDoorU8
set_option linter.all false
namespace Go.Proofs.YthboippafkcoiaaGreatDoor.am
open Go Go.Proofs
set_option linter.all false
structure Agr (nl:Nat) (s:RS) (g:GS):Prop where
 slots : ∀ k,k<nl→g.slots.getD k 0=s.locals.getD k 0
 len:s.locals.length=nl
 reads:g.reads=s.reads
 acts:g.acts=s.acts
 wide:nl≤g.slots.length
theorem getD_put {l:List Int} {i:Nat} (v:Int) (k:Nat) (hi:i<l.length):(l.set i v).getD k 0=if k=i then v else l.getD k 0:=by
 rw [List.getD_eq_getElem?_getD,List.getD_eq_getElem?_getD]
 by_cases q:k=i
 ·subst q; rw [if_pos rfl,List.getElem?_set_self hi]; rfl
 ·rw [if_neg q,List.getElem?_set_ne (fun e=>q e.symm)]
theorem goOn_same (k x:Nat):goOn k x (x+k)=x:=by
 cases k with
 | zero=>rfl
 | succ n=>rfl
theorem ok_ag {nl:Nat} {s:RS} {g:GS} (h:Agr nl s g):Agr nl (okR s) g:=⟨h.slots,h.len,h.reads,h.acts,h.wide⟩
section
variable (c:LowC) (ws:List Int) (L:List Nd) (nl:Nat) (hloc : ∀ name,localI c.p c.t name<(nl:Nat))
theorem exprV_stable {c:LowC} {nl:Nat} (hloc : ∀ name,localI c.p c.t name<(nl:Nat)) (e:Expr) {m:Nat} (hm:nl≤m) {sl sl':List Int} (h : ∀ k,k<m+szE c e→sl'.getD k 0=sl.getD k 0):gvV sl' (exprV c e m)=gvV sl (exprV c e m):=by
 obtain ⟨kind,op,word,name,kids,at_⟩:=e
 have hl:=hloc name
 unfold szE at h
 rw [exprV_mk]
 cases k1:kind == 1 with
 | true=>rfl
 | false =>
 rw [k1] at h
 cases k2:kind == 2 with
 | true =>
  rw [k2] at h
  cases hd:decide (localI c.p c.t name ≥ 0) with
  | true =>
   have hd2:=of_decide_eq_true hd
   rw [hd] at h
   simp only [cond_true,cond_false] at h
   show sl'.getD (localI c.p c.t name).toNat 0=sl.getD (localI c.p c.t name).toNat 0
   exact h _ (by omega)
  | false =>
   rw [hd] at h
   simp only [cond_true,cond_false] at h
   refine h _ ?_
   show ((m:Nat):Int).toNat<_
   rw [Int.toNat_natCast]; omega
 | false =>
 rw [k2] at h
 cases ht:two op with
 | true =>
  rw [ht] at h
  simp only [cond_true,cond_false] at h
  refine h _ ?_
  show ((m+(sz0 c kids+sz1 c kids):Nat):Int).toNat<_
  rw [Int.toNat_natCast]; omega
 | false =>
  rw [ht] at h
  simp only [cond_true,cond_false] at h
  refine h _ ?_
  show ((m+sz0 c kids:Nat):Int).toNat<_
  rw [Int.toNat_natCast]; omega
theorem kid0V_stable {c:LowC} {nl:Nat} (hloc : ∀ name,localI c.p c.t name<(nl:Nat)) (l:List Expr) {m:Nat} (hm:nl≤m) {sl sl':List Int} (h : ∀ k,k<m+sz0 c l→sl'.getD k 0=sl.getD k 0):gvV sl' (kid0V c l m)=gvV sl (kid0V c l m):=by
 cases l with
 | nil=>rfl
 | cons e r=>unfold sz0 at h; exact exprV_stable hloc e hm h
theorem four_two {kind op word:Int} {name:ByteArray} {kids:List Expr} {at_:Int} (h:partsB (.mk kind op word name kids at_)=true) (h1:(kind == 1)=false) (h2:(kind == 2)=false):(kind == 4)=two op:=by
 unfold partsB at h
 dsimp only at h
 rw [h1,cond_false,h2,cond_false] at h
 cases h3:(kind == 3) with
 | true =>
  rw [h3,cond_true] at h
  simp only [Bool.and_eq_true,Bool.or_eq_true,beq_iff_eq] at h
  have e3:=eq_of_beq h3
  subst e3
  rcases h.2 with rfl | rfl <;> rfl
 | false =>
 rw [h3,cond_false] at h
 cases h4:(kind == 4) with
 | false=>rw [h4] at h; cases h
 | true =>
  rw [h4,cond_true] at h
  simp only [Bool.and_eq_true] at h
  exact h.2.symm
def ESim (s:RS) (m to k:Nat) (v:Val) (g:GS) (p:RS × Int):Prop :=
 (0<p.1.fuel → ∃ g',Reach L ws (s.fuel - p.1.fuel).toNat g g'∧Agr nl p.1 g'∧g'.at_=to∧gvV g'.slots v=p.2∧(∀ i,i<m→g'.slots.getD i 0=g.slots.getD i 0)∧g'.slots.length=g.slots.length)∧(p.1.fuel≤0 → ∃ g',Reach L ws s.fuel.toNat g g'∧g'.acts=p.1.acts)
include hloc
mutual
theorem expr_sim : ∀ (e:Expr) (s:RS) (a m to:Nat) (g:GS),okE c e=true→At L a (exprD c e a m to)→Agr nl s g→g.at_=goOn (szE c e) a to→nl≤m→m+szE c e≤g.slots.length→ESim ws L nl s m to 0 (exprV c e m) g (exprR c ws e s)
 | .mk kind op word name kids at_,s,a,m,to,g,hk,hat,hag,hg,hm,hsl=>by
  have h0:=fun s a m to g=>kid0_sim kids s a m to g
  have h1:=fun s a m to g=>kid1_sim kids s a m to g
  have r0:=(kid0R_rr c ws kids (okR s)).1
  have r1:=(kid1R_rr c ws kids (kid0R c ws kids (okR s)).1).1
  have hf:(okR s).fuel=s.fuel - 1:=rfl
  have hln:=hloc name
  unfold okE at hk
  simp only [Bool.and_eq_true] at hk
  obtain ⟨⟨hp,hv⟩,hks⟩:=hk
  have h42:=four_two hp
  unfold exprD at hat
  unfold szE at hg hsl
  unfold exprR
  rw [exprV_mk]
  cases k0:decide ((okR s).fuel > 0) with
  | false =>
   have k0:=of_decide_eq_false k0
   exact ⟨fun h=>absurd h (by show ¬ 0<(okR s).fuel; omega),fun _=>⟨g,.refl g,hag.acts⟩⟩
  | true =>
  have k0:=of_decide_eq_true k0
  simp only [Bool.not_true,cond_false]
  cases k1:kind == 1 with
  | true =>
   rw [k1] at hg
   refine ⟨fun _=>⟨g,.refl g,ok_ag hag,hg,rfl,fun _ _=>rfl,rfl⟩,fun h=>absurd h (by show ¬ (okR s).fuel≤0; omega)⟩
  | false =>
  rw [k1] at hat hg hsl
  simp only [cond_false] at hat hg hsl ⊢
  cases k2:kind == 2 with
  | true =>
   rw [k2] at hat hg hsl
   simp only [cond_true] at hat hg hsl ⊢
   cases hd:decide (localI c.p c.t name ≥ 0) with
   | true =>
    rw [hd] at hg
    have hd:=of_decide_eq_true hd
    refine ⟨fun _=>⟨g,.refl g,ok_ag hag,hg,?_,fun _ _=>rfl,rfl⟩,fun h=>absurd h (by show ¬ (okR s).fuel≤0; omega)⟩
    show g.slots.getD (localI c.p c.t name).toNat 0=s.locals.getD (localI c.p c.t name).toNat 0
    exact hag.slots _ (by omega)
   | false =>
    rw [hd] at hat hg hsl
    simp only [cond_false] at hat hg hsl ⊢
    have hn:=hat.cons.1
    have hg1:g.at_=a:=hg
    rw [← hg1] at hn
    refine ⟨fun _=>⟨_,(Reach.one hn).mono (by show 1≤(s.fuel - (s.fuel - 1)).toNat; omega),⟨fun k hk => ?_,hag.len,?_,?_,?_⟩,?_,?_,fun i hi => ?_,?_⟩,fun h=>absurd h (by show ¬ (okR s).fuel≤0; omega)⟩
    ·show (g.slots.set ((m:Nat):Int).toNat (gvRead ws g)).getD k 0=s.locals.getD k 0
     rw [Int.toNat_natCast,getD_put _ _ (by omega),if_neg (by omega)]
     exact hag.slots k hk
    ·show g.reads+1=s.reads+1
     rw [hag.reads]
    ·show g.acts++[⟨2,findI c.p.shared name 0,gvRead ws g⟩]=s.acts++[⟨2,findI c.p.shared name 0,readR ws s⟩]
     unfold gvRead readR
     rw [hag.acts,hag.reads]
    ·show nl≤(g.slots.set _ _).length
     rw [List.length_set]; exact hag.wide
    ·show ((to:Nat):Int).toNat=to
     exact Int.toNat_natCast _
    ·show (g.slots.set ((m:Nat):Int).toNat (gvRead ws g)).getD ((m:Nat):Int).toNat 0=readR ws s
     rw [Int.toNat_natCast,getD_put _ _ (by omega),if_pos rfl]
     unfold gvRead readR
     rw [hag.reads]
    ·show (g.slots.set ((m:Nat):Int).toNat (gvRead ws g)).getD i 0=g.slots.getD i 0
     rw [Int.toNat_natCast,getD_put _ _ (by omega),if_neg (by omega)]
    ·show (g.slots.set _ _).length=g.slots.length
     rw [List.length_set]
  | false =>
  rw [k2] at hat hg hsl
  simp only [cond_false] at hat hg hsl ⊢
  have h42:=h42 k1 k2
  have p1:=r0.less
  have p2:=r1.less
  cases ht:two op with
  | true =>
   rw [ht] at hat hg hsl h42
   rw [h42]
   simp only [cond_true] at hat hg hsl ⊢
   obtain ⟨a0,hat⟩:=hat.app (kid0D_len ..)
   obtain ⟨a1,hat⟩:=hat.app (kid1D_len ..)
   have hn:=hat.cons.1
   have s0:=h0 (okR s) a m (a+sz0 c kids) g hks a0 (ok_ag hag) (by rw [hg,goOn_same]; exact goOn_of_pos (by omega)) hm (by omega)
   rcases Int.lt_or_le 0 (kid0R c ws kids (okR s)).1.fuel with q0 | q0
   ·obtain ⟨g1,b1,b2,b3,b4,b5,b6⟩:=s0.1 q0
    have s1:=h1 (kid0R c ws kids (okR s)).1 (a+sz0 c kids) (m+sz0 c kids) (a+(sz0 c kids+sz1 c kids)) g1 hks a1 b2 (by rw [b3,← Nat.add_assoc,goOn_same]) (by omega) (by omega)
    rcases Int.lt_or_le 0 (kid1R c ws kids (kid0R c ws kids (okR s)).1).1.fuel with q1 | q1
    ·obtain ⟨g2,d1,d2,d3,d4,d5,d6⟩:=s1.1 q1
     have hg2:g2.at_=a+sz0 c kids+sz1 c kids:=by rw [d3,Nat.add_assoc]
     rw [← hg2] at hn
     have v0:gvV g2.slots (kid0V c kids m)=(kid0R c ws kids (okR s)).2:=(kid0V_stable hloc kids hm d5).trans b4
     have hst:=(b1.trans d1 (Nat.le_refl _)).trans (Reach.one hn) (Nat.le_refl _)
     refine ⟨fun _=>⟨_,hst.mono (by show _≤(s.fuel - (kid1R c ws kids (kid0R c ws kids (okR s)).1).1.fuel).toNat; omega),⟨fun k hk => ?_,?_,?_,?_,?_⟩,?_,?_,fun i hi => ?_,?_⟩,fun h=>absurd h (by show ¬ (kid1R c ws kids (kid0R c ws kids (okR s)).1).1.fuel≤0; omega)⟩
     ·show (g2.slots.set ((m+(sz0 c kids+sz1 c kids):Nat):Int).toNat _).getD k 0=_
      rw [Int.toNat_natCast,getD_put _ _ (by omega),if_neg (by omega)]
      exact d2.slots k hk
     ·exact d2.len
     ·exact d2.reads
     ·exact d2.acts
     ·show nl≤(g2.slots.set _ _).length
      rw [List.length_set]; exact d2.wide
     ·show ((to:Nat):Int).toNat=to
      exact Int.toNat_natCast _
     ·show (g2.slots.set ((m+(sz0 c kids+sz1 c kids):Nat):Int).toNat (recW op (gvV g2.slots (kid0V c kids m)) (gvV g2.slots (kid1V c kids (m+sz0 c kids))))).getD ((m+(sz0 c kids+sz1 c kids):Nat):Int).toNat 0=_
      rw [Int.toNat_natCast,getD_put _ _ (by omega),if_pos rfl,v0,d4]
     ·show (g2.slots.set ((m+(sz0 c kids+sz1 c kids):Nat):Int).toNat _).getD i 0=_
      rw [Int.toNat_natCast,getD_put _ _ (by omega),if_neg (by omega),d5 i (by omega),b5 i hi]
     ·show (g2.slots.set _ _).length=_
      rw [List.length_set,d6,b6]
    ·obtain ⟨g2,d1,d2⟩:=s1.2 q1
     exact ⟨fun h=>absurd h (by show ¬ 0<(kid1R c ws kids (kid0R c ws kids (okR s)).1).1.fuel; omega),fun _=>⟨g2,b1.trans d1 (by omega),d2⟩⟩
   ·obtain ⟨g1,b1,b2⟩:=s0.2 q0
    have e:(kid1R c ws kids (kid0R c ws kids (okR s)).1).1.acts=(kid0R c ws kids (okR s)).1.acts:=by rcases r1.dry q0 with e | e <;> rw [e]; rfl
    exact ⟨fun h=>absurd h (by show ¬ 0<(kid1R c ws kids (kid0R c ws kids (okR s)).1).1.fuel; omega),fun _=>⟨g1,b1.mono (by omega),b2.trans e.symm⟩⟩
  | false =>
   rw [ht] at hat hg hsl h42
   rw [h42]
   simp only [cond_false] at hat hg hsl ⊢
   obtain ⟨a0,hat⟩:=hat.app (kid0D_len ..)
   have hn:=hat.cons.1
   have s0:=h0 (okR s) a m (a+sz0 c kids) g hks a0 (ok_ag hag) (by rw [hg,goOn_same]; exact goOn_of_pos (by omega)) hm (by omega)
   rcases Int.lt_or_le 0 (kid0R c ws kids (okR s)).1.fuel with q0 | q0
   ·obtain ⟨g1,b1,b2,b3,b4,b5,b6⟩:=s0.1 q0
    rw [← b3] at hn
    have hst:=b1.trans (Reach.one hn) (Nat.le_refl _)
    refine ⟨fun _=>⟨_,hst.mono (by show _≤(s.fuel - (kid0R c ws kids (okR s)).1.fuel).toNat; omega),⟨fun k hk => ?_,?_,?_,?_,?_⟩,?_,?_,fun i hi => ?_,?_⟩,fun h=>absurd h (by show ¬ (kid0R c ws kids (okR s)).1.fuel≤0; omega)⟩
    ·show (g1.slots.set ((m+sz0 c kids:Nat):Int).toNat _).getD k 0=_
     rw [Int.toNat_natCast,getD_put _ _ (by omega),if_neg (by omega)]
     exact b2.slots k hk
    ·exact b2.len
    ·exact b2.reads
    ·exact b2.acts
    ·show nl≤(g1.slots.set _ _).length
     rw [List.length_set]; exact b2.wide
    ·show ((to:Nat):Int).toNat=to
     exact Int.toNat_natCast _
    ·show (g1.slots.set ((m+sz0 c kids:Nat):Int).toNat (recW op (gvV g1.slots (kid0V c kids m)) 0)).getD ((m+sz0 c kids:Nat):Int).toNat 0=_
     rw [Int.toNat_natCast,getD_put _ _ (by omega),if_pos rfl,b4]
    ·show (g1.slots.set ((m+sz0 c kids:Nat):Int).toNat _).getD i 0=_
     rw [Int.toNat_natCast,getD_put _ _ (by omega),if_neg (by omega),b5 i hi]
    ·show (g1.slots.set _ _).length=_
     rw [List.length_set,b6]
   ·obtain ⟨g1,b1,b2⟩:=s0.2 q0
    exact ⟨fun h=>absurd h (by show ¬ 0<(kid0R c ws kids (okR s)).1.fuel; omega),fun _=>⟨g1,b1.mono (by omega),b2⟩⟩
theorem kid0_sim : ∀ (l:List Expr) (s:RS) (a m to:Nat) (g:GS),okEs c l=true→At L a (kid0D c l a m to)→Agr nl s g→g.at_=goOn (sz0 c l) a to→nl≤m→m+sz0 c l≤g.slots.length→ESim ws L nl s m to 0 (kid0V c l m) g (kid0R c ws l s)
 | [],s,a,m,to,g,hk,hat,hag,hg,hm,hsl=>by
  unfold kid0R kid0V
  unfold sz0 at hg
  exact ⟨fun _=>⟨g,.refl g,hag,hg,rfl,fun _ _=>rfl,rfl⟩,fun _=>⟨g,.refl g,hag.acts⟩⟩
 | e::r,s,a,m,to,g,hk,hat,hag,hg,hm,hsl=>by
  unfold okEs at hk
  rw [Bool.and_eq_true] at hk
  unfold kid0D at hat
  unfold sz0 at hg hsl
  unfold kid0R kid0V
  exact expr_sim e s a m to g hk.1 hat hag hg hm hsl
theorem kid1_sim : ∀ (l:List Expr) (s:RS) (a m to:Nat) (g:GS),okEs c l=true→At L a (kid1D c l a m to)→Agr nl s g→g.at_=goOn (sz1 c l) a to→nl≤m→m+sz1 c l≤g.slots.length→ESim ws L nl s m to 0 (kid1V c l m) g (kid1R c ws l s)
 | [],s,a,m,to,g,hk,hat,hag,hg,hm,hsl=>by
  unfold kid1R kid1V
  unfold sz1 at hg
  exact ⟨fun _=>⟨g,.refl g,hag,hg,rfl,fun _ _=>rfl,rfl⟩,fun _=>⟨g,.refl g,hag.acts⟩⟩
 | _::r,s,a,m,to,g,hk,hat,hag,hg,hm,hsl=>by
  unfold okEs at hk
  rw [Bool.and_eq_true] at hk
  unfold kid1D at hat
  unfold sz1 at hg hsl
  unfold kid1R kid1V
  exact kid0_sim r s a m to g hk.2 hat hag hg hm hsl
end
end
end Go.Proofs.YthboippafkcoiaaGreatDoor.am
namespace Go.Proofs.YthboippafkcoiaaGreatDoor.am
open Go Go.Proofs
set_option linter.all false
theorem least_pos : ∀ (l:List Int) (a:Int),0<a→0<leastW l a
 | [],a,h=>h
 | r::l,a,h=>by
  show 0<leastW l (bif decide (r > 0) && ((a == 0) || decide (r<a)) then r else a)
  refine least_pos l _ ?_
  cases hr:decide (r > 0) with
  | false=>exact h
  | true =>
   have:=of_decide_eq_true hr
   rw [Bool.true_and]
   cases ((a == 0) || decide (r<a)) with
   | true=>exact this
   | false=>exact h
theorem least_none : ∀ (l:List Int),decide (leastW l 0 > 0)=false → ∀ r ∈ l,r≤0
 | [],_,r,hr=>by cases hr
 | q::l,h,r,hr=>by
  have h:decide (leastW l (bif decide (q > 0) && (((0:Int) == 0) || decide (q<0)) then q else 0) > 0)=false:=h
  cases hq:decide (q > 0) with
  | true =>
   rw [hq] at h
   have h2:=of_decide_eq_false h
   exact absurd (least_pos l q (of_decide_eq_true hq)) h2
  | false =>
   rw [hq] at h
   rcases List.mem_cons.1 hr with rfl | hr
   ·have:=of_decide_eq_false hq; omega
   ·exact least_none l h r hr
theorem when_no {k:Int} {b:Bool} (hk:0<k) (h:whenI k b≤0):b=false:=by
 unfold whenI at h
 cases b with
 | false=>rfl
 | true=>rw [cond_true] at h; omega
theorem parts_wf {kind op word:Int} {name:ByteArray} {kids:List Expr} {at_:Int} (h:partsB (.mk kind op word name kids at_)=true):(kind == 1 || kind == 2 || (bif two op then decide (2≤kids.length) else decide (1≤kids.length)))=true∧(kind=1∨kind=2∨kind=3∨kind=4)∧(kind=3→two op=false)∧(kind=4→two op=true):=by
 unfold partsB at h
 dsimp only at h
 cases h1:(kind == 1) with
 | true =>
  have:=eq_of_beq h1
  exact ⟨rfl,.inl this,fun e=>by omega,fun e=>by omega⟩
 | false =>
 rw [h1,cond_false] at h
 cases h2:(kind == 2) with
 | true =>
  have:=eq_of_beq h2
  exact ⟨rfl,.inr (.inl this),fun e=>by omega,fun e=>by omega⟩
 | false =>
 rw [h2,cond_false] at h
 cases h3:(kind == 3) with
 | true =>
  rw [h3,cond_true] at h
  simp only [Bool.and_eq_true,beq_iff_eq,Bool.or_eq_true] at h
  have e3:=eq_of_beq h3
  have hl:=h.1.2
  rw [erows_len] at hl
  have ht:two op=false:=by
   rcases h.2 with rfl | rfl <;> rfl
  refine ⟨?_,.inr (.inr (.inl e3)),fun _=>ht,fun e=>by omega⟩
  rw [ht]
  simp only [Bool.false_or,cond_false,decide_eq_true_eq]
  omega
 | false =>
 rw [h3,cond_false] at h
 cases h4:(kind == 4) with
 | false=>rw [h4] at h; cases h
 | true =>
  rw [h4,cond_true] at h
  simp only [Bool.and_eq_true,beq_iff_eq] at h
  have e4:=eq_of_beq h4
  have hl:=h.1.2
  rw [erows_len] at hl
  refine ⟨?_,.inr (.inr (.inr e4)),fun e=>by omega,fun _=>h.2⟩
  rw [h.2]
  simp only [Bool.false_or,cond_true,decide_eq_true_eq]
  omega
mutual
def fitE:Expr→Bool
 | .mk kind op _ _ kids _=>(kind == 1 || kind == 2 || (kind == 3 && !two op) || (kind == 4 && two op)) && fitEs kids
def fitEs:List Expr→Bool
 | []=>true
 | e::l=>fitE e && fitEs l
end
mutual
theorem exprW_wf (top locals:MI) : ∀ (e:Expr) (deep:Int),exprW top locals e deep=none→wfE e=true∧fitE e=true
 | .mk kind op word name kids at_,deep,h=>by
  have hk:=exprsW_wf top locals kids (deep+1)
  unfold exprW at h
  cases hb:decide (leastW (exprRules top locals kind op word name kids at_ deep) 0 > 0) with
  | true=>rw [hb] at h; cases h
  | false =>
   rw [hb,cond_false] at h
   have hp:=when_no (by decide) (least_none _ hb (whenI 4 (!partsB (.mk kind op word name kids at_))) (by unfold exprRules; simp))
   rw [Bool.not_eq_false'] at hp
   obtain ⟨p1,p2,p3,p4⟩:=parts_wf hp
   obtain ⟨k1,k2⟩:=hk h
   refine ⟨by unfold wfE; rw [p1,k1]; rfl,?_⟩
   unfold fitE
   rw [k2,Bool.and_true]
   rcases p2 with rfl | rfl | rfl | rfl
   ·rfl
   ·rfl
   ·rw [p3 rfl]; rfl
   ·rw [p4 rfl]; rfl
theorem exprsW_wf (top locals:MI) : ∀ (l:List Expr) (deep:Int),exprsW top locals l deep=none→wfEs l=true∧fitEs l=true
 | [],_,_=>⟨by unfold wfEs; rfl,by unfold fitEs; rfl⟩
 | e::l,deep,h=>by
  unfold exprsW at h
  cases he:exprW top locals e deep with
  | some f=>rw [he] at h; cases h
  | none =>
   rw [he] at h
   obtain ⟨a1,a2⟩:=exprW_wf top locals e deep he
   obtain ⟨b1,b2⟩:=exprsW_wf top locals l deep h
   exact ⟨by unfold wfEs; rw [a1,b1]; rfl,by unfold fitEs; rw [a2,b2]; rfl⟩
end
theorem fields_wf {kind:Int} {name other:ByteArray} {e:List Expr} {body els:List Stmt} {at_:Int} (h:fieldsB (.mk kind name other e body els at_)=true):(decide (1≤kind) && decide (kind≤7))=true∧(kind == 5 || kind == 7 || decide (1≤e.length))=true∧(kind=1∨kind=2∨kind=6∨kind=7→body=[]∧els=[])∧(kind=4∨kind=5→els=[])∧(kind=5∨kind=7→e=[])∧e.length≤1:=by
 have nil : ∀ l:List Stmt,(!decide (((Stmt.rows l).length:Int) > 0))=true→l=[]:=fun l q=>by
  rw [Bool.not_eq_true'] at q
  have:=of_decide_eq_false q
  rw [srows_len] at this
  exact List.eq_nil_of_length_eq_zero (by omega)
 have one:(((Expr.rows e).length:Int) == 1)=true→e.length=1:=fun q=>by
  have:=eq_of_beq q
  rw [erows_len] at this
  omega
 have zer:(((Expr.rows e).length:Int) == 0)=true→e=[]:=fun q=>by
  have:=eq_of_beq q
  rw [erows_len] at this
  exact List.eq_nil_of_length_eq_zero (by omega)
 unfold fieldsB at h
 dsimp only at h
 cases h1:(kind == 1) with
 | true =>
  rw [h1,cond_true] at h
  obtain rfl:=eq_of_beq h1
  simp only [Bool.and_eq_true] at h
  have l1:=one h.1.1.2
  exact ⟨rfl,by rw [l1]; rfl,fun _=>⟨nil _ h.1.2,nil _ h.2⟩,fun q=>by omega,fun q=>by omega,by omega⟩
 | false =>
 rw [h1,cond_false] at h
 cases h2:(kind == 2) with
 | true =>
  rw [h2,cond_true] at h
  obtain rfl:=eq_of_beq h2
  simp only [Bool.and_eq_true] at h
  have l1:=one h.1.1
  exact ⟨rfl,by rw [l1]; rfl,fun _=>⟨nil _ h.1.2,nil _ h.2⟩,fun q=>by omega,fun q=>by omega,by omega⟩
 | false =>
 rw [h2,cond_false] at h
 cases h3:(kind == 3) with
 | true =>
  rw [h3,cond_true] at h
  obtain rfl:=eq_of_beq h3
  simp only [Bool.and_eq_true] at h
  have l1:=one h.2
  exact ⟨rfl,by rw [l1]; rfl,fun q=>by omega,fun q=>by omega,fun q=>by omega,by omega⟩
 | false =>
 rw [h3,cond_false] at h
 cases h4:(kind == 4) with
 | true =>
  rw [h4,cond_true] at h
  obtain rfl:=eq_of_beq h4
  simp only [Bool.and_eq_true] at h
  have l1:=one h.1.2
  exact ⟨rfl,by rw [l1]; rfl,fun q=>by omega,fun _=>nil _ h.2,fun q=>by omega,by omega⟩
 | false =>
 rw [h4,cond_false] at h
 cases h5:(kind == 5) with
 | true =>
  rw [h5,cond_true] at h
  obtain rfl:=eq_of_beq h5
  simp only [Bool.and_eq_true] at h
  have l0:=zer h.1.2
  exact ⟨rfl,rfl,fun q=>by omega,fun _=>nil _ h.2,fun _=>l0,by rw [l0]; exact Nat.zero_le _⟩
 | false =>
 rw [h5,cond_false] at h
 cases h6:(kind == 6) with
 | true =>
  rw [h6,cond_true] at h
  obtain rfl:=eq_of_beq h6
  simp only [Bool.and_eq_true] at h
  have l1:=one h.1.1.2
  exact ⟨rfl,by rw [l1]; rfl,fun _=>⟨nil _ h.1.2,nil _ h.2⟩,fun q=>by omega,fun q=>by omega,by omega⟩
 | false =>
 rw [h6,cond_false] at h
 cases h7:(kind == 7) with
 | false=>rw [h7] at h; cases h
 | true =>
  rw [h7,cond_true] at h
  obtain rfl:=eq_of_beq h7
  simp only [Bool.and_eq_true] at h
  have l0:=zer h.1.1.2
  exact ⟨rfl,rfl,fun _=>⟨nil _ h.1.2,nil _ h.2⟩,fun q=>by omega,fun _=>l0,by rw [l0]; exact Nat.zero_le _⟩
mutual
def fitS:Stmt→Bool
 | .mk _ _ _ e body els _=>fitEs e && (fitSs body && fitSs els)
def fitSs:List Stmt→Bool
 | []=>true
 | x::r=>fitS x && fitSs r
end
mutual
theorem stmtW_wf (top locals:MI) : ∀ (x:Stmt) (deep:Int),stmtW top locals x deep=none→wfS x=true∧fitS x=true
 | .mk kind name other e body els at_,deep,h=>by
  have hb1:=blockW_wf top locals body (deep+1)
  have hb2:=blockW_wf top locals els (deep+1)
  unfold stmtW at h
  cases hb:decide (leastW (stmtRules top locals kind name other e body els at_ deep) 0 > 0) with
  | true=>rw [hb] at h; cases h
  | false =>
   rw [hb,cond_false] at h
   have hp:=when_no (by decide) (least_none _ hb (whenI 4 (!fieldsB (.mk kind name other e body els at_))) (by unfold stmtRules; cases kind == 1 <;> cases kind == 2 <;> cases kind == 5 <;> simp))
   rw [Bool.not_eq_false'] at hp
   obtain ⟨f1,f2,_⟩:=fields_wf hp
   cases he:exprsW top locals e 1 with
   | some f=>rw [he] at h; cases h
   | none =>
    rw [he] at h
    cases hbd:blockW top locals body (deep+1) with
    | some f=>simp only [hbd] at h; cases h
    | none =>
     simp only [hbd] at h
     obtain ⟨e1,e2⟩:=exprsW_wf top locals e 1 he
     obtain ⟨b1,b2⟩:=hb1 hbd
     obtain ⟨c1,c2⟩:=hb2 h
     exact ⟨by unfold wfS; rw [f1,f2,e1,b1,c1]; rfl,by unfold fitS; rw [e2,b2,c2]; rfl⟩
theorem blockW_wf (top locals:MI) : ∀ (l:List Stmt) (deep:Int),blockW top locals l deep=none→wfSs l=true∧fitSs l=true
 | [],_,_=>⟨by unfold wfSs; rfl,by unfold fitSs; rfl⟩
 | x::r,deep,h=>by
  unfold blockW at h
  cases hx:stmtW top locals x deep with
  | some f=>rw [hx] at h; cases h
  | none =>
   rw [hx] at h
   obtain ⟨a1,a2⟩:=stmtW_wf top locals x deep hx
   obtain ⟨b1,b2⟩:=blockW_wf top locals r deep h
   exact ⟨by unfold wfSs; rw [a1,b1]; rfl,by unfold fitSs; rw [a2,b2]; rfl⟩
end
theorem thsW_wf (p:Prg) (top:MI) : ∀ (l:List Thread) (i:Nat) (m:MI),thsW p top l i m=none → ∀ th ∈ l,threadW p top th=none
 | [],_,_,_,th,h=>by cases h
 | t::r,i,m,h,th,hm=>by
  unfold thsW at h
  cases hb:decide (leastW (thRules m i t) 0 > 0) with
  | true=>rw [hb] at h; cases h
  | false =>
   rw [hb,cond_false] at h
   cases ht:threadW p top t with
   | some f=>rw [ht] at h; cases h
   | none =>
    rw [ht] at h
    rcases List.mem_cons.1 hm with rfl | hm
    ·exact ht
    ·exact thsW_wf p top r _ _ h th hm
theorem check_wf {p:Prg} (h:(checkW p).1=0) : ∀ th ∈ p.threads,wfSs th.body=true∧fitSs th.body=true:=by
 intro th hth
 unfold checkW at h
 cases hf:firstW p with
 | some f=>rw [hf] at h; exact absurd (show (50:Int)=0 from h) (by decide)
 | none =>
  unfold firstW at hf
  split at hf
  ·cases hf
  ·split at hf
   ·cases hf
   ·have:=thsW_wf p _ _ _ _ hf th hth
    unfold threadW at this
    split at this
    ·cases this
    ·exact blockW_wf _ _ _ _ this
end Go.Proofs.YthboippafkcoiaaGreatDoor.am
namespace Go.Proofs.YthboippafkcoiaaGreatDoor.am
open Go Go.Proofs
set_option linter.all false
def SSim (ws:List Int) (L:List Nd) (nl:Nat) (s:RS) (to k:Nat) (g:GS) (s':RS):Prop :=
 (0<s'.fuel → ∃ g',Reach L ws (2*(s.fuel - s'.fuel).toNat+k) g g'∧Agr nl s' g'∧g'.at_=to∧g'.slots.length=g.slots.length)∧(s'.fuel≤0 → ∃ g',Reach L ws (2*s.fuel.toNat+k) g g'∧g'.acts=s'.acts)
theorem RR.dryA {k m:Nat} {s s':RS} (h:RR k m s s') (hp:s.fuel≤0):s'.acts=s.acts∧s'.fuel≤0:=by
 rcases h.dry hp with e | e <;> rw [e]
 ·exact ⟨rfl,by show s.fuel - 1≤0; omega⟩
 ·exact ⟨rfl,hp⟩
theorem Agr.act {nl:Nat} {s:RS} {g:GS} (h:Agr nl s g) (a:Act) (at_:Nat):Agr nl (actR a s) { g with acts:=g.acts++[a],at_:=at_ }:=⟨h.slots,h.len,h.reads,by show g.acts++[a]=s.acts++[a]; rw [h.acts],h.wide⟩
theorem Agr.go {nl:Nat} {s:RS} {g:GS} (h:Agr nl s g) (at_:Nat):Agr nl s { g with at_:=at_ }:=⟨h.slots,h.len,h.reads,h.acts,h.wide⟩
theorem Agr.put {nl:Nat} {s:RS} {g:GS} (h:Agr nl s g) {k:Nat} (hk:k<nl) (w:Int) (at_:Nat):Agr nl { s with locals:=s.locals.set k w } { g with slots:=g.slots.set k w,at_:=at_ }:=by
 have hw:=h.wide; have hl:=h.len
 refine ⟨fun i hi => ?_,by show (s.locals.set k w).length=nl; rw [List.length_set]; exact hl,h.reads,h.acts,by show nl≤(g.slots.set k w).length; rw [List.length_set]; exact hw⟩
 show (g.slots.set k w).getD i 0=(s.locals.set k w).getD i 0
 rw [getD_put _ _ (by omega),getD_put _ _ (by omega),h.slots i hi]
theorem Agr.tmp {nl:Nat} {s:RS} {g:GS} (h:Agr nl s g) {k:Nat} (hk:nl≤k) (hk2:k<g.slots.length) (w:Int):Agr nl s { g with slots:=g.slots.set k w }:=by
 have hw:=h.wide
 refine ⟨fun i hi => ?_,h.len,h.reads,h.acts,by show nl≤(g.slots.set k w).length; rw [List.length_set]; exact hw⟩
 show (g.slots.set k w).getD i 0=s.locals.getD i 0
 rw [getD_put _ _ hk2,if_neg (by omega),h.slots i hi]
theorem Agr.next {nl:Nat} {s:RS} {g:GS} (h:Agr nl s g):Agr nl (nextR s) { g with reads:=g.reads+1 }:=⟨h.slots,h.len,by show g.reads+1=s.reads+1; rw [h.reads],h.acts,h.wide⟩
theorem Agr.rd {nl:Nat} {s:RS} {g:GS} (h:Agr nl s g) (ws:List Int):gvRead ws g=readR ws s:=by unfold gvRead readR; rw [h.reads]
theorem Reach.to {L:List Nd} {ws:List Int} {g g':GS} {k:Nat} {n:Nd} (ha:g.at_=k) (h:L[k]? = some n) (e:gvDo ws n g=g'):Reach L ws 1 g g':=by subst ha; rw [← e]; exact .one h
theorem head_kid (c:LowC) (ws:List Int) (kind:Int) (e:List Expr) (s:RS) (h:(kind == 4)=false):headR6 c ws kind e s=kid0R c ws e s:=by
 unfold headR6
 have:(kind != 4)=true:=by unfold bne; rw [h]; rfl
 rw [this,Bool.and_true]
 cases e with
 | nil=>unfold kid0R; rfl
 | cons x r=>rfl
section
variable (c:LowC) (ws:List Int) (L:List Nd) (nl:Nat) (hloc : ∀ name,localI c.p c.t name<(nl:Nat))
theorem while_sim {e:List Expr} {body:List Stmt} {a m to:Nat} (hke:okEs c e=true) (he:e.length=1) (hae:At L a (kid0D c e a m (a+sz0 c e))) {n8:Nd} (hn:L[a+sz0 c e]? = some n8) (k8:n8.kind=8) (ka:n8.a=kid0V c e m) (kn:n8.next=(goOn (szB c body) (a+sz0 c e+1) a:Nat)) (ks:n8.els=(to:Nat))
  (hm:nl≤m) (hloc : ∀ name,localI c.p c.t name<(nl:Nat)) (hb : ∀ (s:RS) (g:GS),Agr nl s g→g.at_=goOn (szB c body) (a+sz0 c e+1) a→m+sz0 c e+slB c body≤g.slots.length→SSim ws L nl s a 0 g (blockR6 c ws body s)) :
  ∀ (n:Nat) (s:RS) (g:GS),s.fuel.toNat<n→Agr nl s g→g.at_=a→m+sz0 c e+slB c body≤g.slots.length→SSim ws L nl s to 0 g (whileR (kid0R c ws e) (blockR6 c ws body) n s)
 | 0,s,g,hf,_,_,_=>absurd hf (Nat.not_lt_zero _)
 | n+1,s,g,hf,hag,hg,hsl=>by
  have hE : ∀ s,RR 0 1 s (kid0R c ws e s).1∧(s.fuel≤0→(kid0R c ws e s).2=0):=fun s=>⟨(kid0R_rr c ws e s).1,fun h=>by
   cases e with
   | nil=>unfold kid0R; rfl
   | cons e1 r=>unfold kid0R; exact (exprR_rr c ws e1 s).2.2.2 h⟩
  have hwr:=whileR_rr hE (fun s=>blockR6_rr c ws body s)
  by_cases hp:s.fuel≤0
  ·have:=(hwr (n+1) s).dryA hp
   exact ⟨fun h=>absurd h (by omega),fun _=>⟨g,.refl g,hag.acts.trans this.1.symm⟩⟩
  have hless:(kid0R c ws e s).1.fuel<s.fuel:=by
   match e,he with
   | [x],_=>unfold kid0R; exact (exprR_rr c ws x s).2.2.1
  have hs:=kid0_sim c ws L nl hloc e s a m (a+sz0 c e) g hke hae hag (by rw [hg,goOn_same]) hm (by omega)
  unfold whileR
  by_cases q:(kid0R c ws e s).1.fuel≤0
  ·obtain ⟨g1,b1,b2⟩:=hs.2 q
   have hr:Reach L ws (2*s.fuel.toNat+0) g g1:=b1.mono (by omega)
   cases (kid0R c ws e s).2 != 0 with
   | false=>exact ⟨fun h=>absurd h (by show ¬ 0<(kid0R c ws e s).1.fuel; omega),fun _=>⟨g1,hr,b2⟩⟩
   | true =>
    have e1:decide ((okR (kid0R c ws e s).1).fuel > 0)=false:=decide_eq_false (by show ¬ (kid0R c ws e s).1.fuel - 1 > 0; omega)
    rw [e1]
    exact ⟨fun h=>absurd h (by show ¬ 0<(kid0R c ws e s).1.fuel - 1; omega),fun _=>⟨g1,hr,b2⟩⟩
  obtain ⟨g1,b1,b2,b3,b4,b5,b6⟩:=hs.1 (by omega)
  have hdo:gvDo ws n8 g1 = { g1 with at_:=bif (kid0R c ws e s).2 == 0 then to else goOn (szB c body) (a+sz0 c e+1) a }:=by
   unfold gvDo
   rw [k8,ka,kn,ks,b4]
   show ({ g1 with at_:=bif (kid0R c ws e s).2 == 0 then ((to:Nat):Int).toNat else ((goOn (szB c body) (a+sz0 c e+1) a:Nat):Int).toNat }:GS)=_
   rw [Int.toNat_natCast,Int.toNat_natCast]
  have hst:=Reach.to (L:=L) b3 hn hdo
  cases hw:(kid0R c ws e s).2 != 0 with
  | false =>
   have hw0:((kid0R c ws e s).2 == 0)=true:=by unfold bne at hw; simpa using hw
   rw [hw0] at hst
   exact ⟨fun _=>⟨_,b1.trans hst (by show _≤2*(s.fuel - (kid0R c ws e s).1.fuel).toNat+0; omega),b2.go to,rfl,b6⟩,fun h=>absurd h (by show ¬ (kid0R c ws e s).1.fuel≤0; omega)⟩
  | true =>
   have hw0:((kid0R c ws e s).2 == 0)=false:=by unfold bne at hw; simpa using hw
   rw [hw0] at hst
   rw [cond_true]
   have of:(okR (kid0R c ws e s).1).fuel=(kid0R c ws e s).1.fuel - 1:=rfl
   cases hq:decide ((okR (kid0R c ws e s).1).fuel > 0) with
   | false =>
    have hq:=of_decide_eq_false hq
    rw [cond_false]
    exact ⟨fun h=>absurd h (by omega),fun _=>⟨g1,b1.mono (by omega),b2.acts⟩⟩
   | true =>
    have hq:=of_decide_eq_true hq
    rw [cond_true]
    have sb:=hb (okR (kid0R c ws e s).1) _ (ok_ag (b2.go _)) rfl (by show _≤g1.slots.length; omega)
    have rb:=blockR6_rr c ws body (okR (kid0R c ws e s).1)
    have rw':=hwr n (blockR6 c ws body (okR (kid0R c ws e s).1))
    have l1:=rb.less; have l2:=rw'.less
    rcases Int.lt_or_le 0 (blockR6 c ws body (okR (kid0R c ws e s).1)).fuel with q2 | q2
    ·obtain ⟨g2,d1,d2,d3,d4⟩:=sb.1 q2
     have d4:g2.slots.length=g1.slots.length:=d4
     have ih:=while_sim hke he hae hn k8 ka kn ks hm hloc hb n _ g2 (by omega) d2 d3 (by omega)
     have hh:=(b1.trans hst (Nat.le_refl _)).trans d1 (Nat.le_refl _)
     refine ⟨fun h => ?_,fun h => ?_⟩
     ·obtain ⟨g3,f1,f2,f3,f4⟩:=ih.1 h
      exact ⟨g3,hh.trans f1 (by omega),f2,f3,by omega⟩
     ·obtain ⟨g3,f1,f2⟩:=ih.2 h
      exact ⟨g3,hh.trans f1 (by omega),f2⟩
    ·obtain ⟨g2,d1,d2⟩:=sb.2 q2
     have dr:=rw'.dryA q2
     have hh:=(b1.trans hst (Nat.le_refl _)).trans d1 (Nat.le_refl _)
     exact ⟨fun h=>absurd h (by omega),fun _=>⟨g2,hh.mono (by omega),d2.trans dr.1.symm⟩⟩
include hloc
mutual
theorem stmt_sim6 : ∀ (x:Stmt) (s:RS) (a m to:Nat) (g:GS),0<s.fuel→okS c x=true→At L a (stmtD c x a m to)→Agr nl s g→g.at_=goOn (szS c x) a to→nl≤m→m+slS c x≤g.slots.length→SSim ws L nl s to 2 g (stmtR c ws x s)
 | .mk kind name other e body els at_,s,a,m,to,g,hp,hk,hat,hag,hg,hm,hsl=>by
  have hb:=fun s a m to g=>block_sim6 body s a m to g
  have he:=fun s a m to g=>block_sim6 els s a m to g
  have hln:=hloc name
  unfold okS at hk
  simp only [Bool.and_eq_true] at hk
  obtain ⟨⟨⟨⟨hf,hnm⟩,hke⟩,hkb⟩,hkl⟩:=hk
  obtain ⟨f1,f2,f3,f4,f5,f6⟩:=fields_wf hf
  unfold stmtD at hat
  unfold szS at hg
  unfold slS at hsl
  unfold stmtR
  cases k4:kind == 4 with
  | true =>
   have hk4:=eq_of_beq k4
   subst hk4
   have hel:e.length=1:=by
    unfold fieldsB at hf
    simp only [show ((4:Int) == 1)=false from rfl,show ((4:Int) == 2)=false from rfl,show ((4:Int) == 3)=false from rfl,show ((4:Int) == 4)=true from rfl,cond_true,cond_false,Bool.and_eq_true,erows_len,beq_iff_eq] at hf
    omega
   have hat:At L a (kid0D c e a m (a+sz0 c e)++({ nd00 with kind:=8,a:=kid0V c e m,next:=(goOn (szB c body) (a+sz0 c e+1) a:Nat),els:=(to:Nat),origin:=((a+sz0 c e:Nat):Int) }::blockD c body (a+sz0 c e+1) (m+sz0 c e) a)):=hat
   have hg:g.at_=a:=by
    have:g.at_=goOn (sz0 c e+(1+szB c body)) a to:=hg
    rw [this]; exact goOn_of_pos (by omega)
   have hsl:m+(sz0 c e+slB c body)≤g.slots.length:=hsl
   obtain ⟨a0,hat⟩:=hat.app (kid0D_len ..)
   obtain ⟨hn,hat⟩:=hat.cons
   have hw:=while_sim c ws L nl (to:=to) hke hel a0 hn rfl rfl rfl rfl hm hloc (fun s g h1 h2 h3=>hb s (a+sz0 c e+1) (m+sz0 c e) a g hkb hat h1 h2 (by omega) h3) (s.fuel.toNat+1) s g (Nat.lt_succ_self _) hag hg (by omega)
   have e0:headR6 c ws 4 e s=(s,0):=by unfold headR6; cases decide (0<e.length) <;> rfl
   rw [e0]
   have e1:decide ((s,(0:Int)).1.fuel≤0)=false:=decide_eq_false (by show ¬ s.fuel≤0; omega)
   rw [e1]
   show SSim ws L nl s to 2 g (whileR (kid0R c ws e) (blockR6 c ws body) (s.fuel.toNat+1) s)
   refine ⟨fun h => ?_,fun h => ?_⟩
   ·obtain ⟨g',x1,x2⟩:=hw.1 h
    exact ⟨g',x1.mono (by omega),x2⟩
   ·obtain ⟨g',x1,x2⟩:=hw.2 h
    exact ⟨g',x1.mono (by omega),x2⟩
  | false =>
  rw [k4] at hat hg hsl
  rw [head_kid c ws kind e s k4]
  have hs:=kid0_sim c ws L nl hloc e s a m (a+sz0 c e) g hke
  have rk:=(kid0R_rr c ws e s).1
  have l0:=rk.less
  have dead:(kid0R c ws e s).1.fuel≤0 → ∀ {z:RS},ESim ws L nl s m (a+sz0 c e) 0 (kid0V c e m) g (kid0R c ws e s)→SSim ws L nl s to 2 g (kid0R c ws e s).1:=fun q z hq=>by
   obtain ⟨g1,b1,b2⟩:=hq.2 q
   exact ⟨fun h=>absurd h (by omega),fun _=>⟨g1,b1.mono (by omega),b2⟩⟩
  cases k1:kind == 1 with
  | true =>
   rw [k1] at hat hg hsl
   simp only [cond_true,cond_false] at hat hg hsl ⊢
   obtain ⟨a0,hat⟩:=hat.app (kid0D_len ..)
   have hn:=hat.cons.1
   have hs:=hs a0 hag (by rw [hg,goOn_same]; exact goOn_of_pos (by omega)) hm (by omega)
   cases q:decide ((kid0R c ws e s).1.fuel≤0) with
   | true=>exact dead (of_decide_eq_true q) (z:=s) hs
   | false =>
   have q:=of_decide_eq_false q
   rw [cond_false]
   obtain ⟨g1,b1,b2,b3,b4,b5,b6⟩:=hs.1 (by omega)
   unfold giveN at hn
   unfold storeR
   cases hd:decide (localI c.p c.t name ≥ 0) with
   | true =>
    rw [hd] at hn
    have hd:=of_decide_eq_true hd
    have hag2:=b2.put (k:=(localI c.p c.t name).toNat) (by omega) (kid0R c ws e s).2 to
    have e2:gvDo ws { nd00 with kind:=1,slot:=localI c.p c.t name,a:=kid0V c e m,next:=(to:Nat),origin:=(a+sz0 c e:Nat) } g1 = { g1 with slots:=g1.slots.set (localI c.p c.t name).toNat (kid0R c ws e s).2,at_:=to }:=by
     show ({ g1 with slots:=g1.slots.set (localI c.p c.t name).toNat (gvV g1.slots (kid0V c e m)),at_:=((to:Nat):Int).toNat }:GS)=_
     rw [b4,Int.toNat_natCast]
    have hst:=Reach.to (L:=L) b3 hn e2
    exact ⟨fun _=>⟨_,b1.trans hst (by show _≤2*(s.fuel - (kid0R c ws e s).1.fuel).toNat+2; omega),hag2,rfl,by show (g1.slots.set _ _).length=_; rw [List.length_set]; exact b6⟩,fun h=>absurd h (by show ¬ (kid0R c ws e s).1.fuel≤0; omega)⟩
   | false =>
    rw [hd] at hn
    have e1:decide ((kid0R c ws e s).1.fuel > 0)=true:=decide_eq_true (by omega)
    rw [e1]
    have hag2:=b2.act ⟨3,findI c.p.shared name 0,(kid0R c ws e s).2⟩ to
    have e2:gvDo ws { nd00 with kind:=3,thing:=findI c.p.shared name 0,a:=kid0V c e m,next:=(to:Nat),origin:=(a+sz0 c e:Nat) } g1 = { g1 with acts:=g1.acts++[⟨3,findI c.p.shared name 0,(kid0R c ws e s).2⟩],at_:=to }:=by
     show ({ g1 with acts:=g1.acts++[⟨3,findI c.p.shared name 0,gvV g1.slots (kid0V c e m)⟩],at_:=((to:Nat):Int).toNat }:GS)=_
     rw [b4,Int.toNat_natCast]
    have hst:=Reach.to (L:=L) b3 hn e2
    exact ⟨fun _=>⟨_,b1.trans hst (by show _≤2*(s.fuel - (kid0R c ws e s).1.fuel).toNat+2; omega),hag2,rfl,b6⟩,fun h=>absurd h (by show ¬ (kid0R c ws e s).1.fuel≤0; omega)⟩
  | false =>
  rw [k1] at hat hg hsl
  cases k2:kind == 2 with
  | true =>
   rw [k2] at hat hg hsl
   simp only [cond_true,cond_false] at hat hg hsl ⊢
   obtain ⟨a0,hat⟩:=hat.app (kid0D_len ..)
   have hs:=hs a0 hag (by rw [hg,goOn_same]; exact goOn_of_pos (by cases decide (localI c.p c.t name ≥ 0) <;> simp)) hm (by omega)
   cases q:decide ((kid0R c ws e s).1.fuel≤0) with
   | true=>exact dead (of_decide_eq_true q) (z:=s) hs
   | false =>
   have q:=of_decide_eq_false q
   rw [cond_false]
   obtain ⟨g1,b1,b2,b3,b4,b5,b6⟩:=hs.1 (by omega)
   unfold swapD at hat
   unfold storeR
   have hrd:=b2.rd ws
   cases hd:decide (localI c.p c.t name ≥ 0) with
   | true =>
    rw [hd] at hat
    have hn:=hat.cons.1
    have hd:=of_decide_eq_true hd
    have hag2:=((b2.next.act ⟨4,findI c.p.shared other 0,(kid0R c ws e s).2⟩ to).put (k:=(localI c.p c.t name).toNat) (by omega) (readR ws (kid0R c ws e s).1) to)
    have e2:gvDo ws { nd00 with kind:=4,a:=kid0V c e m,thing:=findI c.p.shared other 0,slot:=localI c.p c.t name,next:=(to:Nat),origin:=(a+sz0 c e:Nat) } g1=⟨g1.slots.set (localI c.p c.t name).toNat (readR ws (kid0R c ws e s).1),g1.reads+1,to,g1.acts++[⟨4,findI c.p.shared other 0,(kid0R c ws e s).2⟩]⟩:=by
     show (⟨g1.slots.set (localI c.p c.t name).toNat (gvRead ws g1),g1.reads+1,((to:Nat):Int).toNat,g1.acts++[⟨4,findI c.p.shared other 0,gvV g1.slots (kid0V c e m)⟩]⟩:GS)=_
     rw [b4,Int.toNat_natCast,hrd]
    have hst:=Reach.to (L:=L) b3 hn e2
    exact ⟨fun _=>⟨_,b1.trans hst (by show _≤2*(s.fuel - (kid0R c ws e s).1.fuel).toNat+2; omega),hag2,rfl,by show (g1.slots.set _ _).length=_; rw [List.length_set]; exact b6⟩,fun h=>absurd h (by show ¬ (kid0R c ws e s).1.fuel≤0; omega)⟩
   | false =>
    rw [hd] at hat hsl
    have hn:=hat.cons.1
    have hn2:=hat.cons.2.cons.1
    have e2:gvDo ws { nd00 with kind:=4,a:=kid0V c e m,thing:=findI c.p.shared other 0,slot:=((m+sz0 c e:Nat):Int),next:=((a+sz0 c e+1:Nat):Int),origin:=(a+sz0 c e:Nat) } g1=⟨g1.slots.set (m+sz0 c e) (readR ws (kid0R c ws e s).1),g1.reads+1,a+sz0 c e+1,g1.acts++[⟨4,findI c.p.shared other 0,(kid0R c ws e s).2⟩]⟩:=by
     show (⟨g1.slots.set ((m+sz0 c e:Nat):Int).toNat (gvRead ws g1),g1.reads+1,((a+sz0 c e+1:Nat):Int).toNat,g1.acts++[⟨4,findI c.p.shared other 0,gvV g1.slots (kid0V c e m)⟩]⟩:GS)=_
     rw [b4,Int.toNat_natCast,Int.toNat_natCast,hrd]
    have hst:=Reach.to (L:=L) b3 hn e2
    simp only [cond_false] at hsl
    have e3:gvDo ws { nd00 with kind:=3,thing:=findI c.p.shared name 0,a:=inV ((m+sz0 c e:Nat):Int),next:=(to:Nat),origin:=((a+sz0 c e+1:Nat):Int) } ⟨g1.slots.set (m+sz0 c e) (readR ws (kid0R c ws e s).1),g1.reads+1,a+sz0 c e+1,g1.acts++[⟨4,findI c.p.shared other 0,(kid0R c ws e s).2⟩]⟩=⟨g1.slots.set (m+sz0 c e) (readR ws (kid0R c ws e s).1),g1.reads+1,to,(g1.acts++[⟨4,findI c.p.shared other 0,(kid0R c ws e s).2⟩])++[⟨3,findI c.p.shared name 0,readR ws (kid0R c ws e s).1⟩]⟩:=by
     show (⟨g1.slots.set (m+sz0 c e) (readR ws (kid0R c ws e s).1),g1.reads+1,((to:Nat):Int).toNat,(g1.acts++[⟨4,findI c.p.shared other 0,(kid0R c ws e s).2⟩])++[⟨3,findI c.p.shared name 0,(g1.slots.set (m+sz0 c e) (readR ws (kid0R c ws e s).1)).getD ((m+sz0 c e:Nat):Int).toNat 0⟩]⟩:GS)=_
     rw [Int.toNat_natCast,Int.toNat_natCast,getD_put _ _ (by omega),if_pos rfl]
    have hst2:=Reach.to (L:=L) rfl hn2 e3
    have e1:decide ((actR ⟨4,findI c.p.shared other 0,(kid0R c ws e s).2⟩ (nextR (kid0R c ws e s).1)).fuel > 0)=true:=decide_eq_true (by show (kid0R c ws e s).1.fuel > 0; omega)
    rw [e1]
    have hag2:=(((b2.tmp (k:=m+sz0 c e) (by omega) (by omega) (readR ws (kid0R c ws e s).1)).next.act ⟨4,findI c.p.shared other 0,(kid0R c ws e s).2⟩ to).act ⟨3,findI c.p.shared name 0,readR ws (kid0R c ws e s).1⟩ to)
    exact ⟨fun _=>⟨_,(b1.trans hst (Nat.le_refl _)).trans hst2 (by show _≤2*(s.fuel - (kid0R c ws e s).1.fuel).toNat+2; omega),hag2,rfl,by show (g1.slots.set _ _).length=_; rw [List.length_set]; exact b6⟩,fun h=>absurd h (by show ¬ (kid0R c ws e s).1.fuel≤0; omega)⟩
  | false =>
  rw [k2] at hat hg hsl
  cases k6:kind == 6 with
  | true =>
   have hk6:=eq_of_beq k6
   subst hk6
   have hat:At L a (kid0D c e a m (a+sz0 c e)++[{ nd00 with kind:=7,a:=kid0V c e m,next:=(to:Nat),origin:=((a+sz0 c e:Nat):Int) }]):=hat
   have hg:g.at_=goOn (sz0 c e+1) a to:=hg
   have hsl:m+sz0 c e≤g.slots.length:=hsl
   obtain ⟨a0,hat⟩:=hat.app (kid0D_len ..)
   have hn:=hat.cons.1
   have hs:=hs a0 hag (by rw [hg,goOn_same]; exact goOn_of_pos (by omega)) hm (by omega)
   cases q:decide ((kid0R c ws e s).1.fuel≤0) with
   | true=>exact dead (of_decide_eq_true q) (z:=s) hs
   | false =>
   have q:=of_decide_eq_false q
   simp only [cond_true,cond_false]
   obtain ⟨g1,b1,b2,b3,b4,b5,b6⟩:=hs.1 (by omega)
   have hag2:=b2.act ⟨7,0,(kid0R c ws e s).2⟩ to
   have e2:gvDo ws { nd00 with kind:=7,a:=kid0V c e m,next:=(to:Nat),origin:=((a+sz0 c e:Nat):Int) } g1 = { g1 with acts:=g1.acts++[⟨7,0,(kid0R c ws e s).2⟩],at_:=to }:=by
    show ({ g1 with acts:=g1.acts++[⟨7,0,gvV g1.slots (kid0V c e m)⟩],at_:=((to:Nat):Int).toNat }:GS)=_
    rw [b4,Int.toNat_natCast]
   have hst:=Reach.to (L:=L) b3 hn e2
   exact ⟨fun _=>⟨_,b1.trans hst (by show _≤2*(s.fuel - (kid0R c ws e s).1.fuel).toNat+2; omega),hag2,rfl,b6⟩,fun h=>absurd h (by show ¬ (kid0R c ws e s).1.fuel≤0; omega)⟩
  | false =>
  rw [k6] at hat hg hsl
  cases k3:kind == 3 with
  | true =>
   rw [k3] at hat hg hsl
   simp only [cond_true,cond_false] at hat hg hsl ⊢
   obtain ⟨a0,hat⟩:=hat.app (kid0D_len ..)
   obtain ⟨hn,hat⟩:=hat.cons
   obtain ⟨ab,al⟩:=hat.app (blockD_len ..)
   have hs:=hs a0 hag (by rw [hg,goOn_same]; exact goOn_of_pos (by omega)) hm (by omega)
   cases q:decide ((kid0R c ws e s).1.fuel≤0) with
   | true=>exact dead (of_decide_eq_true q) (z:=s) hs
   | false =>
   have q:=of_decide_eq_false q
   rw [cond_false]
   obtain ⟨g1,b1,b2,b3,b4,b5,b6⟩:=hs.1 (by omega)
   have e2:gvDo ws { nd00 with kind:=8,a:=kid0V c e m,next:=(goOn (szB c body) (a+sz0 c e+1) to:Nat),els:=(goOn (szB c els) (a+sz0 c e+1+szB c body) to:Nat),origin:=((a+sz0 c e:Nat):Int) } g1 = { g1 with at_:=bif (kid0R c ws e s).2 == 0 then goOn (szB c els) (a+sz0 c e+1+szB c body) to else goOn (szB c body) (a+sz0 c e+1) to }:=by
    show ({ g1 with at_:=bif gvV g1.slots (kid0V c e m) == 0 then ((goOn (szB c els) (a+sz0 c e+1+szB c body) to:Nat):Int).toNat else ((goOn (szB c body) (a+sz0 c e+1) to:Nat):Int).toNat }:GS)=_
    rw [b4,Int.toNat_natCast,Int.toNat_natCast]
   have hst:=Reach.to (L:=L) b3 hn e2
   cases hw:(kid0R c ws e s).2 != 0 with
   | true =>
    have hw0:((kid0R c ws e s).2 == 0)=false:=by unfold bne at hw; simpa using hw
    rw [hw0] at hst
    have sb:=hb (kid0R c ws e s).1 (a+sz0 c e+1) (m+sz0 c e) to _ hkb ab (b2.go _) rfl (by omega) (by show _≤g1.slots.length; omega)
    have l1:=(blockR6_rr c ws body (kid0R c ws e s).1).less
    refine ⟨fun h => ?_,fun h => ?_⟩
    ·obtain ⟨g3,y1,y2,y3,y4⟩:=sb.1 h
     have h:0<(blockR6 c ws body (kid0R c ws e s).1).fuel:=h
     exact ⟨g3,(b1.trans hst (Nat.le_refl _)).trans y1 (by show _≤2*(s.fuel - (blockR6 c ws body (kid0R c ws e s).1).fuel).toNat+2; omega),y2,y3,y4.trans b6⟩
    ·obtain ⟨g3,y1,y2⟩:=sb.2 h
     exact ⟨g3,(b1.trans hst (Nat.le_refl _)).trans y1 (by omega),y2⟩
   | false =>
    have hw0:((kid0R c ws e s).2 == 0)=true:=by unfold bne at hw; simpa using hw
    rw [hw0] at hst
    have sb:=he (kid0R c ws e s).1 (a+sz0 c e+1+szB c body) (m+sz0 c e+slB c body) to _ hkl al (b2.go _) rfl (by omega) (by show _≤g1.slots.length; omega)
    have l1:=(blockR6_rr c ws els (kid0R c ws e s).1).less
    refine ⟨fun h => ?_,fun h => ?_⟩
    ·obtain ⟨g3,y1,y2,y3,y4⟩:=sb.1 h
     have h:0<(blockR6 c ws els (kid0R c ws e s).1).fuel:=h
     exact ⟨g3,(b1.trans hst (Nat.le_refl _)).trans y1 (by show _≤2*(s.fuel - (blockR6 c ws els (kid0R c ws e s).1).fuel).toNat+2; omega),y2,y3,y4.trans b6⟩
    ·obtain ⟨g3,y1,y2⟩:=sb.2 h
     exact ⟨g3,(b1.trans hst (Nat.le_refl _)).trans y1 (by omega),y2⟩
  | false =>
  rw [k3] at hat hg hsl
  rw [Bool.and_eq_true,decide_eq_true_eq,decide_eq_true_eq] at f1
  have n1:kind≠1:=by simpa using k1
  have n2:kind≠2:=by simpa using k2
  have n3:kind≠3:=by simpa using k3
  have n4:kind≠4:=by simpa using k4
  have n6:kind≠6:=by simpa using k6
  obtain rfl:=f5 (by omega)
  have e0:kid0R c ws [] s=(s,0):=by unfold kid0R; rfl
  rw [e0]
  have e1:decide ((s,(0:Int)).1.fuel≤0)=false:=decide_eq_false (by show ¬ s.fuel≤0; omega)
  rw [e1]
  simp only [cond_false]
  cases k5:kind == 5 with
  | true =>
   rw [k5] at hat hg hsl
   simp only [cond_true,cond_false] at hat hg hsl ⊢
   obtain ⟨hn,hat⟩:=hat.cons
   obtain ⟨ab,hat⟩:=hat.app (blockD_len ..)
   have hn2:=hat.cons.1
   have hg:g.at_=a:=by rw [hg]; exact goOn_of_pos (by omega)
   have e2:gvDo ws { nd00 with kind:=5,thing:=findI c.p.locks name 0,next:=((a+1:Nat):Int),origin:=(a:Nat) } g = { g with acts:=g.acts++[⟨5,findI c.p.locks name 0,0⟩],at_:=a+1 }:=by
    show ({ g with acts:=g.acts++[⟨5,findI c.p.locks name 0,0⟩],at_:=((a+1:Nat):Int).toNat }:GS)=_
    rw [Int.toNat_natCast]
   have hst:=Reach.to (L:=L) hg hn e2
   have sb:=hb (actR ⟨5,findI c.p.locks name 0,0⟩ s) (a+1) m (a+1+szB c body) _ hkb ab (hag.act ⟨5,findI c.p.locks name 0,0⟩ (a+1)) (by rw [goOn_same]) hm hsl
   have rb:=blockR6_rr c ws body (actR ⟨5,findI c.p.locks name 0,0⟩ s)
   have l1:(blockR6 c ws body (actR ⟨5,findI c.p.locks name 0,0⟩ s)).fuel≤s.fuel:=rb.less
   have lf:(actR ⟨5,findI c.p.locks name 0,0⟩ s).fuel=s.fuel:=rfl
   generalize blockR6 c ws body (actR ⟨5,findI c.p.locks name 0,0⟩ s)=s1 at sb l1 ⊢
   cases hq:decide (s1.fuel > 0) with
   | true =>
    have hq:=of_decide_eq_true hq
    rw [cond_true]
    obtain ⟨g2,d1,d2,d3,d4⟩:=sb.1 hq
    rw [lf] at d1
    have e3:gvDo ws { nd00 with kind:=6,thing:=findI c.p.locks name 0,next:=(to:Nat),origin:=((a+1+szB c body:Nat):Int) } g2 = { g2 with acts:=g2.acts++[⟨6,findI c.p.locks name 0,0⟩],at_:=to }:=by
     show ({ g2 with acts:=g2.acts++[⟨6,findI c.p.locks name 0,0⟩],at_:=((to:Nat):Int).toNat }:GS)=_
     rw [Int.toNat_natCast]
    have hst2:=Reach.to (L:=L) d3 hn2 e3
    exact ⟨fun _=>⟨_,(hst.trans d1 (Nat.le_refl _)).trans hst2 (by show _≤2*(s.fuel - s1.fuel).toNat+2; omega),d2.act _ to,rfl,d4⟩,fun h=>absurd h (by show ¬ s1.fuel≤0; omega)⟩
   | false =>
    have hq:=of_decide_eq_false hq
    rw [cond_false]
    obtain ⟨g2,d1,d2⟩:=sb.2 (by omega)
    rw [lf] at d1
    exact ⟨fun h=>absurd h (by omega),fun _=>⟨g2,hst.trans d1 (by omega),d2⟩⟩
  | false =>
   rw [k5] at hg
   exact ⟨fun _=>⟨g,.refl g,hag,hg,rfl⟩,fun h=>absurd h (by show ¬ s.fuel≤0; omega)⟩
theorem block_sim6 : ∀ (l:List Stmt) (s:RS) (a m to:Nat) (g:GS),okSs c l=true→At L a (blockD c l a m to)→Agr nl s g→g.at_=goOn (szB c l) a to→nl≤m→m+slB c l≤g.slots.length→SSim ws L nl s to 0 g (blockR6 c ws l s)
 | [],s,a,m,to,g,hk,hat,hag,hg,hm,hsl=>by
  unfold szB at hg
  unfold blockR6
  exact ⟨fun _=>⟨g,.refl g,hag,hg,rfl⟩,fun _=>⟨g,.refl g,hag.acts⟩⟩
 | x::r,s,a,m,to,g,hk,hat,hag,hg,hm,hsl=>by
  have hx:=fun s a m to g=>stmt_sim6 x s a m to g
  have hr:=fun s a m to g=>block_sim6 r s a m to g
  have rx:=stmtR_rr c ws x (okR s)
  have rr:=blockR6_rr c ws r (stmtR c ws x (okR s))
  have hf:(okR s).fuel=s.fuel - 1:=rfl
  unfold okSs at hk
  rw [Bool.and_eq_true] at hk
  unfold blockD at hat
  unfold szB at hg
  unfold slB at hsl
  unfold blockR6
  cases k0:decide ((okR s).fuel > 0) with
  | false =>
   have k0:=of_decide_eq_false k0
   exact ⟨fun h=>absurd h (by show ¬ 0<(okR s).fuel; omega),fun _=>⟨g,.refl g,hag.acts⟩⟩
  | true =>
   have k0:=of_decide_eq_true k0
   obtain ⟨a1,a2⟩:=hat.app (stmtD_len ..)
   have hs:=hx (okR s) a m (goOn (szB c r) (a+szS c x) to) g k0 hk.1 a1 (ok_ag hag) (by rw [hg,goOn_add]) hm (by omega)
   have l1:=(rx k0).less
   have l2:=rr.less
   have lz:=slS_le c x
   simp only [Bool.not_true,cond_false]
   rcases Int.lt_or_le 0 (stmtR c ws x (okR s)).fuel with q | q
   ·obtain ⟨g1,b1,b2,b3,b4⟩:=hs.1 q
    have hs2:=hr _ (a+szS c x) (m+slS c x) to g1 hk.2 a2 b2 b3 (by omega) (by omega)
    refine ⟨fun h => ?_,fun h => ?_⟩
    ·obtain ⟨g2,d1,d2,d3,d4⟩:=hs2.1 h
     exact ⟨g2,b1.trans d1 (by omega),d2,d3,by omega⟩
    ·obtain ⟨g2,d1,d2⟩:=hs2.2 h
     exact ⟨g2,b1.trans d1 (by omega),d2⟩
   ·obtain ⟨g1,b1,b2⟩:=hs.2 q
    have dr:=rr.dryA q
    exact ⟨fun h=>absurd h (by omega),fun _=>⟨g1,b1.mono (by omega),b2.trans dr.1.symm⟩⟩
end
end
end Go.Proofs.YthboippafkcoiaaGreatDoor.am
namespace Go.Proofs.YthboippafkcoiaaGreatDoor.am
open Go Go.Proofs
theorem ofInt_u64 (b:Int):BitVec.ofInt 64 (IntKind.u64.wrap b)=BitVec.ofInt 64 b:=by
 apply BitVec.eq_of_toNat_eq
 simp only [BitVec.toNat_ofInt,IntKind.wrap,IntKind.signed,IntKind.bits,Bool.false_and]
 congr 1
 show (b % 2 ^ 64) % (2 ^ 64:Nat)=b % (2 ^ 64:Nat)
 omega
theorem and63 (b:Int):(BitVec.ofInt 64 b &&& BitVec.ofInt 64 63).toNat≤63:=by
 rw [BitVec.toNat_and]
 exact Nat.and_le_right
def shR (b:Int):Nat:=min (IntKind.u64.wrap (IntKind.i64.wrap ((BitVec.ofInt IntKind.i64.bits b &&& BitVec.ofInt IntKind.i64.bits 63).toNat:Int))).toNat IntKind.i64.bits
theorem shR_eq (b:Int):shR b=shN b:=by
 have h:=and63 b
 have e:=ofInt_u64 b
 unfold shR shN
 show min (IntKind.u64.wrap (IntKind.i64.wrap ((BitVec.ofInt 64 b &&& BitVec.ofInt 64 63).toNat:Int))).toNat 64=min (IntKind.u64.wrap ((BitVec.ofInt 64 (IntKind.u64.wrap b) &&& BitVec.ofInt 64 63).toNat:Int)).toNat 64
 rw [e,w64 (by omega) (by omega)]
theorem z_truth (b:Bool):K 148 [.tr (tb b)] [] (.ret (.tup [.tr (ti (truW b)),.tr (ti 0)])) []:=by
 refine Ctr.of hT hmix Tryz.func148 rfl (fun _ _=>by kernel_rfl) rfl fun hok => ?_
 clear hok
 cases b
 ·conv=>whnf
  exact aut
 ·conv=>whnf
  exact aut
theorem z_quo (a b:Int):K 147 [.tr (ti a),.tr (ti b)] [] (.ret (.tr (ti (divW a b)))) []:=by
 refine Ctr.of hT hmix Tryz.func147 rfl (fun _ _=>by kernel_rfl) rfl fun hok => ?_
 clear hok
 unfold divW
 conv=>whnf
 refine csplit (fun h1 => ?_) (fun h1 => ?_)
 ·replace h1:(b == 0)=true:=h1
  rw [h1]
  conv=>whnf
  exact aut
 replace h1:(b == 0)=false:=h1
 rw [h1]
 conv=>whnf
 refine csplit (fun h2 => ?_) (fun h2 => ?_)
 ·replace h2:(b == -1)=true:=h2
  rw [h2]
  conv=>whnf
  exact aut
 replace h2:(b == -1)=false:=h2
 rw [h2]
 conv=>whnf
 refine ⟨by simpa using h1,?_⟩
 conv=>whnf
 exact aut
set_option maxRecDepth 100000 in
theorem z_do1 (a b:Int):K 104 [.tr (tu 1),.tr (ti a),.tr (ti b)] [] (.ret (.tup [.tr (ti (opW 1 a b)),.tr (ti 0)])) []:=by
 refine Ctr.of hT hmix Tryz.func104 rfl (fun _ _=>by kernel_rfl) rfl fun hok => ?_
 clear hok
 conv=>whnf
 exact aut
set_option maxRecDepth 100000 in
theorem z_do2 (a b:Int):K 104 [.tr (tu 2),.tr (ti a),.tr (ti b)] [] (.ret (.tup [.tr (ti (opW 2 a b)),.tr (ti 0)])) []:=by
 refine Ctr.of hT hmix Tryz.func104 rfl (fun _ _=>by kernel_rfl) rfl fun hok => ?_
 clear hok
 conv=>whnf
 exact aut
set_option maxRecDepth 100000 in
theorem z_do3 (a b:Int):K 104 [.tr (tu 3),.tr (ti a),.tr (ti b)] [] (.ret (.tup [.tr (ti (opW 3 a b)),.tr (ti 0)])) []:=by
 refine Ctr.of hT hmix Tryz.func104 rfl (fun _ _=>by kernel_rfl) rfl fun hok => ?_
 clear hok
 conv=>whnf
 exact aut
set_option maxRecDepth 100000 in
theorem z_do4 (a b:Int):K 104 [.tr (tu 4),.tr (ti a),.tr (ti b)] [] (.ret (.tup [.tr (ti (opW 4 a b)),.tr (ti 0)])) []:=by
 refine Ctr.of hT hmix Tryz.func104 rfl (fun _ _=>by kernel_rfl) rfl fun hok => ?_
 clear hok
 conv=>whnf
 refine acall.pure _ (z_quo a b) rfl rfl fun _ => ?_
 conv=>whnf
 exact aut
set_option maxRecDepth 100000 in
theorem z_do5 (a b:Int):K 104 [.tr (tu 5),.tr (ti a),.tr (ti b)] [] (.ret (.tup [.tr (ti (opW 5 a b)),.tr (ti 0)])) []:=by
 refine Ctr.of hT hmix Tryz.func104 rfl (fun _ _=>by kernel_rfl) rfl fun hok => ?_
 clear hok
 conv=>whnf
 refine csplit (fun h1 => ?_) (fun h1 => ?_)
 ·replace h1:(b == 0)=true:=h1
  conv=>whnf
  exact ⟨⟨.inl (congrArg ti (by show a=bif b == 0 then a else _; rw [h1]; rfl)),.inl rfl,trivial⟩,trivial⟩
 ·replace h1:(b == 0)=false:=h1
  conv=>whnf
  refine acall.pure _ (z_quo a b) rfl rfl fun _ => ?_
  conv=>whnf
  exact ⟨⟨.inl (congrArg ti (by show _=bif b == 0 then a else _; rw [h1]; rfl)),.inl rfl,trivial⟩,trivial⟩
set_option maxRecDepth 100000 in
theorem z_do6 (a b:Int):K 104 [.tr (tu 6),.tr (ti a),.tr (ti b)] [] (.ret (.tup [.tr (ti (opW 6 a b)),.tr (ti 0)])) []:=by
 refine Ctr.of hT hmix Tryz.func104 rfl (fun _ _=>by kernel_rfl) rfl fun hok => ?_
 clear hok
 conv=>whnf
 exact aut
set_option maxRecDepth 100000 in
theorem z_do7 (a b:Int):K 104 [.tr (tu 7),.tr (ti a),.tr (ti b)] [] (.ret (.tup [.tr (ti (opW 7 a b)),.tr (ti 0)])) []:=by
 refine Ctr.of hT hmix Tryz.func104 rfl (fun _ _=>by kernel_rfl) rfl fun hok => ?_
 clear hok
 conv=>whnf
 exact aut
set_option maxRecDepth 100000 in
theorem z_do8 (a b:Int):K 104 [.tr (tu 8),.tr (ti a),.tr (ti b)] [] (.ret (.tup [.tr (ti (opW 8 a b)),.tr (ti 0)])) []:=by
 refine Ctr.of hT hmix Tryz.func104 rfl (fun _ _=>by kernel_rfl) rfl fun hok => ?_
 clear hok
 conv=>whnf
 exact aut
set_option maxRecDepth 100000 in
theorem z_do9 (a b:Int):K 104 [.tr (tu 9),.tr (ti a),.tr (ti b)] [] (.ret (.tup [.tr (ti (opW 9 a b)),.tr (ti 0)])) []:=by
 refine Ctr.of hT hmix Tryz.func104 rfl (fun _ _=>by kernel_rfl) rfl fun hok => ?_
 clear hok
 conv=>whnf
 refine ⟨u64_nn _,?_⟩
 conv=>whnf
 exact ⟨⟨.inl (congrArg ti (by show i64 (a*2 ^ shR b)=i64 (a*2 ^ shN b); rw [shR_eq])),.inl rfl,trivial⟩,trivial⟩
set_option maxRecDepth 100000 in
theorem z_do10 (a b:Int):K 104 [.tr (tu 10),.tr (ti a),.tr (ti b)] [] (.ret (.tup [.tr (ti (opW 10 a b)),.tr (ti 0)])) []:=by
 refine Ctr.of hT hmix Tryz.func104 rfl (fun _ _=>by kernel_rfl) rfl fun hok => ?_
 clear hok
 conv=>whnf
 refine ⟨u64_nn _,?_⟩
 conv=>whnf
 exact ⟨⟨.inl (congrArg ti (by show a.fdiv (2 ^ shR b)=a.fdiv (2 ^ shN b); rw [shR_eq])),.inl rfl,trivial⟩,trivial⟩
set_option maxRecDepth 100000 in
theorem z_do11 (a b:Int):K 104 [.tr (tu 11),.tr (ti a),.tr (ti b)] [] (.ret (.tup [.tr (ti (opW 11 a b)),.tr (ti 0)])) []:=by
 refine Ctr.of hT hmix Tryz.func104 rfl (fun _ _=>by kernel_rfl) rfl fun hok => ?_
 clear hok
 conv=>whnf
 refine acall.pure _ (z_truth (a == b)) rfl rfl fun _ => ?_
 conv=>whnf
 exact aut
set_option maxRecDepth 100000 in
theorem z_do12 (a b:Int):K 104 [.tr (tu 12),.tr (ti a),.tr (ti b)] [] (.ret (.tup [.tr (ti (opW 12 a b)),.tr (ti 0)])) []:=by
 refine Ctr.of hT hmix Tryz.func104 rfl (fun _ _=>by kernel_rfl) rfl fun hok => ?_
 clear hok
 conv=>whnf
 refine acall.pure _ (z_truth (a != b)) rfl rfl fun _ => ?_
 conv=>whnf
 exact aut
set_option maxRecDepth 100000 in
theorem z_do13 (a b:Int):K 104 [.tr (tu 13),.tr (ti a),.tr (ti b)] [] (.ret (.tup [.tr (ti (opW 13 a b)),.tr (ti 0)])) []:=by
 refine Ctr.of hT hmix Tryz.func104 rfl (fun _ _=>by kernel_rfl) rfl fun hok => ?_
 clear hok
 conv=>whnf
 refine acall.pure _ (z_truth (decide (a<b))) rfl rfl fun _ => ?_
 conv=>whnf
 exact aut
set_option maxRecDepth 100000 in
theorem z_do14 (a b:Int):K 104 [.tr (tu 14),.tr (ti a),.tr (ti b)] [] (.ret (.tup [.tr (ti (opW 14 a b)),.tr (ti 0)])) []:=by
 refine Ctr.of hT hmix Tryz.func104 rfl (fun _ _=>by kernel_rfl) rfl fun hok => ?_
 clear hok
 conv=>whnf
 refine acall.pure _ (z_truth (decide (a≤b))) rfl rfl fun _ => ?_
 conv=>whnf
 exact aut
set_option maxRecDepth 100000 in
theorem z_do15 (a b:Int):K 104 [.tr (tu 15),.tr (ti a),.tr (ti b)] [] (.ret (.tup [.tr (ti (opW 15 a b)),.tr (ti 0)])) []:=by
 refine Ctr.of hT hmix Tryz.func104 rfl (fun _ _=>by kernel_rfl) rfl fun hok => ?_
 clear hok
 conv=>whnf
 refine acall.pure _ (z_truth (decide (a > b))) rfl rfl fun _ => ?_
 conv=>whnf
 exact aut
set_option maxRecDepth 100000 in
theorem z_do16 (a b:Int):K 104 [.tr (tu 16),.tr (ti a),.tr (ti b)] [] (.ret (.tup [.tr (ti (opW 16 a b)),.tr (ti 0)])) []:=by
 refine Ctr.of hT hmix Tryz.func104 rfl (fun _ _=>by kernel_rfl) rfl fun hok => ?_
 clear hok
 conv=>whnf
 refine acall.pure _ (z_truth (decide (a ≥ b))) rfl rfl fun _ => ?_
 conv=>whnf
 exact aut
theorem two_lit {op:Int} (h:two op=true):op=1∨op=2∨op=3∨op=4∨op=5∨op=6∨op=7∨op=8∨op=9∨op=10∨op=11∨op=12∨op=13∨op=14∨op=15∨op=16:=by
 have hr:1≤op∧op≤16:=by unfold two at h; simpa using h
 omega
theorem z_do (op a b:Int) (h:two op=true):K 104 [.tr (tu op),.tr (ti a),.tr (ti b)] [] (.ret (.tup [.tr (ti (opW op a b)),.tr (ti 0)])) []:=by
 rcases two_lit h with rfl | rfl | rfl | rfl | rfl | rfl | rfl | rfl | rfl | rfl | rfl | rfl | rfl | rfl | rfl | rfl
 ·exact z_do1 a b
 ·exact z_do2 a b
 ·exact z_do3 a b
 ·exact z_do4 a b
 ·exact z_do5 a b
 ·exact z_do6 a b
 ·exact z_do7 a b
 ·exact z_do8 a b
 ·exact z_do9 a b
 ·exact z_do10 a b
 ·exact z_do11 a b
 ·exact z_do12 a b
 ·exact z_do13 a b
 ·exact z_do14 a b
 ·exact z_do15 a b
 ·exact z_do16 a b
set_option maxRecDepth 100000 in
theorem z_one17 (a:Int):K 105 [.tr (tu 17),.tr (ti a)] [] (.ret (.tup [.tr (ti (oneW 17 a)),.tr (ti 0)])) []:=by
 refine Ctr.of hT hmix Tryz.func105 rfl (fun _ _=>by kernel_rfl) rfl fun hok => ?_
 clear hok
 conv=>whnf
 exact aut
set_option maxRecDepth 100000 in
theorem z_one18 (a:Int):K 105 [.tr (tu 18),.tr (ti a)] [] (.ret (.tup [.tr (ti (oneW 18 a)),.tr (ti 0)])) []:=by
 refine Ctr.of hT hmix Tryz.func105 rfl (fun _ _=>by kernel_rfl) rfl fun hok => ?_
 clear hok
 conv=>whnf
 refine acall.pure _ (z_truth (a == 0)) rfl rfl fun _ => ?_
 conv=>whnf
 exact aut
set_option maxRecDepth 100000 in
theorem z_do17 (a b:Int):K 104 [.tr (tu 17),.tr (ti a),.tr (ti b)] [] (.ret (.tup [.tr (ti 0),.tr (ti 2)])) []:=by
 refine Ctr.of hT hmix Tryz.func104 rfl (fun _ _=>by kernel_rfl) rfl fun hok => ?_
 clear hok
 conv=>whnf
 exact aut
set_option maxRecDepth 100000 in
theorem z_do18 (a b:Int):K 104 [.tr (tu 18),.tr (ti a),.tr (ti b)] [] (.ret (.tup [.tr (ti 0),.tr (ti 2)])) []:=by
 refine Ctr.of hT hmix Tryz.func104 rfl (fun _ _=>by kernel_rfl) rfl fun hok => ?_
 clear hok
 conv=>whnf
 exact aut
def opOkB (op:Int):Bool:=op == 0 || two op || op == 17 || op == 18
set_option maxRecDepth 100000 in
theorem k_reckon (op a b:Int) (h:opOkB op=true):K 55 [.tr (tu op),.tr (ti a),.tr (ti b)] [] (.ret (.tr (ti (recW op a b)))) []:=by
 have hd:=z_do op a b
 have e:recW op a b=bif op == 0 then a else bif two op then opW op a b else oneW op a:=rfl
 cases h0:(op == 0) with
 | true =>
  rw [h0,cond_true] at e
  rw [e]
  clear hd
  refine Ctr.of hT hmix Tryz.func55 rfl (fun _ _=>by kernel_rfl) rfl fun hok => ?_
  clear hok
  conv=>whnf
  rw [h0]
  conv=>whnf
  exact aut
 | false =>
 rw [h0,cond_false] at e
 cases ht:two op with
 | true =>
  rw [ht,cond_true] at e
  rw [e]
  have hd:=hd ht
  refine Ctr.of hT hmix Tryz.func55 rfl (fun _ _=>by kernel_rfl) rfl fun hok => ?_
  clear hok
  conv=>whnf
  rw [h0]
  conv=>whnf
  refine acall.pure _ (hd) rfl rfl fun _ => ?_
  conv=>whnf
  exact aut
 | false =>
 rw [ht,cond_false] at e
 rw [e]
 clear hd e
 unfold opOkB at h
 rw [h0,ht,Bool.false_or,Bool.false_or,Bool.or_eq_true,beq_iff_eq,beq_iff_eq] at h
 clear h0 ht
 rcases h with rfl | rfl
 ·have h1:=z_do17 a b
  have h2:=z_one17 a
  refine Ctr.of hT hmix Tryz.func55 rfl (fun _ _=>by kernel_rfl) rfl fun hok => ?_
  clear hok
  conv=>whnf
  refine acall.pure _ (h1) rfl rfl fun _ => ?_
  conv=>whnf
  refine acall.pure _ (h2) rfl rfl fun _ => ?_
  conv=>whnf
  exact aut
 ·have h1:=z_do18 a b
  have h2:=z_one18 a
  refine Ctr.of hT hmix Tryz.func55 rfl (fun _ _=>by kernel_rfl) rfl fun hok => ?_
  clear hok
  conv=>whnf
  refine acall.pure _ (h1) rfl rfl fun _ => ?_
  conv=>whnf
  refine acall.pure _ (h2) rfl rfl fun _ => ?_
  conv=>whnf
  exact aut
end Go.Proofs.YthboippafkcoiaaGreatDoor.am
namespace Go.Proofs.YthboippafkcoiaaGreatDoor.am
open Go Go.Proofs
set_option linter.all false
def Act.cells (a:Act):List Tr:=[tu a.kind,ti a.thing,ti a.word]
abbrev runB (c:LowC) (ws:List Int) (s:RS) (ha:Nat):Blk := .cells 44 [.tr (declsT c.p.shared),.tr (declsT c.p.locks),.tr (threadsT c.p.threads),.tr (ti (c.t:Nat)),.sl 1 s.locals.length,.tr (intsT ws),.tr (ti (s.reads:Nat)),.tr (ti s.fuel),.sl ha s.acts.length]
abbrev locB (s:RS):Blk := .vec 2 1 8 (s.locals.map irow)
abbrev actB (s:RS):Blk := .vec 53 3 24 (s.acts.map Act.cells)
abbrev stRI (c:LowC) (ws:List Int) (s:RS):List Blk:=[runB c ws s 2,locB s,actB s]
abbrev stRS (c:LowC) (ws:List Int) (s:RS):List (Option Blk):=[some (runB c ws s 2),some (locB s),some (actB s)]
abbrev stRO (c:LowC) (ws:List Int) (s:RS):List (Option Blk):=[some (runB c ws s 3),some (locB s),none,some (actB s)]
theorem act_get {l:List Act} {i:Nat} {row:List Tr} (h:(l.map Act.cells)[i]? = some row) : ∃ d,l[i]? = some d∧row=d.cells:=by
 rw [List.getElem?_map,Option.map_eq_some_iff] at h
 obtain ⟨d,h1,rfl⟩:=h
 exact ⟨d,h1,rfl⟩
theorem irow_at {l:List Int} {i:Nat} {row:List Tr} (h:(l.map irow)[i]? = some row) : ∃ d,l[i]? = some d∧row=[ti d]:=by
 rw [List.getElem?_map,Option.map_eq_some_iff] at h
 obtain ⟨d,h1,rfl⟩:=h
 exact ⟨d,h1,rfl⟩
theorem act_snoc (s:RS) (a:Act):(s.acts.map Act.cells).take s.acts.length++[a.cells]=(actR a s).acts.map Act.cells:=by
 rw [List.take_of_length_le (by rw [List.length_map]; exact Nat.le_refl _)]
 show _=(s.acts++[a]).map Act.cells
 rw [List.map_append]; rfl
theorem act_len (s:RS) (a:Act):s.acts.length+1=(actR a s).acts.length:=by show _=(s.acts++[a]).length; rw [List.length_append]; rfl
structure RI (nl:Nat) (s:RS):Prop where
 lo : -3000≤s.fuel
 hi:s.fuel≤3000
 acts:s.acts.length+2*s.fuel.toNat≤20000
 reads:s.reads≤s.acts.length
 len:s.locals.length=nl
set_option maxRecDepth 100000 in
theorem k_okR (c:LowC) (ws:List Int) (s:RS) (h1 : -3000≤s.fuel) (h2:s.fuel≤3000):K 52 [.ptr 0 0] (stRI c ws s) (.ret (.tr (tb (decide ((okR s).fuel > 0))))) (stRS c ws (okR s)):=by
 have hw:IntKind.i64.wrap (s.fuel - 1)=s.fuel - 1:=w64 (by omega) (by omega)
 have hf:(okR s).fuel=s.fuel - 1:=rfl
 rw [hf]
 obtain ⟨locals,reads,fuel,acts⟩:=s
 simp only at hw
 refine Ctr.of hT hmix Tryz.func52 rfl (fun _ _=>by kernel_rfl) rfl fun hok => ?_
 clear hok
 conv=>whnf
 rw [hw]
 exact aut
set_option maxRecDepth 100000 in
theorem k_readR (c:LowC) (ws:List Int) (s:RS) (h1:s.reads≤100000):K 101 [.ptr 0 0] (stRI c ws s) (.ret (.tr (ti (readR ws s)))) (stRS c ws (nextR s)):=by
 have hR:readR ws s=ws.getD s.reads 0:=rfl
 have hw:IntKind.i64.wrap (((s.reads:Nat):Int)+1)=((s.reads+1:Nat):Int):=by rw [w64 (by omega) (by omega)]; omega
 have hw2:IntKind.i64.wrap (((s.reads+1:Nat):Int) - 1)=((s.reads:Nat):Int):=by rw [w64 (by omega) (by omega)]; omega
 have hl:(ws.map irow).length=ws.length:=List.length_map ..
 generalize readR ws s=R at hR ⊢
 obtain ⟨locals,reads,fuel,acts⟩:=s
 simp only at hw hw2 hR h1
 refine Ctr.cut [2] hT hmix Tryz.func101 rfl (fun _ _=>by kernel_rfl) rfl fun hok => ?_
 clear hok
 conv=>whnf
 refine CutL.by (fun _:Unit=>⟨[(0,.ptr 0 0)],[(0,runB c ws ⟨locals,reads+1,fuel,acts⟩ 2),(1,locB ⟨locals,reads+1,fuel,acts⟩),(2,actB ⟨locals,reads+1,fuel,acts⟩)],5⟩) (fun _=>True) ?_ ?_
 ·conv=>whnf
  rw [hw]
  exact ⟨(),[0,1,2],[],Sub.mk' rfl aut aut rfl rfl,trivial⟩
 rintro - - -
 conv=>whnf
 refine ⟨by kernel_rfl,fun _ => ?_⟩
 conv=>whnf
 cases hq:decide (((reads+1:Nat):Int)≤((ws.map irow).length:Int)) with
 | true =>
  have hq:=of_decide_eq_true hq
  rw [hl] at hq
  obtain ⟨w,hwd⟩ : ∃ w,ws[reads]? = some w:=⟨_,List.getElem?_eq_getElem (by omega)⟩
  have hRw:R=w:=by rw [hR,List.getD_eq_getElem?_getD,hwd]; rfl
  subst hRw
  conv=>whnf
  rw [hw2]
  refine ⟨rfl,(show (0:Int)≤(reads:Nat) by omega),(show ((reads:Nat):Int)<((ws.map irow).length:Int) by omega),fun row hrow => ?_⟩
  obtain ⟨d,hd,rfl⟩:=irow_at hrow
  obtain rfl:=Option.some.inj (hwd.symm.trans hd)
  clear hrow hd
  conv=>whnf
  refine ⟨by kernel_rfl,fun _ => ?_⟩
  conv=>whnf
  exact aut
 | false =>
  have hq:=of_decide_eq_false hq
  rw [hl] at hq
  have hRw:R=0:=by rw [hR,List.getD_eq_getElem?_getD,List.getElem?_eq_none (by omega)]; rfl
  subst hRw
  conv=>whnf
  exact aut
end Go.Proofs.YthboippafkcoiaaGreatDoor.am
namespace Go.Proofs.YthboippafkcoiaaGreatDoor.am
open Go Go.Proofs
set_option linter.all false
set_option maxRecDepth 100000 in
set_option maxHeartbeats 1000000 in
theorem k_storeR (c:LowC) (ws:List Int) (name:ByteArray) (w:Int) (s:RS) (hl:localI c.p c.t name<(s.locals.length:Nat)) (ha:s.acts.length≤20000):K 100 [.ptr 0 0,.tr (ts name),.tr (ti w)] (stRI c ws s) (.ret (.tup [])) (stRO c ws (storeR c name w s)):=by
 have hloc:=k21 c.p (c.t:Nat) name
 have hsh:=k17 c.p name
 have hE:storeR c name w s=bif decide (localI c.p c.t name ≥ 0) then { s with locals:=s.locals.set (localI c.p c.t name).toNat w } else bif decide (s.fuel > 0) then actR ⟨3,findI c.p.shared name 0,w⟩ s else s:=rfl
 generalize storeR c name w s=R at hE ⊢
 generalize localI c.p (c.t:Nat) name=LI at hloc hE hl
 generalize findI c.p.shared name 0=FI at hsh hE
 have hsn:=act_snoc s ⟨3,FI,w⟩
 have hsl:=act_len s ⟨3,FI,w⟩
 refine Ctr.mv [1,3] [0,1,3] 4 hT hmix Tryz.func100 rfl (fun _ _=>by kernel_rfl) rfl (fun hok => ?_)
 clear hok
 conv=>whnf
 refine CutL.by (fun _:Unit=>⟨[(0,.ptr 0 0),(1,.tr (ts name)),(2,.tr (ti w)),(6,.tr (ti LI))],[(0,runB c ws (s) 3),(1,locB (s)),(3,actB (s))],20⟩) (fun _=>True) ?_ ?_
 ·conv=>whnf
  refine acall.pure _ (hloc) rfl rfl ?_
  conv=>whnf
  refine ⟨by kernel_rfl,fun _ => ?_⟩
  conv=>whnf
  exact ⟨(),[0,1,2,3],[],Sub.mk' rfl aut aut rfl rfl,trivial⟩
 rintro - - -
 conv=>whnf
 refine CutL.by (fun _:Unit=>⟨[(0,.ptr 0 0),(1,.tr (ts name)),(2,.tr (ti w))],[(0,runB c ws (s) 3),(1,locB (s)),(3,actB (s))],20⟩) (fun _=>decide (LI ≥ 0)=false) ?_ ?_
 ·conv=>whnf
  cases h3:decide (LI ≥ 0) with
  | true =>
   rw [h3,cond_true] at hE
   subst hE
   have h3:=of_decide_eq_true h3
   conv=>whnf
   refine ⟨rfl,(show (0:Int)≤LI by omega),hl,?_⟩
   conv=>whnf
   refine ⟨rfl,rfl,(by rw [List.length_map]; omega),fun row hrow => ?_⟩
   obtain ⟨d,hd,rfl⟩:=irow_at hrow
   clear hrow hd
   refine ⟨(show 0+1≤1 by decide),?_⟩
   conv=>whnf
   have hll:s.locals.length=(s.locals.set LI.toNat w).length:=by rw [List.length_set]
   exact ⟨[0,1,2,3],rfl,rfl,trivial,⟨rfl,.inl rfl,.inl rfl,.inl rfl,.inl rfl,⟨rfl,hll⟩,.inl rfl,.inl rfl,.inl rfl,⟨rfl,rfl⟩,trivial⟩,⟨rfl,rfl,rfl,by rw [List.map_set]; rfl⟩,aut,trivial⟩
  | false =>
   conv=>whnf
   exact ⟨(),[0,1,2,3],[],Sub.mk' rfl aut aut rfl rfl,rfl⟩
 rintro - h3 -
 rw [h3,cond_false] at hE
 clear hloc h3
 conv=>whnf
 cases h4:decide (s.fuel > 0) with
 | false =>
  rw [h4,cond_false] at hE
  subst hE
  conv=>whnf
  exact ⟨[0,1,2,3],rfl,rfl,trivial,aut,aut,aut,trivial⟩
 | true =>
  rw [h4,cond_true] at hE
  subst hE
  conv=>whnf
  refine acall.pure _ (hsh) rfl rfl ?_
  conv=>whnf
  refine ⟨rfl,rfl,rfl,(by rw [List.length_map]; exact Nat.le_refl _),(show ((s).acts.length+1)*24≤150000000000000 by omega),fun q hq => ?_,?_⟩
  ·cases hq with
   | head=>exact Nat.ne_of_beq_eq_false rfl
   | tail _ h =>
    first
    | (cases h; done)
    | (cases h with
     | head=>exact Nat.ne_of_beq_eq_false rfl
     | tail _ h=>cases h)
  conv=>whnf
  refine ⟨by kernel_rfl,fun _ => ?_⟩
  conv=>whnf
  exact ⟨[0,1,2,_],rfl,rfl,trivial,⟨rfl,.inl rfl,.inl rfl,.inl rfl,.inl rfl,⟨rfl,rfl⟩,.inl rfl,.inl rfl,.inl rfl,⟨rfl,hsl⟩,trivial⟩,⟨rfl,rfl,rfl,rfl⟩,⟨rfl,rfl,rfl,hsn⟩,trivial⟩
theorem RI.ok {nl:Nat} {s:RS} (h:RI nl s) (hp:0<(okR s).fuel):RI nl (okR s):=by
 have hf:(okR s).fuel=s.fuel - 1:=rfl
 have h1:=h.hi; have h2:=h.acts
 exact ⟨by omega,by omega,by show s.acts.length+2*(s.fuel - 1).toNat≤20000; omega,h.reads,h.len⟩
theorem RI.rr1 {nl:Nat} {s s':RS} (h:RI nl s) (hp:0<s.fuel) (r:RR 0 1 s s'):RI nl s':=by
 have h1:=h.hi; have h2:=h.acts; have h3:=h.reads; have h4:=h.len
 have r1:=r.low hp; have r2:=r.less; have r3:=r.acts1; have r4:=r.reads; have r5:=r.locals
 exact ⟨by omega,by omega,by omega,by omega,by omega⟩
theorem RI.rr2 {nl k:Nat} {s s':RS} (h:RI nl s) (hp:0<s.fuel) (r:RR k 2 s s') (hk:s.acts.length+2*s.fuel.toNat+k≤20000):RI nl s':=by
 have h1:=h.hi; have h2:=h.acts; have h3:=h.reads; have h4:=h.len
 have r1:=r.low hp; have r2:=r.less; have r3:=r.acts2; have r4:=r.reads; have r5:=r.locals
 exact ⟨by omega,by omega,by omega,by omega,by omega⟩
theorem op_of {c:LowC} {kind op word:Int} {name:ByteArray} {kids:List Expr} {at_:Int} (hk:okE c (.mk kind op word name kids at_)=true) (h1:(kind == 1)=false) (h2:(kind == 2)=false):opOkB op=true∧okEs c kids=true∧1≤kids.length∧((kind == 4)=true→2≤kids.length):=by
 unfold okE at hk
 simp only [Bool.and_eq_true] at hk
 obtain ⟨⟨hp,_⟩,hks⟩:=hk
 unfold partsB at hp
 dsimp only at hp
 rw [h1,cond_false,h2,cond_false,erows_len] at hp
 unfold opOkB
 cases h3:(kind == 3) with
 | true =>
  rw [h3,cond_true] at hp
  simp only [Bool.and_eq_true,Bool.or_eq_true,beq_iff_eq] at hp
  have e3:=eq_of_beq h3
  refine ⟨by rcases hp.2 with rfl | rfl <;> rfl,hks,by omega,fun h=>by have:=eq_of_beq h; omega⟩
 | false =>
 rw [h3,cond_false] at hp
 cases h4:(kind == 4) with
 | false=>rw [h4] at hp; cases hp
 | true =>
  rw [h4,cond_true] at hp
  simp only [Bool.and_eq_true,beq_iff_eq] at hp
  exact ⟨by rw [hp.2]; cases op == 0 <;> rfl,hks,by omega,fun _=>by omega⟩
theorem kid0R_at {c:LowC} {ws:List Int} {l:List Expr} {x:Expr} (h:l[0]? = some x) (s:RS):kid0R c ws l s=exprR c ws x s:=by
 cases l with
 | nil=>cases h
 | cons y r=>cases h; unfold kid0R; rfl
theorem kid1R_at {c:LowC} {ws:List Int} {l:List Expr} {x:Expr} (h:l[1]? = some x) (s:RS):kid1R c ws l s=exprR c ws x s:=by
 cases l with
 | nil=>cases h
 | cons y r=>unfold kid1R; exact kid0R_at (by simpa using h) s
set_option maxRecDepth 100000 in
set_option maxHeartbeats 2000000 in
theorem k_exprW (c:LowC) (ws:List Int) (nl:Nat) (hloc : ∀ name,localI c.p c.t name<(nl:Nat)) : ∀ (n:Nat) (e:Expr) (s:RS),SizeOf.sizeOf e<n→okE c e=true→RI nl s→K 99 [.ptr 0 0,e.av] (stRI c ws s) (.ret (.tr (ti (exprR c ws e s).2))) (stRO c ws (exprR c ws e s).1):=by
 intro n
 induction n with
 | zero=>intro e s h; omega
 | succ n ih =>
 intro e s hsz hk hri
 obtain ⟨kind,op,word,name,kids,at_⟩:=e
 have hokc:=k_okR c ws s hri.lo hri.hi
 have hlo:=k21 c.p (c.t:Nat) name
 have hsh:=k17 c.p name
 have hln:=hloc name
 have hop:=fun h1 h2=>op_of hk (h1:(kind == 1)=false) (h2:(kind == 2)=false)
 have hriok:=hri.ok
 have hE:exprR c ws (.mk kind op word name kids at_) s=bif !decide ((okR s).fuel > 0) then (okR s,0)
  else bif kind == 1 then (okR s,word)
  else bif kind == 2 then (bif decide (localI c.p c.t name ≥ 0) then (okR s,s.locals.getD (localI c.p c.t name).toNat 0)
   else (actR ⟨2,findI c.p.shared name 0,readR ws s⟩ (nextR (okR s)),readR ws s))
  else bif kind == 4 then ((kid1R c ws kids (kid0R c ws kids (okR s)).1).1,recW op (kid0R c ws kids (okR s)).2 (kid1R c ws kids (kid0R c ws kids (okR s)).1).2)
  else ((kid0R c ws kids (okR s)).1,recW op (kid0R c ws kids (okR s)).2 0):=by rw [exprR]
 generalize exprR c ws (.mk kind op word name kids at_) s=R at hE ⊢
 generalize localI c.p (c.t:Nat) name=LI at hlo hE hln
 generalize findI c.p.shared name 0=FI at hsh hE
 have hrd:readR ws s=readR ws (okR s):=rfl
 have hlc:s.locals=(okR s).locals:=rfl
 rw [hrd,hlc] at hE
 have hrr:=kid0R_rr c ws kids (okR s)
 generalize okR s=s1 at hokc hE hriok hrr
 clear hrd hlc hk
 refine Ctr.mv [3,8,10,11,12,13,14,17] [0,1,3] 4 hT hmix Tryz.func99 rfl (fun _ _=>by kernel_rfl) rfl (fun hok => ?_)
 clear hok
 conv=>whnf
 refine CutL.by (fun _:Unit=>⟨[(0,.ptr 0 0),(3,.ptr 4 0)],[(0,runB c ws (s1) 3),(1,locB (s1)),(3,actB (s1)),(4,.cells 143 ((Expr.mk kind op word name kids at_).cells.map .tr))],20⟩) (fun _=>decide (s1.fuel > 0)=true) ?_ ?_
 ·conv=>whnf
  refine acall.au [0,1,3] [] (hokc) ?_
  intro _
  conv=>whnf
  cases k0:decide (s1.fuel > 0) with
  | false =>
   rw [k0] at hE
   replace hE:R=(s1,0):=hE
   subst hE
   conv=>whnf
   exact ⟨[0,1,2,3],rfl,rfl,.inl rfl,aut,aut,aut,trivial⟩
  | true =>
   conv=>whnf
   exact ⟨(),[0,1,2,3,4],[],Sub.mk' rfl aut aut rfl rfl,rfl⟩
 rintro - k0 -
 rw [k0] at hE
 simp only [Bool.not_true,cond_false] at hE
 have hp1:0<s1.fuel:=of_decide_eq_true k0
 replace hri:=hriok hp1
 clear hriok hokc k0
 have hb1:=hri.acts
 have hb2:=hri.reads
 have hb3:=hri.len
 conv=>whnf
 refine CutL.by (fun _:Unit=>⟨[(0,.ptr 0 0),(3,.ptr 4 0)],[(0,runB c ws (s1) 3),(1,locB (s1)),(3,actB (s1)),(4,.cells 143 ((Expr.mk kind op word name kids at_).cells.map .tr))],20⟩) (fun _=>(kind == 1)=false∧(kind == 2)=false) ?_ ?_
 ·conv=>whnf
  cases k1:(kind == 1) with
  | true =>
   rw [k1,cond_true] at hE
   subst hE
   conv=>whnf
   exact ⟨[0,1,2,3],rfl,rfl,.inl rfl,aut,aut,aut,trivial⟩
  | false =>
  rw [k1,cond_false] at hE
  conv=>whnf
  cases k2:(kind == 2) with
  | true =>
   rw [k2,cond_true] at hE
   conv=>whnf
   refine CutL.by (fun _:Unit=>⟨[(0,.ptr 0 0),(3,.ptr 4 0),(5,.tr (ti LI))],[(0,runB c ws (s1) 3),(1,locB (s1)),(3,actB (s1)),(4,.cells 143 ((Expr.mk kind op word name kids at_).cells.map .tr))],20⟩) (fun _=>True) ?_ ?_
   ·conv=>whnf
    refine acall.pure _ (hlo) rfl rfl ?_
    conv=>whnf
    refine ⟨by kernel_rfl,fun _ => ?_⟩
    conv=>whnf
    exact ⟨(),[0,1,2,3,4],[],Sub.mk' rfl aut aut rfl rfl,trivial⟩
   rintro - - -
   conv=>whnf
   refine CutL.by (fun _:Unit=>⟨[(0,.ptr 0 0),(3,.ptr 4 0)],[(0,runB c ws (s1) 3),(1,locB (s1)),(3,actB (s1)),(4,.cells 143 ((Expr.mk kind op word name kids at_).cells.map .tr))],20⟩) (fun _=>decide (LI ≥ 0)=false) ?_ ?_
   ·conv=>whnf
    cases hd:decide (LI ≥ 0) with
    | true =>
     rw [hd,cond_true] at hE
     subst hE
     have hd:=of_decide_eq_true hd
     conv=>whnf
     refine ⟨rfl,(show (0:Int)≤LI by omega),(show LI<(s1.locals.length:Int) by omega),?_⟩
     conv=>whnf
     refine ⟨rfl,(by rw [List.length_map]; omega),fun row hrow => ?_⟩
     obtain ⟨d,hd3,rfl⟩:=irow_at hrow
     have hgd:s1.locals.getD LI.toNat 0=d:=by rw [List.getD_eq_getElem?_getD,hd3]; rfl
     clear hrow hd3
     refine ⟨(show 0<1 by decide),fun t ht => ?_⟩
     obtain rfl:ti d=t:=Option.some.inj ht
     clear ht
     conv=>whnf
     exact ⟨[0,1,2,3],rfl,rfl,.inl (by rw [hgd]),aut,aut,aut,trivial⟩
    | false =>
     conv=>whnf
     exact ⟨(),[0,1,2,3,4],[],Sub.mk' rfl aut aut rfl rfl,rfl⟩
   rintro - hd -
   rw [hd,cond_false] at hE
   have hre:=k_readR c ws s1 (by omega)
   generalize readR ws s1=W at hre hE
   conv=>whnf
   refine CutL.by (fun _:Unit=>⟨[(0,.ptr 0 0),(3,.ptr 4 0),(6,.tr (ti W))],[(0,runB c ws (nextR s1) 3),(1,locB (nextR s1)),(3,actB (nextR s1)),(4,.cells 143 ((Expr.mk kind op word name kids at_).cells.map .tr))],20⟩) (fun _=>True) ?_ ?_
   ·conv=>whnf
    refine acall.au [0,1,3] [] (hre) ?_
    intro _
    conv=>whnf
    exact ⟨(),[0,1,2,3,4],[],Sub.mk' rfl aut aut rfl rfl,trivial⟩
   rintro - - -
   have hb4:(nextR s1).acts.length≤20000:=by show s1.acts.length≤20000; omega
   have hsn:=act_snoc (nextR s1) ⟨2,FI,W⟩
   have hsl:=act_len (nextR s1) ⟨2,FI,W⟩
   subst hE
   generalize nextR s1=s2 at hsn hsl hb4
   conv=>whnf
   refine CutL.by (fun _:Unit=>⟨[(6,.tr (ti W))],[(0,runB c ws (actR ⟨2,FI,W⟩ s2) 3),(1,locB (actR ⟨2,FI,W⟩ s2)),(3,actB (actR ⟨2,FI,W⟩ s2))],20⟩) (fun _=>True) ?_ ?_
   ·conv=>whnf
    refine acall.pure _ (hsh) rfl rfl ?_
    conv=>whnf
    refine ⟨rfl,rfl,rfl,(by rw [List.length_map]; exact Nat.le_refl _),(show ((s2).acts.length+1)*24≤150000000000000 by omega),fun q hq => ?_,?_⟩
    ·cases hq with
     | head=>exact Nat.ne_of_beq_eq_false rfl
     | tail _ h =>
      first
      | (cases h; done)
      | (cases h with
       | head=>exact Nat.ne_of_beq_eq_false rfl
       | tail _ h=>cases h)
    conv=>whnf
    refine ⟨by kernel_rfl,fun _ => ?_⟩
    conv=>whnf
    exact ⟨(),[0,1,2,_],[],Sub.mk' rfl ⟨.inl rfl,trivial⟩ ⟨⟨rfl,.inl rfl,.inl rfl,.inl rfl,.inl rfl,⟨rfl,rfl⟩,.inl rfl,.inl rfl,.inl rfl,⟨rfl,hsl⟩,trivial⟩,⟨rfl,rfl,rfl,rfl⟩,⟨rfl,rfl,rfl,hsn⟩,trivial⟩ rfl rfl,trivial⟩
   rintro - - -
   conv=>whnf
   exact ⟨[0,1,2,3],rfl,rfl,.inl rfl,aut,aut,aut,trivial⟩
  | false =>
   conv=>whnf
   exact ⟨(),[0,1,2,3,4],[],Sub.mk' rfl aut aut rfl rfl,⟨rfl,rfl⟩⟩
 rintro - ⟨k1,k2⟩ -
 rw [k1,k2,cond_false,cond_false] at hE
 obtain ⟨o1,o2,o3,o4⟩:=hop k1 k2
 clear hop hlo hsh hln
 obtain ⟨x,hx⟩ : ∃ x,kids[0]? = some x:=⟨_,List.getElem?_eq_getElem (by omega)⟩
 have hsx:=size_kid hx
 have hsz2:SizeOf.sizeOf kids<n:=by simp only [Expr.mk.sizeOf_spec] at hsz; omega
 have ih0:=ih x s1 (by omega) (okEs_get o2 hx) hri
 rw [kid0R_at hx] at hE hrr
 have hri2:=hri.rr1 hp1 hrr.1
 generalize exprR c ws x s1=A at ih0 hE hri2
 obtain ⟨s2,a⟩:=A
 simp only at ih0 hE hri2
 obtain ⟨R1,R2⟩:=R
 have hE2:R1=(bif kind == 4 then kid1R c ws kids s2 else (s2,0)).1∧R2=recW op a (bif kind == 4 then kid1R c ws kids s2 else (s2,0)).2:=by
  cases hq:(kind == 4) <;> rw [hq] at hE <;> cases hE <;> exact ⟨rfl,rfl⟩
 clear hE hrr
 obtain ⟨hE1,hE2⟩:=hE2
 simp only
 conv=>whnf
 refine CutL.by (fun _:Unit=>⟨[(0,.ptr 0 0),(3,.ptr 4 0),(7,.tr (ti a))],[(0,runB c ws (s2) 3),(1,locB (s2)),(3,actB (s2)),(4,.cells 143 ((Expr.mk kind op word name kids at_).cells.map .tr))],20⟩) (fun _=>True) ?_ ?_
 ·obtain ⟨x1,x2,x3,x4,x5,x6⟩:=x
  conv=>whnf
  refine ⟨rfl,(by decide),(show (0:Int)<((Expr.rows kids).length:Int) by rw [erows_len]; omega),fun row hrow => ?_⟩
  obtain ⟨d,hd2,rfl⟩:=erows_get hrow
  obtain rfl:=Option.some.inj (hx.symm.trans hd2)
  clear hrow hd2
  conv=>whnf
  refine acall.new [0,1,3] [] _ _ _ _ (ih0) rfl rfl rfl rfl aut aut rfl rfl ?_
  conv=>whnf
  intro _
  conv=>whnf
  exact ⟨(),[0,1,2,_,4],[],Sub.aw,trivial⟩
 rintro - - -
 generalize hQ:(bif kind == 4 then kid1R c ws kids s2 else (s2,0))=Q at hE1 hE2
 obtain ⟨s3,b⟩:=Q
 simp only at hE1 hE2
 subst hE1
 conv=>whnf
 refine CutL.by (fun _:Unit=>⟨[(0,.ptr 0 0),(3,.ptr 4 0),(7,.tr (ti a)),(8,.tr (ti b))],[(0,runB c ws (R1) 3),(1,locB (R1)),(3,actB (R1)),(4,.cells 143 ((Expr.mk kind op word name kids at_).cells.map .tr))],20⟩) (fun _=>True) ?_ ?_
 ·cases k4:(kind == 4) with
  | true =>
   rw [k4,cond_true] at hQ
   have o4:=o4 k4
   obtain ⟨y,hy⟩ : ∃ y,kids[1]? = some y:=⟨_,List.getElem?_eq_getElem (by omega)⟩
   have hsy:=size_kid hy
   rw [kid1R_at hy] at hQ
   have ih1:=ih y s2 (by omega) (okEs_get o2 hy) hri2
   rw [hQ] at ih1
   simp only at ih1
   obtain ⟨x1,x2,x3,x4,x5,x6⟩:=y
   conv=>whnf
   rw [k4]
   conv=>whnf
   refine ⟨rfl,(by decide),(show (1:Int)<((Expr.rows kids).length:Int) by rw [erows_len]; omega),fun row hrow => ?_⟩
   obtain ⟨d,hd2,rfl⟩:=erows_get hrow
   obtain rfl:=Option.some.inj (hy.symm.trans hd2)
   clear hrow hd2
   conv=>whnf
   refine acall.new [0,1,3] [] _ _ _ _ (ih1) rfl rfl rfl rfl aut aut rfl rfl ?_
   conv=>whnf
   intro _
   conv=>whnf
   exact ⟨(),[0,1,2,_,4],[],Sub.aw,trivial⟩
  | false =>
   rw [k4,cond_false] at hQ
   cases hQ
   conv=>whnf
   rw [k4]
   conv=>whnf
   exact ⟨(),[0,1,2,3,4],[],Sub.mk' rfl aut aut rfl rfl,trivial⟩
 rintro - - -
 have hre:=k_reckon op a b o1
 rw [← hE2] at hre
 conv=>whnf
 refine acall.pure _ (hre) rfl rfl fun _ => ?_
 conv=>whnf
 exact ⟨[0,1,2,3],rfl,rfl,.inl rfl,aut,aut,aut,trivial⟩
end Go.Proofs.YthboippafkcoiaaGreatDoor.am
namespace Go.Proofs.YthboippafkcoiaaGreatDoor.am
open Go Go.Proofs
set_option linter.all false
def KBlR (c:LowC) (ws:List Int) (nl:Nat) (l:List Stmt):Prop := ∀ s,RI nl s→K 15 [.ptr 0 0,.tr (stmtsT l)] (stRI c ws s) (.ret (.tup [])) (stRO c ws (blockR6 c ws l s))
theorem whileR_enough {E:RS→RS × Int} {B:RS→RS} (hE : ∀ s,RR 0 1 s (E s).1∧(s.fuel≤0→(E s).2=0)∧(E s).1.fuel<s.fuel) (hB : ∀ s,RR 0 2 s (B s)) : ∀ (n m:Nat) (s:RS),s.fuel.toNat<n→s.fuel.toNat<m→whileR E B n s=whileR E B m s
 | 0,_,s,h,_=>absurd h (Nat.not_lt_zero _)
 | _+1,0,s,_,h=>absurd h (Nat.not_lt_zero _)
 | n+1,m+1,s,h1,h2=>by
  obtain ⟨r,w,f⟩:=hE s
  unfold whileR
  cases hw:(E s).2 != 0 with
  | false=>rfl
  | true =>
   have hp:0<s.fuel:=by
    rcases Int.lt_or_le 0 s.fuel with h | h
    ·exact h
    ·rw [w h] at hw; cases hw
   have:=(hB (okR (E s).1)).less
   have:(okR (E s).1).fuel=(E s).1.fuel - 1:=rfl
   cases hf:decide ((okR (E s).1).fuel > 0) with
   | false=>rfl
   | true =>
    rw [cond_true,cond_true,cond_true,cond_true]
    exact whileR_enough hE hB n m _ (by omega) (by omega)
theorem RI.act {nl:Nat} {s:RS} (h:RI nl s) (hb:s.acts.length+2*s.fuel.toNat+1≤20000) (a:Act):RI nl (actR a s):=by
 have h3:=h.reads
 have e:=act_len s a
 exact ⟨h.lo,h.hi,by rw [← e]; show s.acts.length+1+2*s.fuel.toNat≤20000; omega,by rw [← e]; show s.reads≤s.acts.length+1; omega,h.len⟩
set_option maxRecDepth 100000 in
set_option maxHeartbeats 4000000 in
theorem k_stRun (c:LowC) (ws:List Int) (nl:Nat) (hloc : ∀ name,localI c.p c.t name<(nl:Nat)) (kind:Int) (name other:ByteArray) (e:List Expr) (body els:List Stmt) (at_:Int) (hk:okS c (.mk kind name other e body els at_)=true) (hB:KBlR c ws nl body) (hL:KBlR c ws nl els) (s:RS) (hri:RI nl s) (hp:0<s.fuel) (hm:s.acts.length+2*s.fuel.toNat+2≤20000):K 53 [.ptr 0 0,(Stmt.mk kind name other e body els at_).av] (stRI c ws s) (.ret (.tup [])) (stRO c ws (stmtR c ws (.mk kind name other e body els at_) s)):=by
 unfold okS at hk
 simp only [Bool.and_eq_true] at hk
 obtain ⟨⟨⟨⟨hf,hnm⟩,hke⟩,hkb⟩,hkl⟩:=hk
 obtain ⟨f1,f2,f3,f4,f5,f6⟩:=fields_wf hf
 have hel:(kind == 4)=true→e.length=1:=fun h4=>by
  have hk4:=eq_of_beq h4
  subst hk4
  unfold fieldsB at hf
  simp only [show ((4:Int) == 1)=false from rfl,show ((4:Int) == 2)=false from rfl,show ((4:Int) == 3)=false from rfl,show ((4:Int) == 4)=true from rfl,cond_true,cond_false,Bool.and_eq_true,erows_len,beq_iff_eq] at hf
  omega
 clear hf hnm hkb hkl f2 f3 f4
 have hex:=fun x s hx=>k_exprW c ws nl hloc (SizeOf.sizeOf x+1) x s (Nat.lt_succ_self _) (hx:okE c x=true)
 have hln:=hloc name
 have hst:=fun w s h2=>k_storeR c ws name w s (h2:localI c.p c.t name<(s.locals.length:Nat))
 have hsh:=k17 c.p other
 have hlk:=k19 c.p name
 have hhr:=head_rr c ws kind e s
 have hE:stmtR c ws (.mk kind name other e body els at_) s=bif decide ((headR6 c ws kind e s).1.fuel≤0) then (headR6 c ws kind e s).1
  else bif kind == 1 then storeR c name (headR6 c ws kind e s).2 (headR6 c ws kind e s).1
  else bif kind == 2 then storeR c name (readR ws (headR6 c ws kind e s).1) (actR ⟨4,findI c.p.shared other 0,(headR6 c ws kind e s).2⟩ (nextR (headR6 c ws kind e s).1))
  else bif kind == 6 then actR ⟨7,0,(headR6 c ws kind e s).2⟩ (headR6 c ws kind e s).1
  else bif kind == 3 then (bif (headR6 c ws kind e s).2 != 0 then blockR6 c ws body (headR6 c ws kind e s).1 else blockR6 c ws els (headR6 c ws kind e s).1)
  else bif kind == 4 then whileR (kid0R c ws e) (blockR6 c ws body) (s.fuel.toNat+1) s
  else bif kind == 5 then (bif decide ((blockR6 c ws body (actR ⟨5,findI c.p.locks name 0,0⟩ s)).fuel > 0) then actR ⟨6,findI c.p.locks name 0,0⟩ (blockR6 c ws body (actR ⟨5,findI c.p.locks name 0,0⟩ s)) else blockR6 c ws body (actR ⟨5,findI c.p.locks name 0,0⟩ s))
  else (headR6 c ws kind e s).1:=by rw [stmtR]
 generalize stmtR c ws (.mk kind name other e body els at_) s=R at hE ⊢
 generalize findI c.p.shared other 0=FI at hsh hE
 generalize findI c.p.locks name 0=LK at hlk hE
 have hhd:headR6 c ws kind e s=bif decide (0<e.length) && kind != 4 then kid0R c ws e s else (s,0):=rfl
 have hri1:=hri.rr1 hp hhr.1
 have hh4:(kind == 4)=true→headR6 c ws kind e s=(s,0):=fun h=>by
  have:(kind != 4)=false:=by unfold bne; rw [h]; rfl
  rw [hhd,this,Bool.and_false]; rfl
 have hh5:e=[]→headR6 c ws kind e s=(s,0):=fun h=>by subst h; rfl
 have hbb:(headR6 c ws kind e s).1.acts.length+2*(headR6 c ws kind e s).1.fuel.toNat+2≤20000:=by
  have h1:=hhr.1.acts1; have h2:=hhr.1.less; omega
 generalize headR6 c ws kind e s=HD at hE hhd hri1 hh4 hh5 hbb
 clear hhr
 obtain ⟨s1,w⟩:=HD
 simp only at hE hri1 hbb
 refine Ctr.mv [4,5,10,11,20,23,24,25] [0,1,3] 4 hT hmix Tryz.func53 rfl (fun _ _=>by kernel_rfl) rfl (fun hok => ?_)
 clear hok
 conv=>whnf
 refine CutL.by (fun _:Unit=>⟨[(0,.ptr 0 0),(3,.ptr 4 0),(4,.tr (ti w))],[(0,runB c ws (s1) 3),(1,locB (s1)),(3,actB (s1)),(4,.cells 105 ((Stmt.mk kind name other e body els at_).cells.map .tr))],20⟩) (fun _=>True) ?_ ?_
 ·cases hq:decide (0<e.length) with
  | false =>
   rw [hq,Bool.false_and,cond_false] at hhd
   cases hhd
   have hq:=of_decide_eq_false hq
   obtain rfl:e=[]:=List.eq_nil_of_length_eq_zero (by omega)
   conv=>whnf
   exact ⟨(),[0,1,2,3,4],[],Sub.mk' rfl aut aut rfl rfl,trivial⟩
  | true =>
   rw [hq,Bool.true_and] at hhd
   have hq:=of_decide_eq_true hq
   have e0:decide (((Expr.rows e).length:Int) > 0)=true:=decide_eq_true (by rw [erows_len]; omega)
   cases h4:(kind != 4) with
   | false =>
    rw [h4,cond_false] at hhd
    cases hhd
    conv=>whnf
    rw [e0]
    conv=>whnf
    rw [h4]
    conv=>whnf
    exact ⟨(),[0,1,2,3,4],[],Sub.mk' rfl aut aut rfl rfl,trivial⟩
   | true =>
    rw [h4,cond_true] at hhd
    obtain ⟨x,hx⟩ : ∃ x,e[0]? = some x:=⟨_,List.getElem?_eq_getElem hq⟩
    rw [kid0R_at hx] at hhd
    have hcall:=hex x s (okEs_get hke hx) hri
    rw [← hhd] at hcall
    simp only at hcall
    obtain ⟨x1,x2,x3,x4,x5,x6⟩:=x
    conv=>whnf
    rw [e0]
    conv=>whnf
    rw [h4]
    conv=>whnf
    refine ⟨rfl,Int.le_refl _,(show (0:Int)<((Expr.rows e).length:Int) by rw [erows_len]; omega),fun row hrow => ?_⟩
    obtain ⟨d,hd2,rfl⟩:=erows_get hrow
    obtain rfl:=Option.some.inj (hx.symm.trans hd2)
    clear hrow hd2
    conv=>whnf
    refine acall.new [0,1,3] [] _ _ _ _ (hcall) rfl rfl rfl rfl aut aut rfl rfl ?_
    conv=>whnf
    intro _
    conv=>whnf
    exact ⟨(),[0,1,2,_,4],[],Sub.aw,trivial⟩
 rintro - - -
 conv=>whnf
 refine CutL.by (fun _:Unit=>⟨[(0,.ptr 0 0),(3,.ptr 4 0),(4,.tr (ti w))],[(0,runB c ws (s1) 3),(1,locB (s1)),(3,actB (s1)),(4,.cells 105 ((Stmt.mk kind name other e body els at_).cells.map .tr))],20⟩) (fun _=>decide (s1.fuel≤0)=false) ?_ ?_
 ·conv=>whnf
  cases hq:decide (s1.fuel≤0) with
  | true =>
   rw [hq,cond_true] at hE
   subst hE
   conv=>whnf
   exact ⟨[0,1,2,3],rfl,rfl,trivial,aut,aut,aut,trivial⟩
  | false =>
   conv=>whnf
   exact ⟨(),[0,1,2,3,4],[],Sub.mk' rfl aut aut rfl rfl,rfl⟩
 rintro - hq -
 rw [hq,cond_false] at hE
 have hq:=of_decide_eq_false hq
 clear hhd
 have b1:=hri1.acts
 have b2:=hri1.reads
 have b3:=hri1.len
 conv=>whnf
 cases k1:(kind == 1) with
 | true =>
  rw [k1,cond_true] at hE
  have hs:=hst w s1 (by omega) (by omega)
  rw [← hE] at hs
  conv=>whnf
  refine acall.new [0,1,3] [] _ _ _ _ (hs) rfl rfl rfl rfl aut aut rfl rfl ?_
  conv=>whnf
  intro _
  conv=>whnf
  exact ⟨[0,1,2,_],rfl,rfl,trivial,⟨rfl,.inl rfl,.inl rfl,.inl rfl,.inl rfl,⟨rfl,rfl⟩,.inl rfl,.inl rfl,.inl rfl,⟨rfl,rfl⟩,trivial⟩,⟨rfl,rfl,rfl,rfl⟩,⟨rfl,rfl,rfl,rfl⟩,trivial⟩
 | false =>
 rw [k1,cond_false] at hE
 conv=>whnf
 cases k2:(kind == 2) with
 | true =>
  rw [k2,cond_true] at hE
  have hre:=k_readR c ws s1 (by omega)
  generalize readR ws s1=W at hre hE
  conv=>whnf
  refine CutL.by (fun _:Unit=>⟨[(0,.ptr 0 0),(3,.ptr 4 0),(4,.tr (ti w)),(5,.tr (ti W))],[(0,runB c ws (nextR s1) 3),(1,locB (nextR s1)),(3,actB (nextR s1)),(4,.cells 105 ((Stmt.mk kind name other e body els at_).cells.map .tr))],20⟩) (fun _=>True) ?_ ?_
  ·conv=>whnf
   refine acall.au [0,1,3] [] (hre) ?_
   intro _
   conv=>whnf
   exact ⟨(),[0,1,2,3,4],[],Sub.mk' rfl aut aut rfl rfl,trivial⟩
  rintro - - -
  have hb4:(nextR s1).acts.length≤20000 - 2:=by show s1.acts.length≤_; omega
  have hb5:localI c.p c.t name<((nextR s1).locals.length:Nat):=by show localI c.p c.t name<(s1.locals.length:Nat); omega
  generalize nextR s1=s2 at hE hb4 hb5 ⊢
  have hsn:=act_snoc s2 ⟨4,FI,w⟩
  have hsl:=act_len s2 ⟨4,FI,w⟩
  have hs:=hst W (actR ⟨4,FI,w⟩ s2) hb5 (by rw [← hsl]; omega)
  rw [← hE] at hs
  conv=>whnf
  refine CutL.by (fun _:Unit=>⟨[(0,.ptr 0 0),(3,.ptr 4 0),(5,.tr (ti W))],[(0,runB c ws (actR ⟨4,FI,w⟩ s2) 3),(1,locB (actR ⟨4,FI,w⟩ s2)),(3,actB (actR ⟨4,FI,w⟩ s2)),(4,.cells 105 ((Stmt.mk kind name other e body els at_).cells.map .tr))],20⟩) (fun _=>True) ?_ ?_
  ·conv=>whnf
   refine acall.pure _ (hsh) rfl rfl ?_
   conv=>whnf
   refine ⟨rfl,rfl,rfl,(by rw [List.length_map]; exact Nat.le_refl _),(show ((s2).acts.length+1)*24≤150000000000000 by omega),fun q hq => ?_,?_⟩
   ·cases hq with
    | head=>exact Nat.ne_of_beq_eq_false rfl
    | tail _ h =>
     first
     | (cases h; done)
     | (cases h with
      | head=>exact Nat.ne_of_beq_eq_false rfl
      | tail _ h=>cases h)
   conv=>whnf
   refine ⟨by kernel_rfl,fun _ => ?_⟩
   conv=>whnf
   exact ⟨(),[0,1,2,_,4],[],Sub.mk' rfl ⟨⟨rfl,rfl⟩,⟨rfl,rfl⟩,.inl rfl,trivial⟩ ⟨⟨rfl,.inl rfl,.inl rfl,.inl rfl,.inl rfl,⟨rfl,rfl⟩,.inl rfl,.inl rfl,.inl rfl,⟨rfl,hsl⟩,trivial⟩,⟨rfl,rfl,rfl,rfl⟩,⟨rfl,rfl,rfl,hsn⟩,⟨rfl,.inl rfl,.inl rfl,.inl rfl,.inl rfl,.inl rfl,.inl rfl,.inl rfl,trivial⟩,trivial⟩ rfl rfl,trivial⟩
  rintro - - -
  conv=>whnf
  refine acall.new [0,1,3] [] _ _ _ _ (hs) rfl rfl rfl rfl aut aut rfl rfl ?_
  conv=>whnf
  intro _
  conv=>whnf
  exact ⟨[0,1,2,_],rfl,rfl,trivial,⟨rfl,.inl rfl,.inl rfl,.inl rfl,.inl rfl,⟨rfl,rfl⟩,.inl rfl,.inl rfl,.inl rfl,⟨rfl,rfl⟩,trivial⟩,⟨rfl,rfl,rfl,rfl⟩,⟨rfl,rfl,rfl,rfl⟩,trivial⟩
 | false =>
 rw [k2,cond_false] at hE
 conv=>whnf
 cases k6:(kind == 6) with
 | true =>
  rw [k6,cond_true] at hE
  subst hE
  have hsn:=act_snoc s1 ⟨7,0,w⟩
  have hsl:=act_len s1 ⟨7,0,w⟩
  conv=>whnf
  refine ⟨rfl,rfl,rfl,(by rw [List.length_map]; exact Nat.le_refl _),(show ((s1).acts.length+1)*24≤150000000000000 by omega),fun q hq => ?_,?_⟩
  ·cases hq with
   | head=>exact Nat.ne_of_beq_eq_false rfl
   | tail _ h =>
    first
    | (cases h; done)
    | (cases h with
     | head=>exact Nat.ne_of_beq_eq_false rfl
     | tail _ h=>cases h)
  conv=>whnf
  exact ⟨[0,1,2,_],rfl,rfl,trivial,⟨rfl,.inl rfl,.inl rfl,.inl rfl,.inl rfl,⟨rfl,rfl⟩,.inl rfl,.inl rfl,.inl rfl,⟨rfl,hsl⟩,trivial⟩,⟨rfl,rfl,rfl,rfl⟩,⟨rfl,rfl,rfl,hsn⟩,trivial⟩
 | false =>
 rw [k6,cond_false] at hE
 conv=>whnf
 cases k3:(kind == 3) with
 | true =>
  rw [k3,cond_true] at hE
  conv=>whnf
  cases hw:(w != 0) with
  | true =>
   rw [hw,cond_true] at hE
   have hs:=hB s1 hri1
   rw [← hE] at hs
   conv=>whnf
   refine acall.new [0,1,3] [] _ _ _ _ (hs) rfl rfl rfl rfl aut aut rfl rfl ?_
   conv=>whnf
   intro _
   conv=>whnf
   exact ⟨[0,1,2,_],rfl,rfl,trivial,⟨rfl,.inl rfl,.inl rfl,.inl rfl,.inl rfl,⟨rfl,rfl⟩,.inl rfl,.inl rfl,.inl rfl,⟨rfl,rfl⟩,trivial⟩,⟨rfl,rfl,rfl,rfl⟩,⟨rfl,rfl,rfl,rfl⟩,trivial⟩
  | false =>
   rw [hw,cond_false] at hE
   have hs:=hL s1 hri1
   rw [← hE] at hs
   conv=>whnf
   refine acall.new [0,1,3] [] _ _ _ _ (hs) rfl rfl rfl rfl aut aut rfl rfl ?_
   conv=>whnf
   intro _
   conv=>whnf
   exact ⟨[0,1,2,_],rfl,rfl,trivial,⟨rfl,.inl rfl,.inl rfl,.inl rfl,.inl rfl,⟨rfl,rfl⟩,.inl rfl,.inl rfl,.inl rfl,⟨rfl,rfl⟩,trivial⟩,⟨rfl,rfl,rfl,rfl⟩,⟨rfl,rfl,rfl,rfl⟩,trivial⟩
 | false =>
 rw [k3,cond_false] at hE
 conv=>whnf
 cases k4:(kind == 4) with
 | true =>
  rw [k4,cond_true] at hE
  have hel:=hel k4
  obtain rfl:s1=s:=by have:=hh4 k4; cases this; rfl
  obtain ⟨x,hx⟩ : ∃ x,e[0]? = some x:=⟨_,List.getElem?_eq_getElem (by omega)⟩
  have hkx:=okEs_get hke hx
  have hEr : ∀ s,RR 0 1 s (kid0R c ws e s).1∧(s.fuel≤0→(kid0R c ws e s).2=0)∧(kid0R c ws e s).1.fuel<s.fuel:=fun s=>by
   rw [kid0R_at hx]
   have:=exprR_rr c ws x s
   exact ⟨this.1,this.2.2.2,this.2.2.1⟩
  have hBr:=fun s=>blockR6_rr c ws body s
  have hen:=whileR_enough hEr hBr
  clear hst hsh hlk hL f1 f5 f6
  conv=>whnf
  refine LoopL.by (fun x:RS=>⟨[(0,.ptr 0 0),(3,.ptr 4 0)],[(0,runB c ws (x) 3),(1,locB (x)),(3,actB (x)),(4,.cells 105 ((Stmt.mk kind name other e body els at_).cells.map .tr))],20⟩) (fun x=>RI nl x∧R=whileR (kid0R c ws e) (blockR6 c ws body) (x.fuel.toNat+1) x) (fun x=>x.fuel.toNat) s1 [0,1,2,3,4] []
   (Sub.mk' rfl aut aut rfl rfl) ⟨hri1,hE⟩ ?_
  clear hE hri1 b1 b2 b3 hbb hq hm hp hri hh4 hh5
  rintro t ⟨hrt,hR⟩ -
  have hcall:=hex x t hkx hrt
  have hrw:R=bif (kid0R c ws e t).2 != 0 then (bif decide ((okR (kid0R c ws e t).1).fuel > 0) then whileR (kid0R c ws e) (blockR6 c ws body) t.fuel.toNat (blockR6 c ws body (okR (kid0R c ws e t).1)) else okR (kid0R c ws e t).1) else (kid0R c ws e t).1:=hR
  have hEt:=hEr t
  rw [kid0R_at hx] at hrw hEt
  have hrt2:=fun hp=>hrt.rr1 hp hEt.1
  generalize exprR c ws x t=A at hcall hrw hEt hrt2
  obtain ⟨t1,v⟩:=A
  simp only at hcall hrw hEt hrt2
  obtain ⟨et1,et2,et3⟩:=hEt
  conv=>whnf
  refine CutL.by (fun _:Unit=>⟨[(0,.ptr 0 0),(3,.ptr 4 0)],[(0,runB c ws (okR t1) 3),(1,locB (okR t1)),(3,actB (okR t1)),(4,.cells 105 ((Stmt.mk kind name other e body els at_).cells.map .tr))],20⟩) (fun _=>(v != 0)=true∧decide ((okR t1).fuel > 0)=true) ?_ ?_
  ·have hlow : -3000≤t1.fuel∧t1.fuel≤3000∨(v != 0)=false:=by
    rcases Int.lt_or_le 0 t.fuel with h | h
    ·have:=hrt2 h; exact .inl ⟨this.lo,this.hi⟩
    ·exact .inr (by rw [et2 h]; rfl)
   obtain ⟨x1,x2,x3,x4,x5,x6⟩:=x
   conv=>whnf
   refine ⟨rfl,Int.le_refl _,(show (0:Int)<((Expr.rows e).length:Int) by rw [erows_len]; omega),fun row hrow => ?_⟩
   obtain ⟨d,hd2,rfl⟩:=erows_get hrow
   obtain rfl:=Option.some.inj (hx.symm.trans hd2)
   clear hrow hd2
   conv=>whnf
   refine acall.new [0,1,3] [] _ _ _ _ (hcall) rfl rfl rfl rfl aut aut rfl rfl ?_
   conv=>whnf
   intro _
   conv=>whnf
   cases hv:(v != 0) with
   | false =>
    rw [hv,cond_false] at hrw
    subst hrw
    conv=>whnf
    refine ⟨fun _ => ?_,fun h=>absurd rfl h⟩
    conv=>whnf
    exact ⟨[0,1,2,_],rfl,rfl,trivial,⟨rfl,.inl rfl,.inl rfl,.inl rfl,.inl rfl,⟨rfl,rfl⟩,.inl rfl,.inl rfl,.inl rfl,⟨rfl,rfl⟩,trivial⟩,⟨rfl,rfl,rfl,rfl⟩,⟨rfl,rfl,rfl,rfl⟩,trivial⟩
   | true =>
    rw [hv,cond_true] at hrw
    obtain ⟨l1,l2⟩:=hlow.resolve_right (by rw [hv]; decide)
    have hokc:=k_okR c ws t1 l1 l2
    conv=>whnf
    refine acall.au [0,1,_] [] (hokc) ?_
    intro _
    conv=>whnf
    cases ho:decide ((okR t1).fuel > 0) with
    | false =>
     rw [ho,cond_false] at hrw
     subst hrw
     conv=>whnf
     refine ⟨fun _ => ?_,fun h=>absurd rfl h⟩
     conv=>whnf
     exact ⟨[0,1,2,_],rfl,rfl,trivial,⟨rfl,.inl rfl,.inl rfl,.inl rfl,.inl rfl,⟨rfl,rfl⟩,.inl rfl,.inl rfl,.inl rfl,⟨rfl,rfl⟩,trivial⟩,⟨rfl,rfl,rfl,rfl⟩,⟨rfl,rfl,rfl,rfl⟩,trivial⟩
    | true =>
     conv=>whnf
     exact ⟨(),[0,1,2,_,4],[],Sub.aw,⟨rfl,rfl⟩⟩
  rintro - ⟨hv,ho⟩ -
  rw [hv,ho,cond_true,cond_true] at hrw
  have ho:=of_decide_eq_true ho
  have hof:(okR t1).fuel=t1.fuel - 1:=rfl
  have hrt1:=hrt2 (by omega)
  have hrk:=hrt1.ok ho
  have hs:=hB (okR t1) hrk
  have hbr:=hBr (okR t1)
  have hl:=hbr.less
  have hrn:=hrk.rr2 ho hbr (by have:=hrk.acts; omega)
  rw [hen _ ((blockR6 c ws body (okR t1)).fuel.toNat+1) _ (by omega) (Nat.lt_succ_self _)] at hrw
  generalize blockR6 c ws body (okR t1)=t2 at hs hl hrn hrw
  conv=>whnf
  refine acall.new [0,1,3] [] _ _ _ _ (hs) rfl rfl rfl rfl aut aut rfl rfl ?_
  conv=>whnf
  intro _
  conv=>whnf
  exact ⟨t2,[0,1,2,_,4],[],Sub.aw,⟨hrn,hrw⟩,by show t2.fuel.toNat<t.fuel.toNat; omega⟩
 | false =>
 rw [k4,cond_false] at hE
 conv=>whnf
 cases k5:(kind == 5) with
 | true =>
  rw [k5,cond_true] at hE
  obtain rfl:=f5 (.inl (eq_of_beq k5))
  obtain rfl:s1=s:=by have:=hh5 rfl; cases this; rfl
  have hsn:=act_snoc s1 ⟨5,LK,0⟩
  have hsl:=act_len s1 ⟨5,LK,0⟩
  have hs:=hB (actR ⟨5,LK,0⟩ s1) (hri1.act (by omega) _)
  have hbr:=blockR6_rr c ws body (actR ⟨5,LK,0⟩ s1)
  have hba:=hbr.acts2
  rw [← hsl] at hba
  have hba:(blockR6 c ws body (actR ⟨5,LK,0⟩ s1)).acts.length+2*(blockR6 c ws body (actR ⟨5,LK,0⟩ s1)).fuel.toNat≤s1.acts.length+1+2*s1.fuel.toNat+0:=hba
  generalize blockR6 c ws body (actR ⟨5,LK,0⟩ s1)=s3 at hE hs hba
  clear hbr
  clear hex hst hsh hL hB
  conv=>whnf
  refine CutL.by (fun _:Unit=>⟨[(0,.ptr 0 0),(3,.ptr 4 0),(6,.tr (ti LK))],[(0,runB c ws (s1) 3),(1,locB (s1)),(3,actB (s1)),(4,.cells 105 ((Stmt.mk kind name other [] body els at_).cells.map .tr))],20⟩) (fun _=>True) ?_ ?_
  ·conv=>whnf
   refine acall.pure _ (hlk) rfl rfl ?_
   conv=>whnf
   refine ⟨by kernel_rfl,fun _ => ?_⟩
   conv=>whnf
   exact ⟨(),[0,1,2,3,4],[],Sub.mk' rfl aut aut rfl rfl,trivial⟩
  rintro - - -
  conv=>whnf
  refine CutL.by (fun _:Unit=>⟨[(0,.ptr 0 0),(3,.ptr 4 0),(6,.tr (ti LK))],[(0,runB c ws (actR ⟨5,LK,0⟩ s1) 3),(1,locB (actR ⟨5,LK,0⟩ s1)),(3,actB (actR ⟨5,LK,0⟩ s1)),(4,.cells 105 ((Stmt.mk kind name other [] body els at_).cells.map .tr))],20⟩) (fun _=>True) ?_ ?_
  ·conv=>whnf
   refine ⟨rfl,rfl,rfl,(by rw [List.length_map]; exact Nat.le_refl _),(show ((s1).acts.length+1)*24≤150000000000000 by omega),fun q hq => ?_,?_⟩
   ·cases hq with
    | head=>exact Nat.ne_of_beq_eq_false rfl
    | tail _ h =>
     first
     | (cases h; done)
     | (cases h with
      | head=>exact Nat.ne_of_beq_eq_false rfl
      | tail _ h=>cases h)
   conv=>whnf
   exact ⟨(),[0,1,2,_,4],[],Sub.mk' rfl ⟨⟨rfl,rfl⟩,⟨rfl,rfl⟩,.inl rfl,trivial⟩ ⟨⟨rfl,.inl rfl,.inl rfl,.inl rfl,.inl rfl,⟨rfl,rfl⟩,.inl rfl,.inl rfl,.inl rfl,⟨rfl,hsl⟩,trivial⟩,⟨rfl,rfl,rfl,rfl⟩,⟨rfl,rfl,rfl,hsn⟩,⟨rfl,.inl rfl,.inl rfl,.inl rfl,.inl rfl,.inl rfl,.inl rfl,.inl rfl,trivial⟩,trivial⟩ rfl rfl,trivial⟩
  rintro - - -
  conv=>whnf
  refine CutL.by (fun _:Unit=>⟨[(0,.ptr 0 0),(6,.tr (ti LK))],[(0,runB c ws (s3) 3),(1,locB (s3)),(3,actB (s3))],20⟩) (fun _=>True) ?_ ?_
  ·conv=>whnf
   refine acall.new [0,1,3] [] _ _ _ _ (hs) rfl rfl rfl rfl aut aut rfl rfl ?_
   conv=>whnf
   intro _
   conv=>whnf
   exact ⟨(),[0,1,2,_],[],Sub.aw,trivial⟩
  rintro - - -
  conv=>whnf
  cases hg:decide (s3.fuel > 0) with
  | false =>
   rw [hg,cond_false] at hE
   subst hE
   conv=>whnf
   exact ⟨[0,1,2,3],rfl,rfl,trivial,aut,aut,aut,trivial⟩
  | true =>
   rw [hg,cond_true] at hE
   subst hE
   have hsn2:=act_snoc s3 ⟨6,LK,0⟩
   have hsl2:=act_len s3 ⟨6,LK,0⟩
   conv=>whnf
   refine ⟨rfl,rfl,rfl,(by rw [List.length_map]; exact Nat.le_refl _),(show ((s3).acts.length+1)*24≤150000000000000 by omega),fun q hq => ?_,?_⟩
   ·cases hq with
    | head=>exact Nat.ne_of_beq_eq_false rfl
    | tail _ h =>
     first
     | (cases h; done)
     | (cases h with
      | head=>exact Nat.ne_of_beq_eq_false rfl
      | tail _ h=>cases h)
   conv=>whnf
   exact ⟨[0,1,2,_],rfl,rfl,trivial,⟨rfl,.inl rfl,.inl rfl,.inl rfl,.inl rfl,⟨rfl,rfl⟩,.inl rfl,.inl rfl,.inl rfl,⟨rfl,hsl2⟩,trivial⟩,⟨rfl,rfl,rfl,rfl⟩,⟨rfl,rfl,rfl,hsn2⟩,trivial⟩
 | false =>
  rw [k5,cond_false] at hE
  subst hE
  conv=>whnf
  exact ⟨[0,1,2,3],rfl,rfl,trivial,aut,aut,aut,trivial⟩
set_option maxRecDepth 100000 in
set_option maxHeartbeats 2000000 in
theorem k_blkRun (c:LowC) (ws:List Int) (nl:Nat) (hloc : ∀ name,localI c.p c.t name<(nl:Nat)) : ∀ (n:Nat) (l:List Stmt),SizeOf.sizeOf l<n→okSs c l=true→KBlR c ws nl l:=by
 intro n
 induction n with
 | zero=>intro l h; omega
 | succ n ih =>
 intro l hsz hk s hri
 have hR:blockR6 c ws l s=blockR6 c ws (l.drop 0) s:=rfl
 generalize blockR6 c ws l s=R at hR ⊢
 refine Ctr.mv [] [0,1,3] 4 hT hmix Tryz.func15 rfl (fun _ _=>by kernel_rfl) rfl (fun hok => ?_)
 have hll:=(hok.slot 1 rfl).tr.lst.2.1
 rw [srows_len] at hll
 clear hok
 conv=>whnf
 refine LoopL.by (fun x:Nat × RS=>⟨[(0,.ptr 0 0),(1,.tr (stmtsT l)),(4,.tr (ti (x.1:Nat)))],[(0,runB c ws (x.2) 3),(1,locB (x.2)),(3,actB (x.2))],20⟩) (fun x=>x.1≤l.length∧RI nl x.2∧R=blockR6 c ws (l.drop x.1) x.2) (fun x=>l.length - x.1) (0,s) [0,1,2,3] []
  (Sub.mk' rfl aut aut rfl rfl) ⟨Nat.zero_le _,hri,hR⟩ ?_
 clear hR hri
 rintro ⟨i,t⟩ ⟨hi,hrt,hR⟩ -
 simp only at hi hrt hR
 have hokc:=k_okR c ws t hrt.lo hrt.hi
 conv=>whnf
 cases hit:decide ((i:Int)<((Stmt.rows l).length:Int)) with
 | false =>
  have hit:=of_decide_eq_false hit
  rw [srows_len] at hit
  rw [List.drop_of_length_le (by omega)] at hR
  replace hR:R=t:=by rw [hR,blockR6]
  subst hR
  conv=>whnf
  refine ⟨fun _ => ?_,fun h=>absurd rfl h⟩
  conv=>whnf
  exact ⟨[0,1,2,3],rfl,rfl,trivial,aut,aut,aut,trivial⟩
 | true =>
  replace hit:i<l.length:=by have:=of_decide_eq_true hit; rw [srows_len] at this; omega
  obtain ⟨d,hd⟩ : ∃ d,l[i]? = some d:=⟨_,List.getElem?_eq_getElem hit⟩
  rw [drop_cons hd] at hR
  have hR2:R=bif !decide ((okR t).fuel > 0) then okR t else blockR6 c ws (l.drop (i+1)) (stmtR c ws d (okR t)):=by rw [hR,blockR6]
  clear hR
  conv=>whnf
  refine acall.au [0,1,3] [] (hokc) ?_
  intro _
  conv=>whnf
  cases ho:decide ((okR t).fuel > 0) with
  | false =>
   rw [ho] at hR2
   replace hR2:R=okR t:=hR2
   subst hR2
   conv=>whnf
   refine ⟨fun _ => ?_,fun h=>absurd rfl h⟩
   conv=>whnf
   exact ⟨[0,1,2,3],rfl,rfl,trivial,aut,aut,aut,trivial⟩
  | true =>
   rw [ho,Bool.not_true,cond_false] at hR2
   have ho:=of_decide_eq_true ho
   have hof:(okR t).fuel=t.fuel - 1:=rfl
   have hrk:=hrt.ok ho
   have hkd:=okSs_get hk hd
   have hsd:=size_kid2 hd
   have hrr:=stmtR_rr c ws d (okR t) ho
   have hm:(okR t).acts.length+2*(okR t).fuel.toNat+2≤20000:=by
    have:=hrt.acts
    show t.acts.length+2*(t.fuel - 1).toNat+2≤20000
    omega
   have hrn:=hrk.rr2 ho hrr hm
   obtain ⟨kind,name,other,e,body,els,at_⟩:=d
   have hkd2:=hkd
   unfold okS at hkd2
   simp only [Bool.and_eq_true] at hkd2
   have hs:=k_stRun c ws nl hloc kind name other e body els at_ hkd (ih body (by simp only [Stmt.mk.sizeOf_spec] at hsd; omega) hkd2.1.2) (ih els (by simp only [Stmt.mk.sizeOf_spec] at hsd; omega) hkd2.2) (okR t) hrk ho hm
   generalize stmtR c ws (.mk kind name other e body els at_) (okR t)=t2 at hs hrn hR2
   conv=>whnf
   refine ⟨rfl,(show (0:Int)≤i by omega),(show (i:Int)<((Stmt.rows l).length:Int) by rw [srows_len]; omega),fun row hrow => ?_⟩
   obtain ⟨d,hd2,rfl⟩:=srows_get hrow
   obtain rfl:=Option.some.inj (hd.symm.trans hd2)
   clear hrow hd2
   conv=>whnf
   refine acall.new [0,1,3] [] _ _ _ _ (hs) rfl rfl rfl rfl aut aut rfl rfl ?_
   conv=>whnf
   intro _
   conv=>whnf
   exact ⟨(i+1,t2),[0,1,2,_],[],Sub.mk' rfl ⟨⟨rfl,rfl⟩,.inl rfl,.inl (ti_succ hit hll),trivial⟩ ⟨⟨rfl,.inl rfl,.inl rfl,.inl rfl,.inl rfl,⟨rfl,rfl⟩,.inl rfl,.inl rfl,.inl rfl,⟨rfl,rfl⟩,trivial⟩,⟨rfl,rfl,rfl,rfl⟩,⟨rfl,rfl,rfl,rfl⟩,trivial⟩ rfl rfl,⟨hit,hrn,hR2⟩,by show l.length - (i+1)<l.length - i; omega⟩
end Go.Proofs.YthboippafkcoiaaGreatDoor.am
namespace Go.Proofs.YthboippafkcoiaaGreatDoor.am
open Go Go.Proofs
set_option linter.all false
theorem findI_lt : ∀ (l:List Decl) (s:ByteArray) (k:Nat),findI l s k<(k+l.length:Nat)
 | [],s,k=>by show (-1:Int)<_; omega
 | d::l,s,k=>by
  show (if seq d.name s then (k:Int) else findI l s (k+1))<_
  rw [List.length_cons]
  split
  ·omega
  ·have:=findI_lt l s (k+1); omega
structure RCtx (c:LowC) (u:Un) (g:Gr) (S N:Nat):Prop where
 slots:g.slots=(S:Nat)
 nodes:g.nodes.length=N
 cap:N≤4096
 shared:u.shared=c.p.shared
 locks:u.locks=c.p.locks
 loc : ∀ name,localI c.p c.t name<(S:Nat)
theorem RCtx.sh {c:LowC} {u:Un} {g:Gr} {S N:Nat} (h:RCtx c u g S N) {name:ByteArray}:findI c.p.shared name 0<(u.shared.length:Nat):=by
 have:=findI_lt c.p.shared name 0
 rw [h.shared]; omega
theorem RCtx.lk {c:LowC} {u:Un} {g:Gr} {S N:Nat} (h:RCtx c u g S N) {name:ByteArray}:findI c.p.locks name 0<(u.locks.length:Nat):=by
 have:=findI_lt c.p.locks name 0
 rw [h.locks]; omega
theorem vOk_in {S:Nat} {k:Int} (h0:0≤k) (h1:k<(S:Nat)):vOk S (inV k)=true:=by
 show (decide (k ≥ 0) && decide (k<(S:Int)) && ((0:Int) == 0))=true
 rw [decide_eq_true (show k ≥ 0 from h0),decide_eq_true h1]; rfl
theorem exprV_ok {c:LowC} {u:Un} {g:Gr} {S N:Nat} (h:RCtx c u g S N) : ∀ (e:Expr) (m:Nat),m+szE c e≤S→vOk S (exprV c e m)=true
 | .mk kind op word name kids _,m,hm=>by
  unfold szE at hm
  rw [exprV_mk]
  cases k1:kind == 1 with
  | true=>rfl
  | false =>
  rw [k1] at hm
  cases k2:kind == 2 with
  | true =>
   rw [k2] at hm
   cases hl:decide (localI c.p c.t name ≥ 0) with
   | true=>exact vOk_in (of_decide_eq_true hl) (h.loc name)
   | false=>rw [hl] at hm; simp only [cond_true,cond_false] at hm; exact vOk_in (by omega) (by omega)
  | false =>
  rw [k2] at hm
  cases ht:two op with
  | true=>rw [ht] at hm; simp only [cond_true,cond_false] at hm; exact vOk_in (by omega) (by omega)
  | false=>rw [ht] at hm; simp only [cond_true,cond_false] at hm; exact vOk_in (by omega) (by omega)
theorem kid0V_ok {c:LowC} {u:Un} {g:Gr} {S N:Nat} (h:RCtx c u g S N) : ∀ (l:List Expr) (m:Nat),m+sz0 c l≤S→vOk S (kid0V c l m)=true
 | [],m,_=>rfl
 | e::_,m,hm=>by unfold sz0 at hm; exact exprV_ok h e m hm
theorem kid1V_ok {c:LowC} {u:Un} {g:Gr} {S N:Nat} (h:RCtx c u g S N) : ∀ (l:List Expr) (m:Nat),m+sz1 c l≤S→vOk S (kid1V c l m)=true
 | [],m,_=>rfl
 | _::r,m,hm=>by unfold sz1 at hm; exact kid0V_ok h r m hm
theorem one_op {kind op word:Int} {name:ByteArray} {kids:List Expr} {at_:Int} (h:partsB (.mk kind op word name kids at_)=true) (h1:(kind == 1)=false) (h2:(kind == 2)=false) (ht:two op=false):0≤op∧op<19:=by
 unfold partsB at h
 dsimp only at h
 rw [h1,cond_false,h2,cond_false] at h
 cases h3:(kind == 3) with
 | true =>
  rw [h3,cond_true] at h
  simp only [Bool.and_eq_true,Bool.or_eq_true,beq_iff_eq] at h
  omega
 | false =>
 rw [h3,cond_false] at h
 cases h4:(kind == 4) with
 | false=>rw [h4] at h; cases h
 | true =>
  rw [h4,cond_true,ht] at h
  simp at h
theorem mem_app {α:Type} {P:α→Prop} {X Y:List α} (h1 : ∀ n ∈ X,P n) (h2 : ∀ n ∈ Y,P n) : ∀ n ∈ X++Y,P n:=fun n hn=>(List.mem_append.1 hn).elim (h1 n) (h2 n)
theorem mem_cons2 {α:Type} {P:α→Prop} {x:α} {Y:List α} (h1:P x) (h2 : ∀ n ∈ Y,P n) : ∀ n ∈ x::Y,P n:=fun n hn=>(List.mem_cons.1 hn).elim (fun e=>e ▸ h1) (h2 n)
theorem mem_nil {α:Type} {P:α→Prop} : ∀ n ∈ ([]:List α),P n:=fun n hn=>by cases hn
mutual
theorem expr_right {c:LowC} {u:Un} {g:Gr} {S N:Nat} (h:RCtx c u g S N) : ∀ (e:Expr) (a m to:Nat),okE c e=true→a+szE c e≤N→m+szE c e≤S→to<N → ∀ n ∈ exprD c e a m to,rightB u g n=true
 | .mk kind op word name kids at_,a,m,to,hk,ha,hm,hto=>by
  have h0:=fun a m to=>kid0_right h kids a m to
  have h1:=fun a m to=>kid1_right h kids a m to
  have v0:=fun m=>kid0V_ok h kids m
  have v1:=fun m=>kid1V_ok h kids m
  have hcap:=h.cap
  unfold okE at hk
  simp only [Bool.and_eq_true] at hk
  obtain ⟨⟨hp,hv⟩,hks⟩:=hk
  unfold szE at ha hm
  unfold exprD
  cases k1:kind == 1 with
  | true=>exact mem_nil
  | false =>
  rw [k1] at ha hm
  cases k2:kind == 2 with
  | true =>
   rw [k2] at ha hm
   cases hl:decide (localI c.p c.t name ≥ 0) with
   | true=>exact mem_nil
   | false =>
    rw [hl] at ha hm
    simp only [cond_true,cond_false] at ha hm
    have e:(kind != 2)=false:=by unfold bne; rw [k2]; rfl
    unfold varB at hv
    rw [e,hl,Bool.false_or,Bool.false_or] at hv
    have q:=of_decide_eq_true hv
    exact mem_cons2 (right_load h.slots h.nodes q h.sh (by omega) hto (by omega)) mem_nil
  | false =>
  rw [k2] at ha hm
  cases ht:two op with
  | true =>
   rw [ht] at ha hm
   simp only [cond_true,cond_false] at ha hm ⊢
   exact mem_app (h0 _ _ _ hks (by omega) (by omega) (by omega)) (mem_app (h1 _ _ _ hks (by omega) (by omega) (by omega)) (mem_cons2 (right_set2 h.slots h.nodes ht (v0 _ (by omega)) (v1 _ (by omega)) (by omega) hto (by omega)) mem_nil))
  | false =>
   rw [ht] at ha hm
   simp only [cond_true,cond_false] at ha hm ⊢
   obtain ⟨o0,o1⟩:=one_op hp k1 k2 ht
   exact mem_app (h0 _ _ _ hks (by omega) (by omega) (by omega)) (mem_cons2 (right_set1 h.slots h.nodes ht o0 o1 (v0 _ (by omega)) (by omega) (by omega) hto (by omega)) mem_nil)
theorem kid0_right {c:LowC} {u:Un} {g:Gr} {S N:Nat} (h:RCtx c u g S N) : ∀ (l:List Expr) (a m to:Nat),okEs c l=true→a+sz0 c l≤N→m+sz0 c l≤S→to<N → ∀ n ∈ kid0D c l a m to,rightB u g n=true
 | [],a,m,to,_,_,_,_=>by unfold kid0D; exact mem_nil
 | e::_,a,m,to,hk,ha,hm,hto=>by
  unfold okEs at hk
  rw [Bool.and_eq_true] at hk
  unfold sz0 at ha hm
  unfold kid0D
  exact expr_right h e a m to hk.1 ha hm hto
theorem kid1_right {c:LowC} {u:Un} {g:Gr} {S N:Nat} (h:RCtx c u g S N) : ∀ (l:List Expr) (a m to:Nat),okEs c l=true→a+sz1 c l≤N→m+sz1 c l≤S→to<N → ∀ n ∈ kid1D c l a m to,rightB u g n=true
 | [],a,m,to,_,_,_,_=>by unfold kid1D; exact mem_nil
 | _::r,a,m,to,hk,ha,hm,hto=>by
  unfold okEs at hk
  rw [Bool.and_eq_true] at hk
  unfold sz1 at ha hm
  unfold kid1D
  exact kid0_right h r a m to hk.2 ha hm hto
end
theorem goOn_lt {k here to N:Nat} (h1:here+k≤N) (h2:to<N):goOn k here to<N:=by
 rcases goOn_cases k here to with ⟨r,r'⟩ | ⟨r,r'⟩ <;> rw [r'] <;> omega
mutual
theorem stmt_right {c:LowC} {u:Un} {g:Gr} {S N:Nat} (h:RCtx c u g S N) : ∀ (x:Stmt) (a m to:Nat),okS c x=true→a+szS c x≤N→m+slS c x≤S→to<N → ∀ n ∈ stmtD c x a m to,rightB u g n=true
 | .mk kind name other e body els at_,a,m,to,hk,ha,hm,hto=>by
  have h0:=fun a m to=>kid0_right h e a m to
  have v0:=fun m=>kid0V_ok h e m
  have hb:=fun a m to=>block_right h body a m to
  have hl:=fun a m to=>block_right h els a m to
  have hcap:=h.cap
  have hloc:=h.loc name
  unfold okS at hk
  simp only [Bool.and_eq_true] at hk
  obtain ⟨⟨⟨⟨hf,hn⟩,he⟩,hkb⟩,hkl⟩:=hk
  unfold nmOkB at hn
  unfold szS at ha
  unfold slS at hm
  unfold stmtD
  cases k1:kind == 1 with
  | true =>
   rw [k1] at ha hm hn
   simp only [cond_true,cond_false] at ha hm hn ⊢
   refine mem_app (h0 _ _ _ he (by omega) (by omega) (by omega)) (mem_cons2 ?_ mem_nil)
   unfold varB at hn
   unfold giveN
   cases hd:decide (localI c.p c.t name ≥ 0) with
   | true=>exact right_set1 (op:=0) h.slots h.nodes rfl (by decide) (by decide) (v0 _ (by omega)) (of_decide_eq_true hd) hloc hto (by omega)
   | false =>
    rw [hd,Bool.false_or] at hn
    exact right_store h.slots h.nodes (of_decide_eq_true hn) h.sh (v0 _ (by omega)) hto (by omega)
  | false =>
  rw [k1] at ha hm hn
  cases k2:kind == 2 with
  | true =>
   rw [k2] at ha hm hn
   simp only [cond_true,cond_false] at ha hm hn ⊢
   rw [Bool.and_eq_true] at hn
   obtain ⟨n1,n2⟩:=hn
   unfold varB at n1
   unfold swapD
   cases hd:decide (localI c.p c.t name ≥ 0) with
   | true =>
    rw [hd] at ha hm
    simp only [cond_true,cond_false] at ha hm ⊢
    exact mem_app (h0 _ _ _ he (by omega) (by omega) (by omega)) (mem_cons2 (right_swap h.slots h.nodes (of_decide_eq_true n2) h.sh (v0 _ (by omega)) (of_decide_eq_true hd) hloc hto (by omega)) mem_nil)
   | false =>
    rw [hd] at ha hm n1
    rw [Bool.false_or] at n1
    simp only [cond_true,cond_false] at ha hm ⊢
    exact mem_app (h0 _ _ _ he (by omega) (by omega) (by omega)) (mem_cons2 (right_swap h.slots h.nodes (of_decide_eq_true n2) h.sh (v0 _ (by omega)) (by omega) (by omega) (by omega) (by omega)) (mem_cons2 (right_store h.slots h.nodes (of_decide_eq_true n1) h.sh (vOk_in (by omega) (by omega)) hto (by omega)) mem_nil))
  | false =>
  rw [k2] at ha hm hn
  cases k3:kind == 3 with
  | true =>
   rw [k3] at ha hm
   simp only [cond_true,cond_false] at ha hm ⊢
   exact mem_app (h0 _ _ _ he (by omega) (by omega) (by omega)) (mem_cons2 (right_branch h.slots h.nodes (v0 _ (by omega)) (goOn_lt (by omega) hto) (goOn_lt (by omega) hto) (by omega)) (mem_app (hb _ _ _ hkb (by omega) (by omega) hto) (hl _ _ _ hkl (by omega) (by omega) hto)))
  | false =>
  rw [k3] at ha hm
  cases k4:kind == 4 with
  | true =>
   rw [k4] at ha hm
   simp only [cond_true,cond_false] at ha hm ⊢
   exact mem_app (h0 _ _ _ he (by omega) (by omega) (by omega)) (mem_cons2 (right_branch h.slots h.nodes (v0 _ (by omega)) (goOn_lt (by omega) (by omega)) hto (by omega)) (hb _ _ _ hkb (by omega) (by omega) (by omega)))
  | false =>
  rw [k4] at ha hm
  cases k5:kind == 5 with
  | true =>
   rw [k5] at ha hm hn
   simp only [cond_true,cond_false] at ha hm hn ⊢
   have hn:=of_decide_eq_true hn
   exact mem_cons2 (right_lock h.slots h.nodes hn h.lk (by omega) (by omega)) (mem_app (hb _ _ _ hkb (by omega) (by omega) (by omega)) (mem_cons2 (right_unlock h.slots h.nodes hn h.lk hto (by omega)) mem_nil))
  | false =>
  rw [k5] at ha hm
  cases k6:kind == 6 with
  | true =>
   rw [k6] at ha hm
   simp only [cond_true,cond_false] at ha hm ⊢
   exact mem_app (h0 _ _ _ he (by omega) (by omega) (by omega)) (mem_cons2 (right_print h.slots h.nodes (v0 _ (by omega)) hto (by omega)) mem_nil)
  | false=>exact mem_nil
theorem block_right {c:LowC} {u:Un} {g:Gr} {S N:Nat} (h:RCtx c u g S N) : ∀ (l:List Stmt) (a m to:Nat),okSs c l=true→a+szB c l≤N→m+slB c l≤S→to<N → ∀ n ∈ blockD c l a m to,rightB u g n=true
 | [],a,m,to,_,_,_,_=>by unfold blockD; exact mem_nil
 | x::r,a,m,to,hk,ha,hm,hto=>by
  have hx:=fun a m to=>stmt_right h x a m to
  have hr:=fun a m to=>block_right h r a m to
  unfold okSs at hk
  rw [Bool.and_eq_true] at hk
  unfold szB at ha
  unfold slB at hm
  unfold blockD
  exact mem_app (hx _ _ _ hk.1 (by omega) (by omega) (goOn_lt (by omega) hto)) (hr _ _ _ hk.2 (by omega) (by omega) hto)
end
end Go.Proofs.YthboippafkcoiaaGreatDoor.am
namespace Go.Proofs.YthboippafkcoiaaGreatDoor.am
open Go Go.Proofs
set_option linter.all false
theorem At.back {L D:List Nd} {a i:Nat} {n:Nd} (h:At L a D) (h1:a≤i) (h2:i<a+D.length) (hn:L[i]? = some n):n ∈ D:=by
 obtain ⟨d,hd⟩ : ∃ d,D[i - a]? = some d:=⟨_,List.getElem?_eq_getElem (by omega)⟩
 have:=h _ _ hd
 rw [show a+(i - a)=i by omega,hn] at this
 cases this
 exact List.mem_of_getElem? hd
end Go.Proofs.YthboippafkcoiaaGreatDoor.am
