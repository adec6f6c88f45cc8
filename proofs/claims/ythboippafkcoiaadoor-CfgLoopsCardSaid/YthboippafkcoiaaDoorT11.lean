/- Plain: what lowering makes, told by places: the nodes of an expression and of a statement at a place, with the place to which they lead. Plain: -/
import Derived.Test.YthboippafkcoiaaDoorT10
import Derived.Test.YthboippafkcoiaaDoorT5
import Derived.Test.YthboippafkcoiaaDoorT8
set_option linter.all false
namespace Go.Proofs.YthboippafkcoiaaDoor.am
open Go Go.Proofs
set_option linter.all false
theorem fillN_get (to:Int) (L:List Nd) (o:Bool × Nat) (i:Nat):(fillN to L o)[i]? = (L[i]?).map fun n=>if i=o.2 then (bif o.1 then { n with els:=to } else { n with next:=to }) else n:=by
 unfold fillN
 cases h:L[o.2]? with
 | none =>
  by_cases hi:i=o.2
  ·subst hi; rw [h]; rfl
  ·simp only [hi,if_false]; rw [Option.map_id']
 | some n =>
  have hl:=(List.getElem?_eq_some_iff.1 h).1
  by_cases hi:i=o.2
  ·subst hi
   simp only [if_true]
   rw [List.getElem?_set_self hl,h]
   rfl
  ·simp only [hi,if_false]
   rw [List.getElem?_set_ne (fun q=>hi q.symm),Option.map_id']
theorem fill_same (to:Int) (L:List Nd) (o o':Bool × Nat):fillN to (fillN to L o) o'=fillN to (fillN to L o') o:=by
 refine List.ext_getElem? fun i => ?_
 rw [fillN_get,fillN_get,fillN_get,fillN_get,Option.map_map,Option.map_map]
 congr 1
 funext n
 obtain ⟨b,x⟩:=o
 obtain ⟨b',x'⟩:=o'
 show (if i=x' then _ else _)=(if i=x then _ else _)
 by_cases h1:i=x <;> by_cases h2:i=x' <;> cases b <;> cases b' <;> simp only [h1,h2,if_true,if_false,Function.comp,cond_true,cond_false] <;> split <;> simp_all
theorem fill_other (to to':Int) (L:List Nd) {o o':Bool × Nat} (h:o≠o'):fillN to (fillN to' L o') o=fillN to' (fillN to L o) o':=by
 refine List.ext_getElem? fun i => ?_
 rw [fillN_get,fillN_get,fillN_get,fillN_get,Option.map_map,Option.map_map]
 congr 1
 funext n
 obtain ⟨b,x⟩:=o
 obtain ⟨b',x'⟩:=o'
 by_cases h1:i=x
 ·by_cases h2:i=x'
  ·cases b <;> cases b' <;> simp_all [Function.comp]
  ·simp [Function.comp,h1,h2]
   split <;> simp_all
 ·by_cases h2:i=x'
  ·simp [Function.comp,h1,h2]
   split <;> simp_all
  ·simp [Function.comp,h1,h2]
theorem lead_fill_same (to:Int) (o:Bool × Nat) : ∀ (os:List (Bool × Nat)) (L:List Nd),leadN to os (fillN to L o)=fillN to (leadN to os L) o
 | [],L=>rfl
 | q::r,L=>by
  show leadN to r (fillN to (fillN to L o) q)=fillN to (leadN to r (fillN to L q)) o
  rw [fill_same,lead_fill_same to o r]
theorem lead_same (to:Int) : ∀ (os os':List (Bool × Nat)) (L:List Nd),leadN to os (leadN to os' L)=leadN to os' (leadN to os L)
 | os,[],L=>rfl
 | os,q::r,L=>by
  show leadN to os (leadN to r (fillN to L q))=leadN to r (fillN to (leadN to os L) q)
  rw [lead_same to os r,lead_fill_same]
theorem lead_app (to:Int) (os os':List (Bool × Nat)) (L:List Nd):leadN to (os++os') L=leadN to os' (leadN to os L):=by unfold leadN; rw [List.foldl_append]
theorem lead_fill (to to':Int) {o:Bool × Nat} : ∀ (os:List (Bool × Nat)) (L:List Nd),o ∉ os→leadN to os (fillN to' L o)=fillN to' (leadN to os L) o
 | [],L,_=>rfl
 | q::r,L,h=>by
  show leadN to r (fillN to (fillN to' L o) q)=fillN to' (leadN to r (fillN to L q)) o
  rw [fill_other to to' L (fun e=>h (by rw [e]; exact .head _)),lead_fill to to' r _ (fun e=>h (.tail _ e))]
theorem fill_in (to:Int) {L:List Nd} (M:List Nd) {o:Bool × Nat} (h:o.2<L.length):fillN to (L++M) o=fillN to L o++M:=by
 unfold fillN
 rw [List.getElem?_append_left h]
 have e:=List.getElem?_eq_getElem h
 rw [e]
 show (L++M).set _ _=L.set _ _++M
 rw [List.set_append_left _ _ h]
theorem lead_in (to:Int) (M:List Nd) : ∀ (os:List (Bool × Nat)) {L:List Nd},(∀ o ∈ os,o.2<L.length)→leadN to os (L++M)=leadN to os L++M
 | [],L,_=>rfl
 | q::r,L,h=>by
  show leadN to r (fillN to (L++M) q)=leadN to r (fillN to L q)++M
  rw [fill_in to M (h q (.head _)),lead_in to M r (fun o ho=>by rw [fillN_len]; exact h o (.tail _ ho))]
theorem fill_next (to:Int) {A:List Nd} (n:Nd) (B:List Nd) {k:Nat} (h:k=A.length):fillN to (A++n::B) (false,k)=A ++ { n with next:=to }::B:=by
 subst h
 unfold fillN
 have e:(A++n::B)[A.length]? = some n:=by rw [List.getElem?_append_right (Nat.le_refl _),Nat.sub_self]; rfl
 show (match (A++n::B)[A.length]? with | some n=>_ | none=>_)=_
 rw [e]
 show (A++n::B).set A.length { n with next:=to }=_
 rw [List.set_append_right _ _ (Nat.le_refl _),Nat.sub_self]; rfl
theorem fill_els (to:Int) {A:List Nd} (n:Nd) (B:List Nd) {k:Nat} (h:k=A.length):fillN to (A++n::B) (true,k)=A ++ { n with els:=to }::B:=by
 subst h
 unfold fillN
 have e:(A++n::B)[A.length]? = some n:=by rw [List.getElem?_append_right (Nat.le_refl _),Nat.sub_self]; rfl
 show (match (A++n::B)[A.length]? with | some n=>_ | none=>_)=_
 rw [e]
 show (A++n::B).set A.length { n with els:=to }=_
 rw [List.set_append_right _ _ (Nat.le_refl _),Nat.sub_self]; rfl
mutual
def szE (c:LowC):Expr→Nat
 | .mk kind op _ name kids _=>bif kind == 1 then 0 else bif kind == 2 then (bif decide (localI c.p c.t name ≥ 0) then 0 else 1) else bif two op then sz0 c kids+(sz1 c kids+1) else sz0 c kids+1
def sz0 (c:LowC):List Expr→Nat
 | []=>0
 | e::_=>szE c e
def sz1 (c:LowC):List Expr→Nat
 | []=>0
 | _::r=>sz0 c r
end
mutual
def szS (c:LowC):Stmt→Nat
 | .mk kind name _ e body els _=>bif kind == 1 then sz0 c e+1
  else bif kind == 2 then sz0 c e+(bif decide (localI c.p c.t name ≥ 0) then 1 else 2)
  else bif kind == 3 then sz0 c e+(1+(szB c body+szB c els))
  else bif kind == 4 then sz0 c e+(1+szB c body)
  else bif kind == 5 then 1+(szB c body+1)
  else bif kind == 6 then sz0 c e+1 else 0
def szB (c:LowC):List Stmt→Nat
 | []=>0
 | x::r=>szS c x+szB c r
end
mutual
def slS (c:LowC):Stmt→Nat
 | .mk kind name _ e body els _=>bif kind == 1 then sz0 c e
  else bif kind == 2 then sz0 c e+(bif decide (localI c.p c.t name ≥ 0) then 0 else 1)
  else bif kind == 3 then sz0 c e+(slB c body+slB c els)
  else bif kind == 4 then sz0 c e+slB c body
  else bif kind == 5 then slB c body
  else bif kind == 6 then sz0 c e else 0
def slB (c:LowC):List Stmt→Nat
 | []=>0
 | x::r=>slS c x+slB c r
end
def exprV (c:LowC):Expr→Nat→Val
 | .mk kind op word name kids _,m=>bif kind == 1 then ⟨false,0,word⟩ else bif kind == 2 then (bif decide (localI c.p c.t name ≥ 0) then inV (localI c.p c.t name) else inV (m:Nat)) else bif two op then inV ((m+(sz0 c kids+sz1 c kids):Nat):Int) else inV ((m+sz0 c kids:Nat):Int)
theorem exprV_mk (c:LowC) (kind op word:Int) (name:ByteArray) (kids:List Expr) (at_:Int) (m:Nat):exprV c (.mk kind op word name kids at_) m=bif kind == 1 then ⟨false,0,word⟩ else bif kind == 2 then (bif decide (localI c.p c.t name ≥ 0) then inV (localI c.p c.t name) else inV (m:Nat)) else bif two op then inV ((m+(sz0 c kids+sz1 c kids):Nat):Int) else inV ((m+sz0 c kids:Nat):Int):=rfl
def kid0V (c:LowC):List Expr→Nat→Val
 | [],_=>v00
 | e::_,m=>exprV c e m
def kid1V (c:LowC):List Expr→Nat→Val
 | [],_=>v00
 | _::r,m=>kid0V c r m
mutual
def exprD (c:LowC):Expr→Nat→Nat→Nat→List Nd
 | .mk kind op _ name kids _,at_,m,to =>
  bif kind == 1 then []
  else bif kind == 2 then (bif decide (localI c.p c.t name ≥ 0) then [] else [{ nd00 with kind:=2,thing:=findI c.p.shared name 0,slot:=(m:Nat),next:=(to:Nat),origin:=(at_:Nat) }])
  else bif two op then kid0D c kids at_ m (at_+sz0 c kids)++(kid1D c kids (at_+sz0 c kids) (m+sz0 c kids) (at_+(sz0 c kids+sz1 c kids))++[{ nd00 with kind:=1,op:=op,a:=kid0V c kids m,b:=kid1V c kids (m+sz0 c kids),slot:=((m+(sz0 c kids+sz1 c kids):Nat):Int),next:=(to:Nat),origin:=((at_+(sz0 c kids+sz1 c kids):Nat):Int) }])
  else kid0D c kids at_ m (at_+sz0 c kids)++[{ nd00 with kind:=1,op:=op,a:=kid0V c kids m,slot:=((m+sz0 c kids:Nat):Int),next:=(to:Nat),origin:=((at_+sz0 c kids:Nat):Int) }]
def kid0D (c:LowC):List Expr→Nat→Nat→Nat→List Nd
 | [],_,_,_=>[]
 | e::_,at_,m,to=>exprD c e at_ m to
def kid1D (c:LowC):List Expr→Nat→Nat→Nat→List Nd
 | [],_,_,_=>[]
 | _::r,at_,m,to=>kid0D c r at_ m to
end
def giveN (c:LowC) (name:ByteArray) (v:Val) (at_ to:Nat):Nd:=bif decide (localI c.p c.t name ≥ 0) then { nd00 with kind:=1,slot:=localI c.p c.t name,a:=v,next:=(to:Nat),origin:=(at_:Nat) } else { nd00 with kind:=3,thing:=findI c.p.shared name 0,a:=v,next:=(to:Nat),origin:=(at_:Nat) }
def swapD (c:LowC) (name other:ByteArray) (v:Val) (at_ m to:Nat):List Nd:=bif decide (localI c.p c.t name ≥ 0) then [{ nd00 with kind:=4,a:=v,thing:=findI c.p.shared other 0,slot:=localI c.p c.t name,next:=(to:Nat),origin:=(at_:Nat) }]
 else [{ nd00 with kind:=4,a:=v,thing:=findI c.p.shared other 0,slot:=(m:Nat),next:=((at_+1:Nat):Int),origin:=(at_:Nat) },{ nd00 with kind:=3,thing:=findI c.p.shared name 0,a:=inV (m:Nat),next:=(to:Nat),origin:=((at_+1:Nat):Int) }]
def goOn (k here to:Nat):Nat:=bif k == 0 then to else here
mutual
def stmtD (c:LowC):Stmt→Nat→Nat→Nat→List Nd
 | .mk kind name other e body els _,at_,m,to =>
  bif kind == 1 then kid0D c e at_ m (at_+sz0 c e)++[giveN c name (kid0V c e m) (at_+sz0 c e) to]
  else bif kind == 2 then kid0D c e at_ m (at_+sz0 c e)++swapD c name other (kid0V c e m) (at_+sz0 c e) (m+sz0 c e) to
  else bif kind == 3 then kid0D c e at_ m (at_+sz0 c e)++({ nd00 with kind:=8,a:=kid0V c e m,next:=(goOn (szB c body) (at_+sz0 c e+1) to:Nat),els:=(goOn (szB c els) (at_+sz0 c e+1+szB c body) to:Nat),origin:=((at_+sz0 c e:Nat):Int) } ::
   (blockD c body (at_+sz0 c e+1) (m+sz0 c e) to++blockD c els (at_+sz0 c e+1+szB c body) (m+sz0 c e+slB c body) to))
  else bif kind == 4 then kid0D c e at_ m (at_+sz0 c e)++({ nd00 with kind:=8,a:=kid0V c e m,next:=(goOn (szB c body) (at_+sz0 c e+1) at_:Nat),els:=(to:Nat),origin:=((at_+sz0 c e:Nat):Int) }::blockD c body (at_+sz0 c e+1) (m+sz0 c e) at_)
  else bif kind == 5 then { nd00 with kind:=5,thing:=findI c.p.locks name 0,next:=((at_+1:Nat):Int),origin:=(at_:Nat) }::(blockD c body (at_+1) m (at_+1+szB c body)++[{ nd00 with kind:=6,thing:=findI c.p.locks name 0,next:=(to:Nat),origin:=((at_+1+szB c body:Nat):Int) }])
  else bif kind == 6 then kid0D c e at_ m (at_+sz0 c e)++[{ nd00 with kind:=7,a:=kid0V c e m,next:=(to:Nat),origin:=((at_+sz0 c e:Nat):Int) }]
  else []
def blockD (c:LowC):List Stmt→Nat→Nat→Nat→List Nd
 | [],_,_,_=>[]
 | x::r,at_,m,to=>stmtD c x at_ m (goOn (szB c r) (at_+szS c x) to)++blockD c r (at_+szS c x) (m+slS c x) to
end
structure Lw (s s':LowS) (k j:Nat) (D:Nat→List Nd):Prop where
 len:s'.nodes.length=s.nodes.length+k
 slots:s'.slots=s.slots+(j:Nat)
 over:s'.over=false
 lead : ∀ to:Nat,leadN (to:Nat) s'.opens s'.nodes=leadN (goOn k s.nodes.length to:Nat) s.opens s.nodes++D to
 opens : ∀ o ∈ s'.opens,(k=0∧o ∈ s.opens)∨s.nodes.length≤o.2
structure LSt (s:LowS) (m:Nat):Prop where
 slots:s.slots=(m:Nat)
 few:m≤1000+s.nodes.length
 inn:innS s
 cap:s.nodes.length≤4096
 over:s.over=false
theorem Lw.refl {s:LowS} (h:s.over=false):Lw s s 0 0 fun _=>[]:=⟨rfl,by simp,h,fun to=>by rw [List.append_nil]; rfl,fun o ho => .inl ⟨rfl,ho⟩⟩
theorem Lw.cast {s s':LowS} {k j k' j':Nat} {D D':Nat→List Nd} (h:Lw s s' k j D) (hk:k=k') (hj:j=j') (hD : ∀ to,D to=D' to):Lw s s' k' j' D':=by
 subst hk; subst hj
 exact ⟨h.len,h.slots,h.over,fun to=>by rw [← hD]; exact h.lead to,h.opens⟩
theorem goOn_add {k k' at_ to:Nat}:goOn k at_ (goOn k' (at_+k) to)=goOn (k+k') at_ to:=by
 unfold goOn
 cases k with
 | zero =>
  cases k' with
  | zero=>rfl
  | succ n=>show at_+0=(bif 0+(n+1) == 0 then to else at_); rw [show (0+(n+1) == 0)=false by rw [Nat.zero_add]; rfl]; rfl
 | succ n =>
  show at_=(bif n+1+k' == 0 then to else at_)
  rw [show (n+1+k' == 0)=false by rw [Nat.add_right_comm]; rfl]; rfl
theorem Lw.trans {s s1 s2:LowS} {k j k' j':Nat} {D D':Nat→List Nd} (h:Lw s s1 k j D) (h':Lw s1 s2 k' j' D'):Lw s s2 (k+k') (j+j') fun to=>D (goOn k' (s.nodes.length+k) to)++D' to:=by
 refine ⟨by rw [h'.len,h.len]; omega,by rw [h'.slots,h.slots]; omega,h'.over,fun to => ?_,fun o ho => ?_⟩
 ·rw [h'.lead,h.lead,h.len,goOn_add,List.append_assoc]
 ·rcases h'.opens o ho with ⟨e,ho⟩ | ho
  ·rcases h.opens o ho with ⟨e',ho⟩ | ho
   ·exact .inl ⟨by omega,ho⟩
   ·exact .inr ho
  ·rw [h.len] at ho
   exact .inr (by omega)
theorem LSt.step {s s':LowS} {m k j:Nat} {D:Nat→List Nd} (h:LSt s m) (hr:RelS s s') (hl:Lw s s' k j D) (hjk:j≤k):LSt s' (m+j) :=
 ⟨by rw [hl.slots,h.slots]; omega,by rw [hl.len]; have:=h.few; omega,hr.inn h.inn,hr.cap h.cap,hl.over⟩
theorem ov_back {a b:Bool} (h:ov a≤ov b) (hb:b=false):a=false:=by subst hb; cases a; rfl; exact absurd h (by decide)
theorem put_fit {n:Nd} {s:LowS} (h:(putS n s).over=false):decide ((s.nodes.length:Int) ≥ 4096)=false:=by
 cases hb:decide ((s.nodes.length:Int) ≥ 4096) with
 | false=>rfl
 | true=>rw [putS_big n hb] at h; cases h
theorem Lw.put {n:Nd} {s:LowS} (hs:s.over=false) (h:(putS n s).over=false):Lw s (putS n s) 1 0 fun to=>[{ n with origin:=(s.nodes.length:Nat),next:=(to:Nat) }]:=by
 have hb:=put_fit h
 refine ⟨putS_len n hb,?_,h,fun to => ?_,fun o ho => ?_⟩
 ·rw [putS_small n hb]; simp
 ·rw [putS_small n hb]
  show fillN (to:Nat) (leadN s.nodes.length s.opens s.nodes++[{ n with origin:=(s.nodes.length:Nat) }]) (false,s.nodes.length)=_
  rw [fill_next _ _ _ (leadN_len _ _ _).symm]
  rfl
 ·rw [putS_small n hb] at ho
  have ho:o ∈ [(false,s.nodes.length)]:=ho
  rw [List.mem_singleton] at ho
  subst ho
  exact .inr (Nat.le_refl _)
theorem put_int {n:Nd} {s:LowS} (h:(putS n s).over=false):putI s=(s.nodes.length:Nat):=by unfold putI; rw [put_fit h]; rfl
theorem LSt.slot {s:LowS} {m:Nat} (h:LSt s m):slotI s=(m:Nat)∧Lw s (slotS s) 0 1 fun _=>[]:=by
 have h1:=h.few; have h2:=h.cap; have h3:=h.slots
 have e:wI (s.slots+1)=s.slots+1:=w64 (by omega) (by omega)
 refine ⟨?_,rfl,by show wI (s.slots+1)=_; rw [e]; rfl,h.over,fun to=>by rw [List.append_nil]; rfl,fun o ho => .inl ⟨rfl,ho⟩⟩
 unfold slotI
 rw [e,show s.slots+1 - 1=s.slots by omega]
 exact (w64 (n:=s.slots) (by omega) (by omega)).trans h3
theorem goOn_pos (k a to:Nat):goOn (k+1) a to=a:=rfl
theorem goOn_zero (a to:Nat):goOn 0 a to=to:=rfl
mutual
theorem exprS_lw (c:LowC) : ∀ (e:Expr) (s:LowS) (m:Nat),LSt s m→(exprS c e s).1.over=false→Lw s (exprS c e s).1 (szE c e) (szE c e) (exprD c e s.nodes.length m)∧(exprS c e s).2=exprV c e m
 | .mk kind op word name kids _,s,m,h,ho=>by
  have h0:=kid0S_lw c kids s m h
  have h1:=fun s m=>kid1S_lw c kids s m
  have hn0:=fun s=>kid0S_rel c kids s
  have hn1:=fun s=>kid1S_rel c kids s
  unfold exprS at ho ⊢
  unfold szE
  rw [exprV_mk]
  show Lw _ _ _ _ (fun to=>exprD c _ s.nodes.length m to)∧_
  unfold exprD
  cases k1:kind == 1 with
  | true=>exact ⟨.refl h.over,rfl⟩
  | false =>
  rw [k1] at ho
  cases k2:kind == 2 with
  | true =>
   rw [k2] at ho
   cases hl:decide (localI c.p c.t name ≥ 0) with
   | true=>exact ⟨.refl h.over,rfl⟩
   | false =>
    rw [hl] at ho
    obtain ⟨q1,q2⟩:=h.slot
    simp only [cond_true,cond_false] at ho ⊢
    rw [q1] at ho ⊢
    exact ⟨(q2.trans (Lw.put (s:=slotS s) q2.over ho)).cast rfl rfl (fun to=>rfl),rfl⟩
  | false =>
  rw [k2] at ho
  cases ht:two op with
  | true =>
   rw [ht] at ho
   simp only [cond_true,cond_false] at ho ⊢
   have o3:(slotS (kid1S c kids (kid0S c kids s).1).1).over=false:=ov_back (putS_rel _ _).over ho
   have o2:(kid1S c kids (kid0S c kids s).1).1.over=false:=o3
   have o1:(kid0S c kids s).1.over=false:=ov_back (hn1 _).over o2
   obtain ⟨p0,v0⟩:=h0 o1
   have s1:=h.step (hn0 _).toS p0 (Nat.le_refl _)
   obtain ⟨p1,v1⟩:=h1 _ _ s1 o2
   have s2:=s1.step (hn1 _).toS p1 (Nat.le_refl _)
   obtain ⟨q1,q2⟩:=s2.slot
   rw [q1] at ho ⊢
   refine ⟨(p0.trans (p1.trans (q2.trans (Lw.put q2.over ho)))).cast (by omega) (by omega) (fun to => ?_),by rw [Nat.add_assoc]⟩
   have e0:(kid0S c kids s).1.nodes.length=s.nodes.length+sz0 c kids:=p0.len
   have e1:(slotS (kid1S c kids (kid0S c kids s).1).1).nodes.length=s.nodes.length+(sz0 c kids+sz1 c kids):=by show (kid1S c kids (kid0S c kids s).1).1.nodes.length=_; rw [p1.len,e0]; omega
   rw [v0,v1,e0,e1,show sz1 c kids+(0+1)=sz1 c kids+1 by omega,goOn_pos,goOn_pos,Nat.add_assoc m,Nat.add_assoc s.nodes.length]
   rfl
  | false =>
   rw [ht] at ho
   simp only [cond_true,cond_false] at ho ⊢
   have o1':(slotS (kid0S c kids s).1).over=false:=ov_back (putS_rel _ _).over ho
   have o1:(kid0S c kids s).1.over=false:=o1'
   obtain ⟨p0,v0⟩:=h0 o1
   have s1:=h.step (hn0 _).toS p0 (Nat.le_refl _)
   obtain ⟨q1,q2⟩:=s1.slot
   rw [q1] at ho ⊢
   refine ⟨(p0.trans (q2.trans (Lw.put q2.over ho))).cast (by omega) (by omega) (fun to => ?_),rfl⟩
   have e0:(slotS (kid0S c kids s).1).nodes.length=s.nodes.length+sz0 c kids:=p0.len
   rw [v0,e0]
   rfl
theorem kid0S_lw (c:LowC) : ∀ (l:List Expr) (s:LowS) (m:Nat),LSt s m→(kid0S c l s).1.over=false→Lw s (kid0S c l s).1 (sz0 c l) (sz0 c l) (kid0D c l s.nodes.length m)∧(kid0S c l s).2=kid0V c l m
 | [],s,m,h,ho=>by
  unfold kid0S sz0 kid0V
  refine ⟨(Lw.refl h.over).cast rfl rfl (fun to => ?_),rfl⟩
  unfold kid0D; rfl
 | e::r,s,m,h,ho=>by
  have:=exprS_lw c e s m h (by unfold kid0S at ho; exact ho)
  unfold kid0S sz0 kid0V
  refine ⟨this.1.cast rfl rfl (fun to => ?_),this.2⟩
  rw [kid0D]
theorem kid1S_lw (c:LowC) : ∀ (l:List Expr) (s:LowS) (m:Nat),LSt s m→(kid1S c l s).1.over=false→Lw s (kid1S c l s).1 (sz1 c l) (sz1 c l) (kid1D c l s.nodes.length m)∧(kid1S c l s).2=kid1V c l m
 | [],s,m,h,ho=>by
  unfold kid1S sz1 kid1V
  refine ⟨(Lw.refl h.over).cast rfl rfl (fun to => ?_),rfl⟩
  unfold kid1D; rfl
 | e::r,s,m,h,ho=>by
  have:=kid0S_lw c r s m h (by unfold kid1S at ho; exact ho)
  unfold kid1S sz1 kid1V
  refine ⟨this.1.cast rfl rfl (fun to => ?_),this.2⟩
  rw [kid1D]
end
end Go.Proofs.YthboippafkcoiaaDoor.am
namespace Go.Proofs.YthboippafkcoiaaDoor.am
open Go Go.Proofs
set_option linter.all false
theorem giveS_lw (c:LowC) (name:ByteArray) (v:Val) {s:LowS} {m:Nat} (h:LSt s m) (ho:(giveS c name v s).over=false):Lw s (giveS c name v s) 1 0 fun to=>[giveN c name v s.nodes.length to]:=by
 unfold giveS at ho ⊢
 unfold giveN
 cases hl:decide (localI c.p c.t name ≥ 0) with
 | true =>
  rw [hl] at ho
  exact (Lw.put h.over ho).cast rfl rfl fun to=>rfl
 | false =>
  rw [hl] at ho
  exact (Lw.put h.over ho).cast rfl rfl fun to=>rfl
theorem swapS_lw (c:LowC) (name other:ByteArray) (v:Val) {s:LowS} {m:Nat} (h:LSt s m) (ho:(swapS c name other v s).over=false):Lw s (swapS c name other v s) (bif decide (localI c.p c.t name ≥ 0) then 1 else 2) (bif decide (localI c.p c.t name ≥ 0) then 0 else 1) fun to=>swapD c name other v s.nodes.length m to:=by
 unfold swapS at ho ⊢
 unfold swapD
 cases hl:decide (localI c.p c.t name ≥ 0) with
 | true =>
  rw [hl] at ho
  exact (Lw.put h.over ho).cast rfl rfl fun to=>rfl
 | false =>
  rw [hl] at ho
  simp only [cond_false] at ho ⊢
  obtain ⟨q1,q2⟩:=h.slot
  rw [q1] at ho ⊢
  have o1:(putS { nd00 with kind:=4,a:=v,thing:=findI c.p.shared other 0,slot:=(m:Nat) } (slotS s)).over=false:=ov_back (giveS_rel c _ _ _).over ho
  have p1:=q2.trans (Lw.put q2.over o1)
  have s1:=h.step ((slotS_rel s).trans (putS_rel _ _)).toS p1 (by omega)
  refine (p1.trans (giveS_lw c name _ s1 ho)).cast (by omega) (by omega) fun to => ?_
  rw [p1.len]
  unfold giveN
  rw [hl]
  rfl
theorem cond_lw {s s1 s2 s3 s5:LowS} {n:Nd} {k j kb jb ke je:Nat} {DX DB DE:Nat→List Nd} (h1:Lw s s1 k j DX) (hi1:innS s1) (h2:s2=putS n s1) (h2o:s2.over=false) (h3:Lw s2 s3 kb jb DB) (hi3:innS s3)
  (h5:Lw (openS [(true,s1.nodes.length)] s3) s5 ke je DE) (h5o:s5.over=false) :
  Lw s (openS (s3.opens++s5.opens) s5) (k+(1+(kb+ke))) (j+(jb+je)) fun to=>DX s1.nodes.length++({ n with origin:=(s1.nodes.length:Nat),next:=(goOn kb (s1.nodes.length+1) to:Nat),els:=(goOn ke (s1.nodes.length+1+kb) to:Nat) }::(DB to++DE to)):=by
 subst h2
 have hb:=put_fit h2o
 have p2:=putS_len n hb
 have l3:=h3.len
 have l5:=h5.len
 have l3':(openS [(true,s1.nodes.length)] s3).nodes.length=s3.nodes.length:=rfl
 have sl2:(putS n s1).slots=s1.slots:=by rw [putS_small n hb]
 have hop2:(putS n s1).opens=[(false,s1.nodes.length)]:=by rw [putS_small n hb]
 have hnot:(true,s1.nodes.length) ∉ s3.opens:=fun q=>by
  rcases h3.opens _ q with ⟨_,q⟩ | q
  ·rw [hop2] at q
   rw [List.mem_singleton] at q
   cases q
  ·rw [p2] at q
   exact absurd q (by show ¬ (s1.nodes.length+1≤s1.nodes.length); omega)
 refine ⟨?_,?_,h5o,fun to => ?_,fun o hm => ?_⟩
 ·show s5.nodes.length=_
  rw [l5,l3',l3,p2,h1.len]; omega
 ·show s5.slots=_
  have:(openS [(true,s1.nodes.length)] s3).slots=s3.slots:=rfl
  rw [h5.slots,this,h3.slots,sl2,h1.slots]; omega
 ·show leadN (to:Nat) (s3.opens++s5.opens) s5.nodes=_
  rw [lead_app,lead_same,h5.lead]
  show leadN (to:Nat) s3.opens (fillN (goOn ke s3.nodes.length to:Nat) s3.nodes (true,s1.nodes.length)++DE to)=_
  rw [lead_in _ _ _ (fun o ho=>by rw [fillN_len]; exact hi3 o ho),lead_fill _ _ _ _ hnot,h3.lead,hop2,p2,l3,p2]
  show fillN _ (fillN _ (putS n s1).nodes (false,s1.nodes.length)++DB to) (true,s1.nodes.length)++DE to=_
  rw [putS_small n hb]
  show fillN _ (fillN _ (leadN s1.nodes.length s1.opens s1.nodes++[{ n with origin:=(s1.nodes.length:Nat) }]) (false,s1.nodes.length)++DB to) (true,s1.nodes.length)++DE to=_
  rw [fill_next _ _ _ (leadN_len _ _ _).symm,List.append_assoc,List.cons_append,List.nil_append,fill_els _ _ _ (leadN_len _ _ _).symm,h1.lead]
  have e:goOn k s.nodes.length s1.nodes.length=goOn (k+(1+(kb+ke))) s.nodes.length to:=by
   rw [← goOn_add,show 1+(kb+ke)=kb+ke+1 by omega,goOn_pos,h1.len]
  rw [e]
  simp only [List.append_assoc,List.cons_append]
 ·have hm:o ∈ s3.opens++s5.opens:=hm
  have n1:=h1.len
  rcases List.mem_append.1 hm with hm | hm
  ·rcases h3.opens o hm with ⟨_,hm⟩ | hm
   ·rw [hop2,List.mem_singleton] at hm
    subst hm
    exact .inr (show s.nodes.length≤s1.nodes.length by omega)
   ·exact .inr (by omega)
  ·rcases h5.opens o hm with ⟨_,hm⟩ | hm
   ·have hm:o ∈ [(true,s1.nodes.length)]:=hm
    rw [List.mem_singleton] at hm
    subst hm
    exact .inr (show s.nodes.length≤s1.nodes.length by omega)
   ·exact .inr (by omega)
theorem loop_lw {s s1 s2 s3:LowS} {n:Nd} {k j kb jb:Nat} {DX DB:Nat→List Nd} (h1:Lw s s1 k j DX) (h2:s2=putS n s1) (h2o:s2.over=false) (h3:Lw s2 s3 kb jb DB) :
  Lw s { s3 with nodes:=leadN s.nodes.length s3.opens s3.nodes,opens:=[(true,s1.nodes.length)],over:=false } (k+(1+kb)) (j+jb) fun to=>DX s1.nodes.length++({ n with origin:=(s1.nodes.length:Nat),next:=(goOn kb (s1.nodes.length+1) s.nodes.length:Nat),els:=(to:Nat) }::DB s.nodes.length):=by
 subst h2
 have hb:=put_fit h2o
 have p2:=putS_len n hb
 have l3:=h3.len
 have sl2:(putS n s1).slots=s1.slots:=by rw [putS_small n hb]
 have hop2:(putS n s1).opens=[(false,s1.nodes.length)]:=by rw [putS_small n hb]
 refine ⟨?_,?_,rfl,fun to => ?_,fun o hm => ?_⟩
 ·show (leadN _ _ _).length=_
  rw [leadN_len,l3,p2,h1.len]; omega
 ·show s3.slots=_
  rw [h3.slots,sl2,h1.slots]; omega
 ·show fillN (to:Nat) (leadN s.nodes.length s3.opens s3.nodes) (true,s1.nodes.length)=_
  rw [h3.lead,hop2,p2]
  show fillN _ (fillN _ (putS n s1).nodes (false,s1.nodes.length)++DB s.nodes.length) (true,s1.nodes.length)=_
  rw [putS_small n hb]
  show fillN _ (fillN _ (leadN s1.nodes.length s1.opens s1.nodes++[{ n with origin:=(s1.nodes.length:Nat) }]) (false,s1.nodes.length)++DB s.nodes.length) (true,s1.nodes.length)=_
  rw [fill_next _ _ _ (leadN_len _ _ _).symm,List.append_assoc,List.cons_append,List.nil_append,fill_els _ _ _ (leadN_len _ _ _).symm,h1.lead]
  have e:goOn k s.nodes.length s1.nodes.length=goOn (k+(1+kb)) s.nodes.length to:=by
   rw [← goOn_add,show 1+kb=kb+1 by omega,goOn_pos,h1.len]
  rw [e,List.append_assoc]
 ·have hm:o ∈ [(true,s1.nodes.length)]:=hm
  have n1:=h1.len
  rw [List.mem_singleton] at hm
  subst hm
  exact .inr (show s.nodes.length≤s1.nodes.length by omega)
theorem lt_of_len {a b k:Nat} (h:b=a+1+k):a<b:=by omega
mutual
theorem slS_le (c:LowC) : ∀ x:Stmt,slS c x≤szS c x
 | .mk kind name _ e body els _=>by
  have h1:=slB_le c body
  have h2:=slB_le c els
  unfold slS szS
  cases kind == 1 <;> cases kind == 2 <;> cases kind == 3 <;> cases kind == 4 <;> cases kind == 5 <;> cases kind == 6 <;> cases decide (localI c.p c.t name ≥ 0) <;> simp only [cond_true,cond_false] <;> omega
theorem slB_le (c:LowC) : ∀ l:List Stmt,slB c l≤szB c l
 | []=>by unfold slB szB; exact Nat.le_refl _
 | x::r=>by
  have h1:=slS_le c x
  have h2:=slB_le c r
  unfold slB szB
  omega
end
mutual
theorem stmtS_lw (c:LowC) : ∀ (x:Stmt) (s:LowS) (m:Nat),LSt s m→(stmtS c x s).over=false→Lw s (stmtS c x s) (szS c x) (slS c x) (stmtD c x s.nodes.length m)
 | .mk kind name other e body els _,s,m,h,ho=>by
  have h0:=kid0S_lw c e s m h
  have hn0:=kid0S_rel c e s
  have hb:=fun s m=>blockS_lw c body s m
  have hl:=fun s m=>blockS_lw c els s m
  have rb:=fun s=>blockS_rel c body s
  have rl:=fun s=>blockS_rel c els s
  have lb:=slB_le c body
  unfold stmtS at ho ⊢
  unfold szS slS
  show Lw _ _ _ _ (fun to=>stmtD c _ s.nodes.length m to)
  unfold stmtD
  cases k1:kind == 1 with
  | true =>
   rw [k1] at ho
   simp only [cond_true,cond_false] at ho ⊢
   obtain ⟨p0,v0⟩:=h0 (ov_back (giveS_rel c _ _ _).over ho)
   have s1:=h.step hn0.toS p0 (Nat.le_refl _)
   refine (p0.trans (giveS_lw c name _ s1 ho)).cast rfl rfl fun to => ?_
   rw [v0,p0.len]; rfl
  | false =>
  rw [k1] at ho
  cases k2:kind == 2 with
  | true =>
   rw [k2] at ho
   simp only [cond_true,cond_false] at ho ⊢
   obtain ⟨p0,v0⟩:=h0 (ov_back (swapS_rel c _ _ _ _).over ho)
   have s1:=h.step hn0.toS p0 (Nat.le_refl _)
   refine (p0.trans (swapS_lw c name other _ s1 ho)).cast rfl rfl fun to => ?_
   rw [v0,p0.len]
   cases decide (localI c.p c.t name ≥ 0) <;> rfl
  | false =>
  rw [k2] at ho
  cases k3:kind == 3 with
  | true =>
   rw [k3] at ho
   simp only [cond_true,cond_false] at ho ⊢
   have o5:=ho
   have o3:=ov_back (rl _).over ho
   have o2:=ov_back (rb _).over o3
   have o1:=ov_back (putS_rel _ _).over o2
   obtain ⟨p0,v0⟩:=h0 o1
   have s1:=h.step hn0.toS p0 (Nat.le_refl _)
   have p1:=Lw.put s1.over o2
   have s2:=s1.step (putS_rel _ _).toS p1 (by omega)
   have p2:=hb _ _ s2 o3
   have s3:=s2.step (rb _) p2 lb
   have e1:(putI (kid0S c e s).1).toNat=(kid0S c e s).1.nodes.length:=by rw [put_int o2,Int.toNat_natCast]
   have hin:innS (openS [(true,(putI (kid0S c e s).1).toNat)] (blockS c body (putS { nd00 with kind:=8,a:=(kid0S c e s).2 } (kid0S c e s).1))):=fun o hm=>by
    have hm:o ∈ [(true,(putI (kid0S c e s).1).toNat)]:=hm
    rw [List.mem_singleton] at hm
    subst hm
    show (putI (kid0S c e s).1).toNat<(blockS c body (putS { nd00 with kind:=8,a:=(kid0S c e s).2 } (kid0S c e s).1)).nodes.length
    rw [e1]
    exact lt_of_len (p2.len.trans (congrArg (· + szB c body) p1.len))
   have s3':LSt (openS [(true,(putI (kid0S c e s).1).toNat)] (blockS c body (putS { nd00 with kind:=8,a:=(kid0S c e s).2 } (kid0S c e s).1))) (m+sz0 c e+0+slB c body):=⟨s3.slots,s3.few,hin,s3.cap,s3.over⟩
   have p3:=hl _ _ s3' o5
   rw [e1] at p3 ⊢
   refine (cond_lw p0 s1.inn rfl o2 p2 s3.inn p3 ?_).cast rfl rfl fun to => ?_
   ·have:=o5; rw [e1] at this; exact this
   ·have n3:(openS [(true,(kid0S c e s).1.nodes.length)] (blockS c body (putS { nd00 with kind:=8,a:=(kid0S c e s).2 } (kid0S c e s).1))).nodes.length=s.nodes.length+sz0 c e+1+szB c body:=p2.len.trans (by rw [p1.len,p0.len])
    rw [n3,p1.len,p0.len,v0]; rfl
  | false =>
  rw [k3] at ho
  cases k4:kind == 4 with
  | true =>
   rw [k4] at ho
   simp only [cond_true,cond_false] at ho ⊢
   have o3:(blockS c body (putS { nd00 with kind:=8,a:=(kid0S c e s).2 } (kid0S c e s).1)).over=false:=by
    cases hv:(blockS c body (putS { nd00 with kind:=8,a:=(kid0S c e s).2 } (kid0S c e s).1)).over with
    | false=>rfl
    | true=>rw [hv,cond_true,hv] at ho; cases ho
   have o2:=ov_back (rb _).over o3
   have o1:=ov_back (putS_rel _ _).over o2
   obtain ⟨p0,v0⟩:=h0 o1
   have s1:=h.step hn0.toS p0 (Nat.le_refl _)
   have p1:=Lw.put s1.over o2
   have s2:=s1.step (putS_rel _ _).toS p1 (by omega)
   have p2:=hb _ _ s2 o3
   have e1:(putI (kid0S c e s).1).toNat=(kid0S c e s).1.nodes.length:=by rw [put_int o2,Int.toNat_natCast]
   rw [o3,cond_false,e1]
   refine (loop_lw p0 rfl o2 p2).cast rfl rfl fun to => ?_
   rw [p1.len,p0.len,v0]; rfl
  | false =>
  rw [k4] at ho
  cases k5:kind == 5 with
  | true =>
   rw [k5] at ho
   simp only [cond_true,cond_false] at ho ⊢
   have o2:=ov_back (putS_rel _ _).over ho
   have o1:=ov_back (rb _).over o2
   have p0:=Lw.put h.over o1
   have s1:=h.step (putS_rel _ _).toS p0 (by omega)
   have p1:=hb _ _ s1 o2
   have s2:=s1.step (rb _) p1 lb
   have p2:=Lw.put s2.over ho
   refine (p0.trans (p1.trans p2)).cast rfl (by omega) fun to => ?_
   rw [p1.len,p0.len,goOn_pos,goOn_pos]
   rfl
  | false =>
  rw [k5] at ho
  cases k6:kind == 6 with
  | true =>
   rw [k6] at ho
   simp only [cond_true,cond_false] at ho ⊢
   obtain ⟨p0,v0⟩:=h0 (ov_back (putS_rel _ _).over ho)
   have s1:=h.step hn0.toS p0 (Nat.le_refl _)
   refine (p0.trans (Lw.put s1.over ho)).cast rfl rfl fun to => ?_
   rw [v0,p0.len]; rfl
  | false=>exact .refl h.over
theorem blockS_lw (c:LowC) : ∀ (l:List Stmt) (s:LowS) (m:Nat),LSt s m→(blockS c l s).over=false→Lw s (blockS c l s) (szB c l) (slB c l) (blockD c l s.nodes.length m)
 | [],s,m,h,ho=>by
  unfold blockS szB slB
  refine (Lw.refl h.over).cast rfl rfl fun to => ?_
  unfold blockD; rfl
 | x::r,s,m,h,ho=>by
  have hx:=stmtS_lw c x s m h
  have hr:=fun s m=>blockS_lw c r s m
  unfold blockS at ho ⊢
  rw [h.over,cond_false] at ho ⊢
  have o1:=ov_back (blockS_rel c r _).over ho
  have p1:=hx o1
  have s1:=h.step (stmtS_rel c x s h.over) p1 (slS_le c x)
  unfold szB slB
  refine (p1.trans (hr _ _ s1 ho)).cast rfl rfl fun to => ?_
  rw [p1.len]
  show _=blockD c (x::r) _ _ _
  rw [blockD]
end
def locN (th:Thread):Nat:=(th.locals.map Decl.cells).length
def thrD (p:Prg) (t:Nat) (th:Thread):List Nd:=blockD (thrC p t th) th.body 0 (locN th) (szB (thrC p t th) th.body)++[{ nd00 with kind:=9,origin:=(szB (thrC p t th) th.body:Nat) }]
def thrG (p:Prg) (t:Nat) (th:Thread):Gr:=⟨th.name,(locN th:Nat),(locN th+slB (thrC p t th) th.body:Nat),thrD p t th⟩
theorem low0_st (th:Thread) (hl:th.locals.length≤64):LSt (low0 th) (locN th):=⟨rfl,by unfold locN; rw [List.length_map]; omega,fun o h=>(by cases h),Nat.zero_le _,rfl⟩
theorem thr_lw (p:Prg) (t:Nat) (th:Thread) (hl:th.locals.length≤64) (ho:(endS (blockS (thrC p t th) th.body (low0 th))).over=false):grS (thrC p t th) (endS (blockS (thrC p t th) th.body (low0 th)))=thrG p t th∧szB (thrC p t th) th.body<4096:=by
 have o1:(blockS (thrC p t th) th.body (low0 th)).over=false:=ov_back (endS_rel _).over ho
 have p1:=blockS_lw (thrC p t th) th.body (low0 th) (locN th) (low0_st th hl) o1
 have l0:(low0 th).nodes.length=0:=rfl
 have l1:(blockS (thrC p t th) th.body (low0 th)).nodes.length=szB (thrC p t th) th.body:=by rw [p1.len,l0,Nat.zero_add]
 have sl:(blockS (thrC p t th) th.body (low0 th)).slots=((locN th+slB (thrC p t th) th.body:Nat):Int):=by rw [p1.slots]; show ((locN th:Nat):Int)+_=_; omega
 have ld:=p1.lead (szB (thrC p t th) th.body)
 rw [show leadN (goOn (szB (thrC p t th) th.body) (low0 th).nodes.length (szB (thrC p t th) th.body):Nat) (low0 th).opens (low0 th).nodes=[] from rfl,List.nil_append,l0] at ld
 generalize blockS (thrC p t th) th.body (low0 th)=S at ho o1 l1 sl ld
 unfold endS at ho ⊢
 rw [o1,cond_false] at ho ⊢
 have hb:=put_fit ho
 have hlt:=of_decide_eq_false hb
 refine ⟨?_,by omega⟩
 rw [putS_small _ hb]
 unfold grS thrG thrD
 show (⟨_,_,S.slots,zeroLast (leadN S.nodes.length S.opens S.nodes++[_])⟩:Gr)=_
 rw [sl,l1,ld]
 have hz : ∀ (A:List Nd) (n:Nd),n.next=0→zeroLast (A++[n])=A++[n]:=fun A n hn=>by
  have e:(A++[n]).length - 1=A.length:=by rw [List.length_append]; rfl
  unfold zeroLast
  rw [e,show (A++[n])[A.length]? = some n by rw [List.getElem?_append_right (Nat.le_refl _),Nat.sub_self]; rfl]
  show (A++[n]).set A.length { n with next:=0 }=_
  rw [List.set_append_right _ _ (Nat.le_refl _),Nat.sub_self]
  obtain ⟨_,_,_,_,_,_,nx,_,_⟩:=n
  simp only at hn
  subst hn
  rfl
 rw [hz _ _ rfl]
 rfl
end Go.Proofs.YthboippafkcoiaaDoor.am
namespace Go.Proofs.YthboippafkcoiaaDoor.am
open Go Go.Proofs
set_option linter.all false
inductive Sk where
 | line (k:Nat)
 | seq (s t:Sk)
 | cond (s t:Sk)
 | loop (k:Nat) (t:Sk)
def Sk.size:Sk→Nat
 | .line k=>k
 | .seq s t=>s.size+t.size
 | .cond s t=>1+(s.size+t.size)
 | .loop k t=>k+(1+t.size)
def brN (x y:Nat):List Nat:=bif y != x then [x,y] else [x]
theorem mem_br {x y z:Nat}:z ∈ brN x y↔z=x∨z=y:=by
 unfold brN
 cases h:y != x with
 | true=>simp
 | false =>
  have:y=x:=by simpa using h
  subst this
  simp
def SkFit (f:Nat→List Nat):Sk→Nat→Nat→Prop
 | .line k,a,to => ∀ i,i<k→f (a+i)=[goOn (k - (i+1)) (a+i+1) to]
 | .seq s t,a,to=>SkFit f s a (goOn t.size (a+s.size) to)∧SkFit f t (a+s.size) to
 | .cond s t,a,to=>f a=brN (goOn s.size (a+1) to) (goOn t.size (a+1+s.size) to)∧SkFit f s (a+1) to∧SkFit f t (a+1+s.size) to
 | .loop k t,a,to=>(∀ i,i<k→f (a+i)=[a+i+1])∧f (a+k)=brN (goOn t.size (a+k+1) a) to∧SkFit f t (a+k+1) a
theorem goOn_of_pos {k a to:Nat} (h:0<k):goOn k a to=a:=by
 cases k with
 | zero=>omega
 | succ n=>rfl
theorem goOn_cases (k a to:Nat):(k=0∧goOn k a to=to)∨(0<k∧goOn k a to=a):=by
 cases k with
 | zero=>exact .inl ⟨rfl,rfl⟩
 | succ n=>exact .inr ⟨Nat.succ_pos _,rfl⟩
inductive Fw (f:Nat→List Nat) (a:Nat):Nat→Prop
 | refl:Fw f a a
 | step {x y:Nat}:Fw f a x→y ∈ f x→x<y→Fw f a y
theorem Fw.trans {f:Nat→List Nat} {a b c:Nat} (h:Fw f a b) (h':Fw f b c):Fw f a c:=by
 induction h' with
 | refl=>exact h
 | step _ m l ih=>exact .step ih m l
theorem fits_fw {f:Nat→List Nat} : ∀ (sk:Sk) (a to:Nat),SkFit f sk a to→(∀ i,i<sk.size→Fw f a (a+i))∧(0<sk.size→a+sk.size≤to→Fw f a to)
 | .line k,a,to,h=>by
  have h1 : ∀ i,i<k→Fw f a (a+i):=by
   intro i
   induction i with
   | zero=>intro _; exact .refl
   | succ n ih =>
    intro hn
    have e:=h n (by omega)
    rw [goOn_of_pos (by omega)] at e
    exact .step (ih (by omega)) (by rw [e]; exact .head _) (by omega)
  refine ⟨h1,fun hk ht => ?_⟩
  have hk:0<k:=hk
  have ht:a+k≤to:=ht
  have e:=h (k - 1) (by omega)
  rw [show k - (k - 1+1)=0 by omega,goOn_zero] at e
  exact .step (h1 (k - 1) (by omega)) (by rw [e]; exact .head _) (by omega)
 | .seq s t,a,to,h=>by
  obtain ⟨hs,ht⟩:=h
  obtain ⟨s1,s2⟩:=fits_fw s a _ hs
  obtain ⟨t1,t2⟩:=fits_fw t _ _ ht
  have hm:0<t.size→Fw f a (a+s.size):=fun q=>by
   rw [goOn_of_pos q] at s2
   rcases Nat.eq_zero_or_pos s.size with e | e
   ·rw [e]; exact .refl
   ·exact s2 e (Nat.le_refl _)
  refine ⟨fun i hi => ?_,fun hp hto => ?_⟩
  ·have hi:i<s.size+t.size:=hi
   by_cases q:i<s.size
   ·exact s1 i q
   ·have:=t1 (i - s.size) (by omega)
    rw [show a+s.size+(i - s.size)=a+i by omega] at this
    exact (hm (by omega)).trans this
  ·have hp:0<s.size+t.size:=hp
   have hto:a+(s.size+t.size)≤to:=hto
   rcases goOn_cases t.size (a+s.size) to with ⟨e,e'⟩ | ⟨e,e'⟩
   ·rw [e'] at s2
    exact s2 (by omega) (by omega)
   ·exact (hm e).trans (t2 e (by omega))
 | .cond s t,a,to,h=>by
  obtain ⟨h0,hs,ht⟩:=h
  obtain ⟨s1,s2⟩:=fits_fw s _ _ hs
  obtain ⟨t1,t2⟩:=fits_fw t _ _ ht
  have g1:0<s.size→Fw f a (a+1):=fun q => .step .refl (by rw [h0,goOn_of_pos q]; exact mem_br.2 (.inl rfl)) (by omega)
  have g2:0<t.size→Fw f a (a+1+s.size):=fun q => .step .refl (by rw [h0,goOn_of_pos q]; exact mem_br.2 (.inr rfl)) (by omega)
  refine ⟨fun i hi => ?_,fun hp hto => ?_⟩
  ·have hi:i<1+(s.size+t.size):=hi
   by_cases q0:i=0
   ·subst q0; exact .refl
   by_cases q:i<1+s.size
   ·have:=s1 (i - 1) (by omega)
    rw [show a+1+(i - 1)=a+i by omega] at this
    exact (g1 (by omega)).trans this
   ·have:=t1 (i - 1 - s.size) (by omega)
    rw [show a+1+s.size+(i - 1 - s.size)=a+i by omega] at this
    exact (g2 (by omega)).trans this
  ·have hto:a+(1+(s.size+t.size))≤to:=hto
   rcases Nat.eq_zero_or_pos s.size with e | e
   ·refine .step .refl (y:=to) ?_ (by omega)
    rw [h0,e,goOn_zero]
    exact mem_br.2 (.inl rfl)
   ·exact (g1 e).trans (s2 e (by omega))
 | .loop k t,a,to,h=>by
  obtain ⟨h0,hb,ht⟩:=h
  obtain ⟨t1,t2⟩:=fits_fw t _ _ ht
  have g : ∀ i,i≤k→Fw f a (a+i):=by
   intro i
   induction i with
   | zero=>intro _; exact .refl
   | succ n ih=>intro hn; exact .step (ih (by omega)) (by rw [h0 n (by omega)]; exact .head _) (by omega)
  refine ⟨fun i hi => ?_,fun hp hto => ?_⟩
  ·have hi:i<k+(1+t.size):=hi
   by_cases q:i≤k
   ·exact g i q
   ·have h1:Fw f a (a+k+1) := .step (g k (Nat.le_refl _)) (by rw [hb,goOn_of_pos (by omega)]; exact mem_br.2 (.inl rfl)) (by omega)
    have:=t1 (i - k - 1) (by omega)
    rw [show a+k+1+(i - k - 1)=a+i by omega] at this
    exact h1.trans this
  ·have hto:a+(k+(1+t.size))≤to:=hto
   exact .step (g k (Nat.le_refl _)) (by rw [hb]; exact mem_br.2 (.inr rfl)) (by omega)
theorem fits_in {f:Nat→List Nat} : ∀ (sk:Sk) (a to:Nat),SkFit f sk a to → ∀ i b,a≤i→i<a+sk.size→b ∈ f i→(a≤b∧b<a+sk.size)∨b=to
 | .line k,a,to,h,i,b,h1,h2,hb=>by
  have h2:i<a+k:=h2
  have e:=h (i - a) (by omega)
  rw [show a+(i - a)=i by omega] at e
  rw [e,List.mem_singleton] at hb
  show (a≤b∧b<a+k)∨b=to
  rcases goOn_cases (k - (i - a+1)) (i+1) to with ⟨q,q'⟩ | ⟨q,q'⟩
  ·rw [q'] at hb; exact .inr hb
  ·rw [q'] at hb; exact .inl (by omega)
 | .seq s t,a,to,h,i,b,h1,h2,hb=>by
  have h2:i<a+(s.size+t.size):=h2
  show (a≤b∧b<a+(s.size+t.size))∨b=to
  by_cases q:i<a+s.size
  ·rcases fits_in s _ _ h.1 i b h1 q hb with w | w
   ·exact .inl (by omega)
   ·rcases goOn_cases t.size (a+s.size) to with ⟨r,r'⟩ | ⟨r,r'⟩
    ·exact .inr (w.trans r')
    ·rw [r'] at w; exact .inl (by omega)
  ·rcases fits_in t _ _ h.2 i b (by omega) (by omega) hb with w | w
   ·exact .inl (by omega)
   ·exact .inr w
 | .cond s t,a,to,h,i,b,h1,h2,hb=>by
  have h2:i<a+(1+(s.size+t.size)):=h2
  show (a≤b∧b<a+(1+(s.size+t.size)))∨b=to
  obtain ⟨h0,hs,ht⟩:=h
  by_cases q0:i=a
  ·subst q0
   rw [h0] at hb
   rcases mem_br.1 hb with w | w
   ·rcases goOn_cases s.size (i+1) to with ⟨r,r'⟩ | ⟨r,r'⟩
    ·exact .inr (w.trans r')
    ·rw [r'] at w; exact .inl (by omega)
   ·rcases goOn_cases t.size (i+1+s.size) to with ⟨r,r'⟩ | ⟨r,r'⟩
    ·exact .inr (w.trans r')
    ·rw [r'] at w; exact .inl (by omega)
  by_cases q:i<a+1+s.size
  ·rcases fits_in s _ _ hs i b (by omega) q hb with w | w
   ·exact .inl (by omega)
   ·exact .inr w
  ·rcases fits_in t _ _ ht i b (by omega) (by omega) hb with w | w
   ·exact .inl (by omega)
   ·exact .inr w
 | .loop k t,a,to,h,i,b,h1,h2,hb=>by
  have h2:i<a+(k+(1+t.size)):=h2
  show (a≤b∧b<a+(k+(1+t.size)))∨b=to
  obtain ⟨h0,hbr,ht⟩:=h
  by_cases q0:i<a+k
  ·have e:=h0 (i - a) (by omega)
   rw [show a+(i - a)=i by omega] at e
   rw [e,List.mem_singleton] at hb
   exact .inl (by omega)
  by_cases q1:i=a+k
  ·subst q1
   rw [hbr] at hb
   rcases mem_br.1 hb with w | w
   ·rcases goOn_cases t.size (a+k+1) a with ⟨r,r'⟩ | ⟨r,r'⟩ <;> rw [r'] at w <;> exact .inl (by omega)
   ·exact .inr w
  ·rcases fits_in t _ _ ht i b (by omega) (by omega) hb with w | w
   ·exact .inl (by omega)
   ·exact .inl (by omega)
def Lp:Sk→Nat→Nat→Nat→Prop
 | .line _,_,_,_=>False
 | .seq s t,a,h,e=>Lp s a h e∨Lp t (a+s.size) h e
 | .cond s t,a,h,e=>Lp s (a+1) h e∨Lp t (a+1+s.size) h e
 | .loop k t,a,h,e=>(h=a∧e=a+(k+(1+t.size)))∨Lp t (a+k+1) h e
theorem lp_in : ∀ (sk:Sk) (a h e:Nat),Lp sk a h e→a≤h∧h<e∧e≤a+sk.size
 | .line _,_,_,_,q=>q.elim
 | .seq s t,a,h,e,q=>by
  show a≤h∧h<e∧e≤a+(s.size+t.size)
  rcases q with q | q
  ·have:=lp_in s _ _ _ q; omega
  ·have:=lp_in t _ _ _ q; omega
 | .cond s t,a,h,e,q=>by
  show a≤h∧h<e∧e≤a+(1+(s.size+t.size))
  rcases q with q | q
  ·have:=lp_in s _ _ _ q; omega
  ·have:=lp_in t _ _ _ q; omega
 | .loop k t,a,h,e,q=>by
  show a≤h∧h<e∧e≤a+(k+(1+t.size))
  rcases q with q | q
  ·omega
  ·have:=lp_in t _ _ _ q; omega
theorem fits_back {f:Nat→List Nat} : ∀ (sk:Sk) (a to:Nat),SkFit f sk a to → ∀ i b,a≤i→i<a+sk.size→b ∈ f i→b≤i→b=to ∨ ∃ e,Lp sk a b e∧i<e
 | .line k,a,to,h,i,b,h1,h2,hb,hbi=>by
  have h2:i<a+k:=h2
  have e:=h (i - a) (by omega)
  rw [show a+(i - a)=i by omega] at e
  rw [e,List.mem_singleton] at hb
  rcases goOn_cases (k - (i - a+1)) (i+1) to with ⟨q,q'⟩ | ⟨q,q'⟩
  ·rw [q'] at hb; exact .inl hb
  ·rw [q'] at hb; omega
 | .seq s t,a,to,h,i,b,h1,h2,hb,hbi=>by
  have h2:i<a+(s.size+t.size):=h2
  by_cases q:i<a+s.size
  ·rcases fits_back s _ _ h.1 i b h1 q hb hbi with w | ⟨e,w⟩
   ·rcases goOn_cases t.size (a+s.size) to with ⟨r,r'⟩ | ⟨r,r'⟩
    ·exact .inl (w.trans r')
    ·rw [r'] at w; omega
   ·exact .inr ⟨e,.inl w.1,w.2⟩
  ·rcases fits_back t _ _ h.2 i b (by omega) (by omega) hb hbi with w | ⟨e,w⟩
   ·exact .inl w
   ·exact .inr ⟨e,.inr w.1,w.2⟩
 | .cond s t,a,to,h,i,b,h1,h2,hb,hbi=>by
  have h2:i<a+(1+(s.size+t.size)):=h2
  obtain ⟨h0,hs,ht⟩:=h
  by_cases q0:i=a
  ·subst q0
   rw [h0] at hb
   rcases mem_br.1 hb with w | w
   ·rcases goOn_cases s.size (i+1) to with ⟨r,r'⟩ | ⟨r,r'⟩
    ·exact .inl (w.trans r')
    ·rw [r'] at w; omega
   ·rcases goOn_cases t.size (i+1+s.size) to with ⟨r,r'⟩ | ⟨r,r'⟩
    ·exact .inl (w.trans r')
    ·rw [r'] at w; omega
  by_cases q:i<a+1+s.size
  ·rcases fits_back s _ _ hs i b (by omega) q hb hbi with w | ⟨e,w⟩
   ·exact .inl w
   ·exact .inr ⟨e,.inl w.1,w.2⟩
  ·rcases fits_back t _ _ ht i b (by omega) (by omega) hb hbi with w | ⟨e,w⟩
   ·exact .inl w
   ·exact .inr ⟨e,.inr w.1,w.2⟩
 | .loop k t,a,to,h,i,b,h1,h2,hb,hbi=>by
  have h2:i<a+(k+(1+t.size)):=h2
  obtain ⟨h0,hbr,ht⟩:=h
  by_cases q0:i<a+k
  ·have e:=h0 (i - a) (by omega)
   rw [show a+(i - a)=i by omega] at e
   rw [e,List.mem_singleton] at hb
   omega
  by_cases q1:i=a+k
  ·subst q1
   rw [hbr] at hb
   rcases mem_br.1 hb with w | w
   ·rcases goOn_cases t.size (a+k+1) a with ⟨r,r'⟩ | ⟨r,r'⟩ <;> rw [r'] at w
    ·exact .inr ⟨_,.inl ⟨w,rfl⟩,by omega⟩
    ·omega
   ·exact .inl w
  ·rcases fits_back t _ _ ht i b (by omega) (by omega) hb hbi with w | ⟨e,w⟩
   ·exact .inr ⟨_,.inl ⟨w,rfl⟩,by omega⟩
   ·exact .inr ⟨e,.inr w.1,w.2⟩
theorem fits_entry {f:Nat→List Nat} : ∀ (sk:Sk) (a to:Nat),SkFit f sk a to→(to<a∨a+sk.size≤to) → ∀ h e,Lp sk a h e → ∀ i b,a≤i→i<a+sk.size → ¬(h≤i∧i<e)→b ∈ f i→h≤b→b<e→b=h
 | .line _,_,_,_,_,_,_,q,_,_,_,_,_,_,_,_=>q.elim
 | .seq s t,a,to,hf,hto,h,e,q,i,b,h1,h2,hn,hb,b1,b2=>by
  have h2:i<a+(s.size+t.size):=h2
  have hto:to<a∨a+(s.size+t.size)≤to:=hto
  by_cases qi:i<a+s.size
  ·have hin:=fits_in s _ _ hf.1 i b h1 qi hb
   rcases q with q | q
   ·refine fits_entry s _ _ hf.1 ?_ h e q i b h1 qi hn hb b1 b2
    rcases goOn_cases t.size (a+s.size) to with ⟨r,r'⟩ | ⟨r,r'⟩ <;> rw [r'] <;> omega
   ·have:=lp_in t _ _ _ q
    rcases goOn_cases t.size (a+s.size) to with ⟨r,r'⟩ | ⟨r,r'⟩ <;> rw [r'] at hin <;> omega
  ·have hin:=fits_in t _ _ hf.2 i b (by omega) (by omega) hb
   rcases q with q | q
   ·have:=lp_in s _ _ _ q; omega
   ·exact fits_entry t _ _ hf.2 (by omega) h e q i b (by omega) (by omega) hn hb b1 b2
 | .cond s t,a,to,hf,hto,h,e,q,i,b,h1,h2,hn,hb,b1,b2=>by
  have h2:i<a+(1+(s.size+t.size)):=h2
  have hto:to<a∨a+(1+(s.size+t.size))≤to:=hto
  obtain ⟨h0,hs,ht⟩:=hf
  have hq:(a+1≤h∧h<e∧e≤a+1+s.size∧Lp s (a+1) h e)∨(a+1+s.size≤h∧h<e∧e≤a+1+s.size+t.size∧Lp t (a+1+s.size) h e):=by
   rcases q with q | q
   ·have:=lp_in s _ _ _ q; exact .inl ⟨this.1,this.2.1,this.2.2,q⟩
   ·have:=lp_in t _ _ _ q; exact .inr ⟨this.1,this.2.1,this.2.2,q⟩
  by_cases q0:i=a
  ·subst q0
   rw [h0] at hb
   rcases mem_br.1 hb with w | w
   ·rcases goOn_cases s.size (i+1) to with ⟨r,r'⟩ | ⟨r,r'⟩ <;> rw [r'] at w <;> omega
   ·rcases goOn_cases t.size (i+1+s.size) to with ⟨r,r'⟩ | ⟨r,r'⟩ <;> rw [r'] at w <;> omega
  by_cases qi:i<a+1+s.size
  ·have hin:=fits_in s _ _ hs i b (by omega) qi hb
   rcases hq with ⟨a1,a2,a3,q⟩ | ⟨a1,a2,a3,q⟩
   ·exact fits_entry s _ _ hs (by omega) h e q i b (by omega) qi hn hb b1 b2
   ·omega
  ·have hin:=fits_in t _ _ ht i b (by omega) (by omega) hb
   rcases hq with ⟨a1,a2,a3,q⟩ | ⟨a1,a2,a3,q⟩
   ·omega
   ·exact fits_entry t _ _ ht (by omega) h e q i b (by omega) (by omega) hn hb b1 b2
 | .loop k t,a,to,hf,hto,h,e,q,i,b,h1,h2,hn,hb,b1,b2=>by
  have h2:i<a+(k+(1+t.size)):=h2
  have hto:to<a∨a+(k+(1+t.size))≤to:=hto
  obtain ⟨h0,hbr,ht⟩:=hf
  rcases q with ⟨rfl,rfl⟩ | q
  ·omega
  have hl:=lp_in t _ _ _ q
  by_cases q0:i<a+k
  ·have e:=h0 (i - a) (by omega)
   rw [show a+(i - a)=i by omega] at e
   rw [e,List.mem_singleton] at hb
   omega
  by_cases q1:i=a+k
  ·subst q1
   rw [hbr] at hb
   rcases mem_br.1 hb with w | w
   ·rcases goOn_cases t.size (a+k+1) a with ⟨r,r'⟩ | ⟨r,r'⟩ <;> rw [r'] at w <;> omega
   ·omega
  ·exact fits_entry t _ _ ht (by omega) h e q i b (by omega) (by omega) hn hb b1 b2
theorem lp_fits {f:Nat→List Nat} : ∀ (sk:Sk) (a to:Nat),SkFit f sk a to → ∀ h e,Lp sk a h e → ∃ k t to',SkFit f (.loop k t) h to'∧e=h+(k+(1+t.size))
 | .line _,_,_,_,_,_,q=>q.elim
 | .seq s t,a,to,hf,h,e,q=>by
  rcases q with q | q
  ·exact lp_fits s _ _ hf.1 h e q
  ·exact lp_fits t _ _ hf.2 h e q
 | .cond s t,a,to,hf,h,e,q=>by
  rcases q with q | q
  ·exact lp_fits s _ _ hf.2.1 h e q
  ·exact lp_fits t _ _ hf.2.2 h e q
 | .loop k t,a,to,hf,h,e,q=>by
  rcases q with ⟨rfl,rfl⟩ | q
  ·exact ⟨k,t,to,hf,rfl⟩
  ·exact lp_fits t _ _ hf.2.2 h e q
inductive Out (f:Nat→List Nat) (P:Nat→Prop) (to:Nat):Nat→Prop
 | last {n:Nat}:to ∈ f n→Out f P to n
 | step {n m:Nat}:m ∈ f n→P m→Out f P to m→Out f P to n
theorem Out.mono {f:Nat→List Nat} {P Q:Nat→Prop} {to n:Nat} (h:Out f P to n) (hp : ∀ x,P x→Q x):Out f Q to n:=by
 induction h with
 | last m=>exact .last m
 | step m p _ ih=>exact .step m (hp _ p) ih
theorem Out.thru {f:Nat→List Nat} {P:Nat→Prop} {x to n:Nat} (h:Out f P x n) (hx:P x) (h':Out f P to x):Out f P to n:=by
 induction h with
 | last m=>exact .step m hx h'
 | step m p _ ih=>exact .step m p ih
theorem fits_out {f:Nat→List Nat} : ∀ (sk:Sk) (a to:Nat),SkFit f sk a to → ∀ i,a≤i→i<a+sk.size→Out f (fun x=>a≤x∧x<a+sk.size) to i
 | .line k,a,to,h,i,h1,h2=>by
  have h2:i<a+k:=h2
  have h3 : ∀ m,∀ i,a≤i→i<a+k→a+k - i=m→Out f (fun x=>a≤x∧x<a+k) to i:=by
   intro m
   induction m with
   | zero=>intro i _ _ _; omega
   | succ m ih =>
    intro i h1 h2 hm
    have e:=h (i - a) (by omega)
    rw [show a+(i - a)=i by omega] at e
    rcases goOn_cases (k - (i - a+1)) (i+1) to with ⟨q,q'⟩ | ⟨q,q'⟩
    ·exact .last (by rw [e,q']; exact .head _)
    ·exact .step (m:=i+1) (by rw [e,q']; exact .head _) ⟨by omega,by omega⟩ (ih (i+1) (by omega) (by omega) (by omega))
  exact h3 _ i h1 h2 rfl
 | .seq s t,a,to,h,i,h1,h2=>by
  have h2:i<a+(s.size+t.size):=h2
  show Out f (fun x=>a≤x∧x<a+(s.size+t.size)) to i
  by_cases q:i<a+s.size
  ·have hs:=(fits_out s _ _ h.1 i h1 q).mono (Q:=fun x=>a≤x∧x<a+(s.size+t.size)) (fun x w=>⟨by omega,by omega⟩)
   rcases goOn_cases t.size (a+s.size) to with ⟨r,r'⟩ | ⟨r,r'⟩
   ·rw [r'] at hs; exact hs
   ·rw [r'] at hs
    exact hs.thru ⟨by omega,by omega⟩ ((fits_out t _ _ h.2 (a+s.size) (Nat.le_refl _) (by omega)).mono fun x w=>⟨by omega,by omega⟩)
  ·exact (fits_out t _ _ h.2 i (by omega) (by omega)).mono fun x w=>⟨by omega,by omega⟩
 | .cond s t,a,to,h,i,h1,h2=>by
  have h2:i<a+(1+(s.size+t.size)):=h2
  show Out f (fun x=>a≤x∧x<a+(1+(s.size+t.size))) to i
  obtain ⟨h0,hs,ht⟩:=h
  by_cases q0:i=a
  ·subst q0
   rcases goOn_cases s.size (i+1) to with ⟨r,r'⟩ | ⟨r,r'⟩
   ·exact .last (by rw [h0,r']; exact mem_br.2 (.inl rfl))
   ·exact .step (m:=i+1) (by rw [h0,r']; exact mem_br.2 (.inl rfl)) ⟨by omega,by omega⟩ ((fits_out s _ _ hs (i+1) (Nat.le_refl _) (by omega)).mono fun x w=>⟨by omega,by omega⟩)
  by_cases q:i<a+1+s.size
  ·exact (fits_out s _ _ hs i (by omega) q).mono fun x w=>⟨by omega,by omega⟩
  ·exact (fits_out t _ _ ht i (by omega) (by omega)).mono fun x w=>⟨by omega,by omega⟩
 | .loop k t,a,to,h,i,h1,h2=>by
  have h2:i<a+(k+(1+t.size)):=h2
  show Out f (fun x=>a≤x∧x<a+(k+(1+t.size))) to i
  obtain ⟨h0,hbr,ht⟩:=h
  have g : ∀ m,∀ i,a≤i→i≤a+k→a+k - i=m→Out f (fun x=>a≤x∧x<a+(k+(1+t.size))) to i:=by
   intro m
   induction m with
   | zero =>
    intro i _ _ _
    obtain rfl:i=a+k:=by omega
    exact .last (by rw [hbr]; exact mem_br.2 (.inr rfl))
   | succ m ih =>
    intro i h1 h2 hm
    have e:=h0 (i - a) (by omega)
    rw [show a+(i - a)=i by omega] at e
    exact .step (m:=i+1) (by rw [e]; exact .head _) ⟨by omega,by omega⟩ (ih (i+1) (by omega) (by omega) (by omega))
  by_cases q:i≤a+k
  ·exact g _ i h1 q rfl
  ·exact ((fits_out t _ _ ht i (by omega) (by omega)).mono (Q:=fun x=>a≤x∧x<a+(k+(1+t.size))) fun x w=>⟨by omega,by omega⟩).thru ⟨by omega,by omega⟩ (g _ a (Nat.le_refl _) (by omega) rfl)
def skDeps:Sk→Nat→List Nat
 | .line k,d=>List.replicate k d
 | .seq s t,d=>skDeps s d++skDeps t d
 | .cond s t,d=>d::(skDeps s d++skDeps t d)
 | .loop k t,d=>List.replicate (k+1) (d+1)++skDeps t (d+1)
theorem skDeps_len : ∀ (sk:Sk) (d:Nat),(skDeps sk d).length=sk.size
 | .line k,d=>List.length_replicate
 | .seq s t,d=>by show (skDeps s d++skDeps t d).length=s.size+t.size; rw [List.length_append,skDeps_len s,skDeps_len t]
 | .cond s t,d=>by show (d::(skDeps s d++skDeps t d)).length=1+(s.size+t.size); rw [List.length_cons,List.length_append,skDeps_len s,skDeps_len t]; omega
 | .loop k t,d=>by show (List.replicate (k+1) (d+1)++skDeps t (d+1)).length=k+(1+t.size); rw [List.length_append,skDeps_len t,List.length_replicate]; omega
open Classical in
noncomputable def cntP (p:Nat→Prop) (N:Nat):Nat:=((List.range N).filter fun h=>decide (p h)).length
open Classical in
theorem cntP_succ (p:Nat→Prop) (N:Nat):cntP p (N+1)=cntP p N+(if p N then 1 else 0):=by
 unfold cntP
 rw [List.range_succ,List.filter_append,List.length_append]
 congr 1
 by_cases h:p N <;> simp [h]
theorem cntP_none {p:Nat→Prop} {N:Nat} (h : ∀ x,x<N → ¬ p x):cntP p N=0:=by
 induction N with
 | zero=>rfl
 | succ n ih=>rw [cntP_succ,ih (fun x hx=>h x (by omega)),if_neg (h n (by omega))]
theorem cntP_congr {p q:Nat→Prop} {N:Nat} (h : ∀ x,x<N→(p x↔q x)):cntP p N=cntP q N:=by
 induction N with
 | zero=>rfl
 | succ n ih =>
  rw [cntP_succ,cntP_succ,ih (fun x hx=>h x (by omega))]
  have:=h n (by omega)
  by_cases q:p n
  ·rw [if_pos q,if_pos (this.1 q)]
  ·rw [if_neg q,if_neg (fun w=>q (this.2 w))]
theorem cntP_one {p:Nat→Prop} {a:Nat} (ha : ¬ p a) : ∀ {N:Nat},a<N→cntP (fun h=>h=a∨p h) N=1+cntP p N:=by
 intro N
 induction N with
 | zero=>intro h; omega
 | succ n ih =>
  intro h
  rw [cntP_succ,cntP_succ]
  by_cases e:a=n
  ·subst e
   rw [if_pos (.inl rfl),if_neg ha,cntP_congr (q:=p) (fun x hx=>⟨fun w=>w.elim (fun w=>by omega) id,.inr⟩)]
   omega
  ·rw [ih (by omega)]
   by_cases q:p n
   ·rw [if_pos (.inr q),if_pos q]; omega
   ·rw [if_neg q,if_neg (fun w=>w.elim (fun w=>e w.symm) q)]; omega
abbrev inLp (sk:Sk) (a n h:Nat):Prop := ∃ e,Lp sk a h e∧h≤n∧n<e
theorem skDeps_at : ∀ (sk:Sk) (a d N n:Nat),a≤n→n<a+sk.size→a+sk.size≤N→(skDeps sk d)[n - a]? = some (d+cntP (inLp sk a n) N)
 | .line k,a,d,N,n,h1,h2,h3=>by
  have h2:n<a+k:=h2
  show (List.replicate k d)[n - a]? = _
  rw [cntP_none (fun x _ w=>by obtain ⟨_,w,_⟩:=w; exact w),List.getElem?_replicate,if_pos (by omega)]; rfl
 | .seq s t,a,d,N,n,h1,h2,h3=>by
  have h2:n<a+(s.size+t.size):=h2
  have h3:a+(s.size+t.size)≤N:=h3
  show (skDeps s d++skDeps t d)[n - a]? = _
  by_cases q:n<a+s.size
  ·rw [List.getElem?_append_left (by rw [skDeps_len]; omega),skDeps_at s a d N n h1 q (by omega)]
   congr 2
   refine cntP_congr fun x _=>⟨fun ⟨e,w,w'⟩=>⟨e,.inl w,w'⟩,fun ⟨e,w,w'⟩ => ?_⟩
   rcases w with w | w
   ·exact ⟨e,w,w'⟩
   ·have:=lp_in t _ _ _ w; omega
  ·rw [List.getElem?_append_right (by rw [skDeps_len]; omega),skDeps_len,show n - a - s.size=n - (a+s.size) by omega,skDeps_at t _ d N n (by omega) (by omega) (by omega)]
   congr 2
   refine cntP_congr fun x _=>⟨fun ⟨e,w,w'⟩=>⟨e,.inr w,w'⟩,fun ⟨e,w,w'⟩ => ?_⟩
   rcases w with w | w
   ·have:=lp_in s _ _ _ w; omega
   ·exact ⟨e,w,w'⟩
 | .cond s t,a,d,N,n,h1,h2,h3=>by
  have h2:n<a+(1+(s.size+t.size)):=h2
  have h3:a+(1+(s.size+t.size))≤N:=h3
  show (d::(skDeps s d++skDeps t d))[n - a]? = _
  by_cases q0:n=a
  ·subst q0
   rw [Nat.sub_self,cntP_none (fun x _ w=>by
    obtain ⟨e,w,w'⟩:=w
    rcases w with w | w
    ·have:=lp_in s _ _ _ w; omega
    ·have:=lp_in t _ _ _ w; omega)]
   rfl
  rw [show n - a=(n - (a+1))+1 by omega,List.getElem?_cons_succ]
  by_cases q:n<a+1+s.size
  ·rw [List.getElem?_append_left (by rw [skDeps_len]; omega),skDeps_at s _ d N n (by omega) q (by omega)]
   congr 2
   refine cntP_congr fun x _=>⟨fun ⟨e,w,w'⟩=>⟨e,.inl w,w'⟩,fun ⟨e,w,w'⟩ => ?_⟩
   rcases w with w | w
   ·exact ⟨e,w,w'⟩
   ·have:=lp_in t _ _ _ w; omega
  ·rw [List.getElem?_append_right (by rw [skDeps_len]; omega),skDeps_len,show n - (a+1) - s.size=n - (a+1+s.size) by omega,skDeps_at t _ d N n (by omega) (by omega) (by omega)]
   congr 2
   refine cntP_congr fun x _=>⟨fun ⟨e,w,w'⟩=>⟨e,.inr w,w'⟩,fun ⟨e,w,w'⟩ => ?_⟩
   rcases w with w | w
   ·have:=lp_in s _ _ _ w; omega
   ·exact ⟨e,w,w'⟩
 | .loop k t,a,d,N,n,h1,h2,h3=>by
  have h2:n<a+(k+(1+t.size)):=h2
  have h3:a+(k+(1+t.size))≤N:=h3
  show (List.replicate (k+1) (d+1)++skDeps t (d+1))[n - a]? = _
  have hc:cntP (inLp (.loop k t) a n) N=1+cntP (inLp t (a+k+1) n) N:=by
   rw [← cntP_one (p:=inLp t (a+k+1) n) (a:=a) (fun ⟨e,w,_⟩=>by have:=lp_in t _ _ _ w; omega) (by omega)]
   refine cntP_congr fun x _=>⟨fun ⟨e,w,w'⟩ => ?_,fun w => ?_⟩
   ·rcases w with w | w
    ·exact .inl w.1
    ·exact .inr ⟨e,w,w'⟩
   ·rcases w with rfl | ⟨e,w,w'⟩
    ·exact ⟨_,.inl ⟨rfl,rfl⟩,h1,h2⟩
    ·exact ⟨e,.inr w,w'⟩
  rw [hc]
  by_cases q:n<a+(k+1)
  ·rw [List.getElem?_append_left (by rw [List.length_replicate]; omega),List.getElem?_replicate,if_pos (by omega),cntP_none (fun x _ ⟨e,w,_⟩=>by have:=lp_in t _ _ _ w; omega)]
  ·rw [List.getElem?_append_right (by rw [List.length_replicate]; omega),List.length_replicate,show n - a - (k+1)=n - (a+k+1) by omega,skDeps_at t _ (d+1) N n (by omega) (by omega) (by omega)]
   congr 1; omega
end Go.Proofs.YthboippafkcoiaaDoor.am
namespace Go.Proofs.YthboippafkcoiaaDoor.am
open Go Go.Proofs
set_option linter.all false
theorem fw_rch {f:Nat→List Nat} {x:Nat} (h:Fw f 0 x) {c:Nat} (hx:x<c):Rch f (c:Int) x:=by
 induction h with
 | refl=>exact .zero
 | step _ m l ih=>exact .step (ih (by omega)) (by omega) m
theorem fw_all {f:Nat→List Nat} {x:Nat} (h:Fw f 0 x):Rch f (-1) x:=(fw_rch h (Nat.lt_succ_self x)).all
structure Whl (f:Nat→List Nat) (sk:Sk):Prop where
 fits:SkFit f sk 0 sk.size
 fin : ∀ x,sk.size≤x→f x=[]
theorem Whl.fw {f:Nat→List Nat} {sk:Sk} (h:Whl f sk) {i:Nat} (hi:i≤sk.size):Fw f 0 i:=by
 rcases Nat.lt_or_ge i sk.size with q | q
 ·have:=(fits_fw sk 0 _ h.fits).1 i q
  rwa [Nat.zero_add] at this
 ·obtain rfl:i=sk.size:=by omega
  rcases Nat.eq_zero_or_pos sk.size with e | e
  ·rw [e]; exact .refl
  ·exact (fits_fw sk 0 _ h.fits).2 e (by omega)
theorem Whl.lt {f:Nat→List Nat} {sk:Sk} (h:Whl f sk) {a b:Nat} (hb:b ∈ f a):a<sk.size:=by
 rcases Nat.lt_or_ge a sk.size with q | q
 ·exact q
 ·rw [h.fin a q] at hb; cases hb
theorem Whl.back {f:Nat→List Nat} {sk:Sk} (hw:Whl f sk) {h a:Nat} (hd:Dm f h a) (hb:h ∈ f a):inLp sk 0 a h:=by
 have ha:=hw.lt hb
 rcases Nat.lt_or_ge a h with q | q
 ·have:=fw_rch (hw.fw (Nat.le_of_lt ha)) q
  rcases hd.2.2 with e | e
  ·omega
  ·exact absurd this e
 ·rcases fits_back sk 0 _ hw.fits a h (Nat.zero_le _) (by omega) hb q with e | ⟨e,w,w'⟩
  ·omega
  ·exact ⟨e,w,q,w'⟩
theorem Whl.loopR {f:Nat→List Nat} {sk:Sk} (hw:Whl f sk) {h n:Nat} (hl:LoopR f h n):inLp sk 0 n h:=by
 induction hl with
 | back a b _=>exact hw.back a b
 | @pre n p hl hm hr hne ih =>
  obtain ⟨e,w,w1,w2⟩:=ih
  have hp:=hw.lt hm
  by_cases q:h≤p∧p<e
  ·exact ⟨e,w,q⟩
  ·exact absurd (fits_entry sk 0 _ hw.fits (by omega) h e w p n (Nat.zero_le _) (by omega) q hm w1 w2) hl.ne
theorem Whl.dm {f:Nat→List Nat} {sk:Sk} (hw:Whl f sk) {h e n:Nat} (hl:Lp sk 0 h e) (h1:h≤n) (h2:n<e):Dm f h n:=by
 have hb:=lp_in sk _ _ _ hl
 refine ⟨fw_all (hw.fw (by omega)),fw_all (hw.fw (by omega)),?_⟩
 by_cases hn:n=h
 ·exact .inl hn
 refine .inr fun hr => ?_
 have : ∀ x,Rch f (h:Int) x → ¬ (h≤x∧x<e)∨x=h:=by
  intro x hx
  induction hx with
  | zero=>by_cases q:0=h; exact .inr q; exact .inl (by omega)
  | @step p b _ hne hm ih =>
   by_cases q:h≤b∧b<e
   ·refine .inr ?_
    rcases ih with w | w
    ·exact fits_entry sk 0 _ hw.fits (by omega) h e hl p b (Nat.zero_le _) (by have:=hw.lt hm; omega) w hm q.1 q.2
    ·exact absurd (by rw [w]) hne
   ·exact .inl q
 rcases this n hr with w | w
 ·exact w ⟨h1,h2⟩
 ·exact hn w
theorem out_loop {f:Nat→List Nat} {h:Nat} {P:Nat→Prop} (hP : ∀ x,P x→x≠h∧Dm f h x) {n:Nat} (ho:Out f P h n):n≠h→Dm f h n→LoopR f h n:=by
 induction ho with
 | last m=>intro hn hd; exact .back hd m hn
 | step m p _ ih=>intro hn hd; exact .pre (ih (hP _ p).1 (hP _ p).2) m hd.2.1 hn
theorem Whl.inl {f:Nat→List Nat} {sk:Sk} (hw:Whl f sk) {h e:Nat} (hl:Lp sk 0 h e) : ∀ n,h<n→n<e→LoopR f h n:=by
 obtain ⟨k,t,to,⟨h0,hbr,ht⟩,rfl⟩:=lp_fits sk _ _ hw.fits h e hl
 have hdm:=fun n (h1:h≤n) (h2:n<h+(k+(1+t.size)))=>hw.dm hl h1 h2
 have hbody : ∀ n,h+k<n→n<h+(k+(1+t.size))→LoopR f h n:=fun n h1 h2 =>
  out_loop (fun x hx=>⟨by omega,hdm x (by omega) (by omega)⟩) (fits_out t _ _ ht n (by omega) (by omega)) (by omega) (hdm n (by omega) h2)
 have hg : ∀ m n,h<n→n≤h+k→h+k - n=m→LoopR f h n:=by
  intro m
  induction m with
  | zero =>
   intro n h1 h2 _
   obtain rfl:n=h+k:=by omega
   rcases goOn_cases t.size (h+k+1) h with ⟨r,r'⟩ | ⟨r,r'⟩
   ·exact .back (hdm _ (by omega) (by omega)) (by rw [hbr,r']; exact mem_br.2 (.inl rfl)) (by omega)
   ·exact .pre (hbody (h+k+1) (by omega) (by omega)) (by rw [hbr,r']; exact mem_br.2 (.inl rfl)) (hdm (h+k) (by omega) (by omega)).2.1 (by omega)
  | succ m ih =>
   intro n h1 h2 hm
   have e:=h0 (n - h) (by omega)
   rw [show h+(n - h)=n by omega] at e
   exact .pre (ih (n+1) (by omega) (by omega) (by omega)) (by rw [e]; exact .head _) (hdm n (by omega) (by omega)).2.1 (by omega)
 intro n h1 h2
 by_cases q:n≤h+k
 ·exact hg _ n h1 q rfl
 ·exact hbody n (by omega) h2
theorem Whl.inLoop {f:Nat→List Nat} {sk:Sk} (hw:Whl f sk) (h n:Nat):InLoop f h n↔inLp sk 0 n h:=by
 constructor
 ·rintro ⟨⟨a,hd,hm⟩,rfl | hl⟩
  ·obtain ⟨e,w,w1,w2⟩:=hw.back hd hm
   exact ⟨e,w,Nat.le_refl _,by omega⟩
  ·exact hw.loopR hl
 ·rintro ⟨e,hl,h1,h2⟩
  have hin:=hw.inl hl
  refine ⟨?_,?_⟩
  ·by_cases q:h+1<e
   ·exact (hin (h+1) (by omega) q).has
   ·obtain ⟨k,t,to,⟨h0,hbr,ht⟩,rfl⟩:=lp_fits sk _ _ hw.fits h e hl
    obtain rfl:k=0:=by omega
    have e0:t.size=0:=by omega
    refine ⟨h,hw.dm hl (Nat.le_refl _) (by omega),?_⟩
    have e:=hbr
    rw [e0,goOn_zero] at e
    have e:f h=brN h to:=e
    rw [e]
    exact mem_br.2 (.inl rfl)
  ·rcases Nat.lt_or_ge h n with q | q
   ·exact .inr (hin n q h2)
   ·exact .inl (by omega)
theorem Whl.depth {f:Nat→List Nat} {sk:Sk} (hw:Whl f sk):depthL f (sk.size+1)=skDeps sk 0++[0]:=by
 refine List.ext_getElem? fun n => ?_
 have hd : ∀ n,depthN f (sk.size+1) n=cntP (inLp sk 0 n) (sk.size+1):=fun n=>by
  have:depthN f (sk.size+1) n=cntP (fun h=>InLoop f h n) (sk.size+1):=rfl
  rw [this]
  exact cntP_congr fun x _=>hw.inLoop x n
 rcases Nat.lt_trichotomy n sk.size with q | q | q
 ·rw [List.getElem?_append_left (by rw [skDeps_len]; exact q)]
  have:=skDeps_at sk 0 0 (sk.size+1) n (Nat.zero_le _) (by omega) (by omega)
  rw [Nat.sub_zero,Nat.zero_add] at this
  rw [this]
  unfold depthL
  rw [depthI_at (by omega),hd]
 ·subst q
  rw [List.getElem?_append_right (by rw [skDeps_len]; exact Nat.le_refl _),skDeps_len,Nat.sub_self]
  unfold depthL
  rw [depthI_at (by omega),hd,cntP_none (fun x _ ⟨e,w,_⟩=>by have:=lp_in sk _ _ _ w; omega)]
  rfl
 ·rw [List.getElem?_eq_none (by unfold depthL; rw [depthI_len]; omega),List.getElem?_eq_none (by rw [List.length_append,skDeps_len]; show sk.size+1≤n; omega)]
def At (L:List Nd) (a:Nat) (D:List Nd):Prop := ∀ i n,D[i]? = some n→L[a+i]? = some n
theorem At.app {L X Y:List Nd} {a k:Nat} (h:At L a (X++Y)) (hk:X.length=k):At L a X∧At L (a+k) Y:=by
 subst hk
 refine ⟨fun i n e=>h i n ?_,fun i n e => ?_⟩
 ·rw [List.getElem?_append_left (List.getElem?_eq_some_iff.1 e).1]; exact e
 ·have:=h (X.length+i) n (by rw [List.getElem?_append_right (by omega),Nat.add_sub_cancel_left]; exact e)
  rwa [← Nat.add_assoc] at this
theorem At.cons {L Y:List Nd} {n:Nd} {a:Nat} (h:At L a (n::Y)):L[a]? = some n∧At L (a+1) Y:=by
 refine ⟨h 0 n rfl,fun i n' e => ?_⟩
 have:=h (i+1) n' e
 rwa [show a+(i+1)=a+1+i by omega] at this
def folN (n:Nd):List Nat:=(folI n).map Int.toNat
def folL (L:List Nd) (x:Nat):List Nat:=match L[x]? with | some n=>folN n | none=>[]
theorem folL_at {L:List Nd} {x:Nat} {n:Nd} (h:L[x]? = some n):folL L x=folN n:=by unfold folL; rw [h]
theorem folN_one {n:Nd} {to:Nat} (h8:(n.kind == 8)=false) (h9:(n.kind == 9)=false) (h:n.next=(to:Nat)):folN n=[to]:=by
 unfold folN folI
 rw [h9,h8,h]; rfl
theorem folN_br {n:Nd} {x y:Nat} (h8:n.kind=8) (hx:n.next=(x:Nat)) (hy:n.els=(y:Nat)):folN n=brN x y:=by
 unfold folN folI brN
 rw [h8,hx,hy]
 show List.map Int.toNat (bif ((y:Int) != (x:Int)) then [(x:Int),(y:Int)] else [(x:Int)])=_
 by_cases q:y=x
 ·subst q; simp
 ·have e1:((y:Int) != (x:Int))=true:=by simp; omega
  have e2:(y != x)=true:=by simpa using q
  rw [e1,e2]; rfl
mutual
theorem exprD_len (c:LowC) : ∀ (e:Expr) (a m to:Nat),(exprD c e a m to).length=szE c e
 | .mk kind op _ name kids _,a,m,to=>by
  have h0:=fun a m to=>kid0D_len c kids a m to
  have h1:=fun a m to=>kid1D_len c kids a m to
  unfold exprD szE
  cases kind == 1 <;> cases kind == 2 <;> cases decide (localI c.p c.t name ≥ 0) <;> cases two op <;> simp only [cond_true,cond_false,List.length_append,h0,h1,List.length_cons,List.length_nil]
theorem kid0D_len (c:LowC) : ∀ (l:List Expr) (a m to:Nat),(kid0D c l a m to).length=sz0 c l
 | [],a,m,to=>by unfold kid0D sz0; rfl
 | e::_,a,m,to=>by unfold kid0D sz0; exact exprD_len c e a m to
theorem kid1D_len (c:LowC) : ∀ (l:List Expr) (a m to:Nat),(kid1D c l a m to).length=sz1 c l
 | [],a,m,to=>by unfold kid1D sz1; rfl
 | _::r,a,m,to=>by unfold kid1D sz1; exact kid0D_len c r a m to
end
theorem swapD_len (c:LowC) (name other:ByteArray) (v:Val) (a m to:Nat):(swapD c name other v a m to).length=bif decide (localI c.p c.t name ≥ 0) then 1 else 2:=by
 unfold swapD
 cases decide (localI c.p c.t name ≥ 0) <;> rfl
mutual
theorem stmtD_len (c:LowC) : ∀ (x:Stmt) (a m to:Nat),(stmtD c x a m to).length=szS c x
 | .mk kind name other e body els _,a,m,to=>by
  have h0:=fun a m to=>kid0D_len c e a m to
  have h1:=fun a m to=>blockD_len c body a m to
  have h2:=fun a m to=>blockD_len c els a m to
  unfold stmtD szS
  cases kind == 1 <;> cases kind == 2 <;> cases kind == 3 <;> cases kind == 4 <;> cases kind == 5 <;> cases kind == 6 <;> simp only [cond_true,cond_false,List.length_append,h0,h1,h2,List.length_cons,List.length_nil,swapD_len] <;> omega
theorem blockD_len (c:LowC) : ∀ (l:List Stmt) (a m to:Nat),(blockD c l a m to).length=szB c l
 | [],a,m,to=>by unfold blockD szB; rfl
 | x::r,a,m,to=>by unfold blockD szB; rw [List.length_append,stmtD_len c x,blockD_len c r]
end
theorem line_app {f:Nat→List Nat} {k k' a to:Nat} (h:SkFit f (.line k) a (a+k)) (h':SkFit f (.line k') (a+k) to) (hk:0<k'):SkFit f (.line (k+k')) a to:=by
 intro i hi
 by_cases q:i<k
 ·rw [h i q,goOn_of_pos (k:=k+k' - (i+1)) (by omega)]
  rcases goOn_cases (k - (i+1)) (a+i+1) (a+k) with ⟨r,r'⟩ | ⟨r,r'⟩
  ·rw [r']; congr 1; omega
  ·rw [r']
 ·have:=h' (i - k) (by omega)
  rw [show a+k+(i - k)=a+i by omega,show k' - (i - k+1)=k+k' - (i+1) by omega] at this
  exact this
theorem line_one {L:List Nd} {a to:Nat} {n:Nd} (h:L[a]? = some n) (h8:(n.kind == 8)=false) (h9:(n.kind == 9)=false) (hn:n.next=(to:Nat)):SkFit (folL L) (.line 1) a to:=by
 intro i hi
 obtain rfl:i=0:=by omega
 show folL L a=[to]
 rw [folL_at h,folN_one h8 h9 hn]
theorem line_nil {f:Nat→List Nat} {a to:Nat}:SkFit f (.line 0) a to:=fun i hi=>absurd hi (Nat.not_lt_zero _)
mutual
theorem expr_sk (c:LowC) (L:List Nd) : ∀ (e:Expr) (a m to:Nat),At L a (exprD c e a m to)→SkFit (folL L) (.line (szE c e)) a to
 | .mk kind op _ name kids _,a,m,to,h=>by
  have h0:=fun a m to=>kid0_sk c L kids a m to
  have h1:=fun a m to=>kid1_sk c L kids a m to
  unfold exprD at h
  unfold szE
  cases k1:kind == 1 with
  | true=>exact line_nil
  | false =>
  rw [k1] at h
  cases k2:kind == 2 with
  | true =>
   rw [k2] at h
   cases hl:decide (localI c.p c.t name ≥ 0) with
   | true=>exact line_nil
   | false=>rw [hl] at h; exact line_one h.cons.1 rfl rfl rfl
  | false =>
  rw [k2] at h
  cases ht:two op with
  | true =>
   rw [ht] at h
   simp only [cond_true,cond_false] at h ⊢
   obtain ⟨a0,h⟩:=h.app (kid0D_len ..)
   obtain ⟨a1,h⟩:=h.app (kid1D_len ..)
   refine line_app (h0 _ _ _ a0) (line_app ?_ (line_one h.cons.1 rfl rfl rfl) (by omega)) (by omega)
   have:=h1 _ _ _ a1
   rwa [← Nat.add_assoc] at this
  | false =>
   rw [ht] at h
   simp only [cond_true,cond_false] at h ⊢
   obtain ⟨a0,h⟩:=h.app (kid0D_len ..)
   exact line_app (h0 _ _ _ a0) (line_one h.cons.1 rfl rfl rfl) (by omega)
theorem kid0_sk (c:LowC) (L:List Nd) : ∀ (l:List Expr) (a m to:Nat),At L a (kid0D c l a m to)→SkFit (folL L) (.line (sz0 c l)) a to
 | [],a,m,to,h=>by unfold sz0; exact line_nil
 | e::_,a,m,to,h=>by unfold sz0; unfold kid0D at h; exact expr_sk c L e a m to h
theorem kid1_sk (c:LowC) (L:List Nd) : ∀ (l:List Expr) (a m to:Nat),At L a (kid1D c l a m to)→SkFit (folL L) (.line (sz1 c l)) a to
 | [],a,m,to,h=>by unfold sz1; exact line_nil
 | _::r,a,m,to,h=>by unfold sz1; unfold kid1D at h; exact kid0_sk c L r a m to h
end
mutual
def skS (c:LowC):Stmt→Sk
 | .mk kind name _ e body els _=>bif kind == 1 then .seq (.line (sz0 c e)) (.line 1)
  else bif kind == 2 then .seq (.line (sz0 c e)) (.line (bif decide (localI c.p c.t name ≥ 0) then 1 else 2))
  else bif kind == 3 then .seq (.line (sz0 c e)) (.cond (skB c body) (skB c els))
  else bif kind == 4 then .loop (sz0 c e) (skB c body)
  else bif kind == 5 then .seq (.line 1) (.seq (skB c body) (.line 1))
  else bif kind == 6 then .seq (.line (sz0 c e)) (.line 1) else .line 0
def skB (c:LowC):List Stmt→Sk
 | [] => .line 0
 | x::r => .seq (skS c x) (skB c r)
end
mutual
theorem skS_size (c:LowC) : ∀ x:Stmt,(skS c x).size=szS c x
 | .mk kind name _ e body els _=>by
  have h1:=skB_size c body
  have h2:=skB_size c els
  unfold skS szS
  cases kind == 1 <;> cases kind == 2 <;> cases kind == 3 <;> cases kind == 4 <;> cases kind == 5 <;> cases kind == 6 <;> simp only [cond_true,cond_false,Sk.size,h1,h2]
theorem skB_size (c:LowC) : ∀ l:List Stmt,(skB c l).size=szB c l
 | []=>by unfold skB szB; rfl
 | x::r=>by
  have h1:=skS_size c x
  have h2:=skB_size c r
  unfold skB szB
  simp only [Sk.size,h1,h2]
end
theorem fits_to {f:Nat→List Nat} {sk:Sk} {a to to':Nat} (h:SkFit f sk a to) (e:to=to'):SkFit f sk a to':=e ▸ h
mutual
theorem stmt_sk (c:LowC) (L:List Nd) : ∀ (x:Stmt) (a m to:Nat),At L a (stmtD c x a m to)→SkFit (folL L) (skS c x) a to
 | .mk kind name other e body els _,a,m,to,h=>by
  have h0:=fun a m to=>kid0_sk c L e a m to
  have hb:=fun a m to=>block_sk c L body a m to
  have hl:=fun a m to=>block_sk c L els a m to
  have z1:=skB_size c body
  have z2:=skB_size c els
  unfold stmtD at h
  unfold skS
  cases k1:kind == 1 with
  | true =>
   rw [k1] at h
   simp only [cond_true,cond_false] at h ⊢
   obtain ⟨a0,h⟩:=h.app (kid0D_len ..)
   refine ⟨h0 _ _ _ a0,line_one h.cons.1 ?_ ?_ ?_⟩ <;> unfold giveN <;> cases decide (localI c.p c.t name ≥ 0) <;> rfl
  | false =>
  rw [k1] at h
  cases k2:kind == 2 with
  | true =>
   rw [k2] at h
   simp only [cond_true,cond_false] at h ⊢
   obtain ⟨a0,h⟩:=h.app (kid0D_len ..)
   unfold swapD at h
   cases hd:decide (localI c.p c.t name ≥ 0) with
   | true =>
    rw [hd] at h
    exact ⟨h0 _ _ _ a0,line_one h.cons.1 rfl rfl rfl⟩
   | false =>
    rw [hd] at h
    exact ⟨h0 _ _ _ a0,line_app (k:=1) (k':=1) (line_one h.cons.1 rfl rfl rfl) (line_one h.cons.2.cons.1 rfl rfl rfl) (by omega)⟩
  | false =>
  rw [k2] at h
  cases k3:kind == 3 with
  | true =>
   rw [k3] at h
   simp only [cond_true,cond_false] at h ⊢
   obtain ⟨a0,h⟩:=h.app (kid0D_len ..)
   obtain ⟨hn,h⟩:=h.cons
   obtain ⟨a1,a2⟩:=h.app (blockD_len ..)
   refine ⟨fits_to (h0 _ _ _ a0) (goOn_of_pos (by show 0<1+((skB c body).size+(skB c els).size); omega)).symm,?_,?_,?_⟩
   ·show folL L (a+sz0 c e)=_
    rw [z1,z2]
    exact (folL_at hn).trans (folN_br rfl rfl rfl)
   ·exact hb _ _ _ a1
   ·rw [z1]; exact hl _ _ _ a2
  | false =>
  rw [k3] at h
  cases k4:kind == 4 with
  | true =>
   rw [k4] at h
   simp only [cond_true,cond_false] at h ⊢
   obtain ⟨a0,h⟩:=h.app (kid0D_len ..)
   obtain ⟨hn,h⟩:=h.cons
   refine ⟨fun i hi => ?_,?_,hb _ _ _ h⟩
   ·rw [h0 _ _ _ a0 i hi]
    rcases goOn_cases (sz0 c e - (i+1)) (a+i+1) (a+sz0 c e) with ⟨r,r'⟩ | ⟨r,r'⟩
    ·rw [r']; congr 1; omega
    ·rw [r']
   ·rw [z1]
    exact (folL_at hn).trans (folN_br rfl rfl rfl)
  | false =>
  rw [k4] at h
  cases k5:kind == 5 with
  | true =>
   rw [k5] at h
   simp only [cond_true,cond_false] at h ⊢
   obtain ⟨hn,h⟩:=h.cons
   obtain ⟨a1,h⟩:=h.app (blockD_len ..)
   refine ⟨?_,fits_to (hb _ _ _ a1) (by rw [z1]; rfl),?_⟩
   ·rw [show goOn (Sk.size (.seq (skB c body) (.line 1))) (a+Sk.size (.line 1)) to=a+1 from goOn_of_pos (by show 0<(skB c body).size+1; omega)]
    exact line_one hn rfl rfl rfl
   ·rw [z1]
    exact line_one h.cons.1 rfl rfl rfl
  | false =>
  rw [k5] at h
  cases k6:kind == 6 with
  | true =>
   rw [k6] at h
   simp only [cond_true,cond_false] at h ⊢
   obtain ⟨a0,h⟩:=h.app (kid0D_len ..)
   exact ⟨h0 _ _ _ a0,line_one h.cons.1 rfl rfl rfl⟩
  | false=>exact line_nil
theorem block_sk (c:LowC) (L:List Nd) : ∀ (l:List Stmt) (a m to:Nat),At L a (blockD c l a m to)→SkFit (folL L) (skB c l) a to
 | [],a,m,to,h=>by unfold skB; exact line_nil
 | x::r,a,m,to,h=>by
  have hx:=fun a m to=>stmt_sk c L x a m to
  have hr:=fun a m to=>block_sk c L r a m to
  have z1:=skS_size c x
  have z2:=skB_size c r
  unfold blockD at h
  unfold skB
  obtain ⟨a1,a2⟩:=h.app (stmtD_len ..)
  refine ⟨?_,?_⟩
  ·rw [z1,z2]; exact hx _ _ _ a1
  ·rw [z1]; exact hr _ _ _ a2
end
theorem thr_len (p:Prg) (t:Nat) (th:Thread):(thrD p t th).length=szB (thrC p t th) th.body+1:=by unfold thrD; rw [List.length_append,blockD_len]; rfl
theorem thr_whl (p:Prg) (t:Nat) (th:Thread):Whl (folL (thrD p t th)) (skB (thrC p t th) th.body):=by
 have hs:=skB_size (thrC p t th) th.body
 have hat:At (thrD p t th) 0 (thrD p t th):=fun i n e=>by rw [Nat.zero_add]; exact e
 refine ⟨?_,fun x hx => ?_⟩
 ·rw [hs]
  exact block_sk _ _ _ _ _ _ (hat.app (blockD_len ..)).1
 ·rw [hs] at hx
  unfold folL
  rcases Nat.lt_or_ge x (szB (thrC p t th) th.body+1) with q | q
  ·obtain rfl:x=szB (thrC p t th) th.body:=by omega
   have:=(hat.app (blockD_len ..)).2.cons.1
   rw [Nat.zero_add] at this
   rw [this]; rfl
  ·rw [List.getElem?_eq_none (by rw [thr_len]; exact q)]
end Go.Proofs.YthboippafkcoiaaDoor.am
namespace Go.Proofs.YthboippafkcoiaaDoor.am
open Go
def hasD (l:List Decl) (n:ByteArray):Bool:=l.any fun d=>seq d.name n
def hasT (l:List Thread) (n:ByteArray):Bool:=l.any fun d=>seq d.name n
theorem seq_comm (a b:ByteArray):seq a b=seq b a:=by
 unfold seq
 rw [Bool.eq_iff_iff]
 simp only [beq_iff_eq]
 exact ⟨Eq.symm,Eq.symm⟩
theorem findI_has : ∀ (l:List Decl) (n:ByteArray) (k:Nat),decide (findI l n k ≥ 0)=hasD l n
 | [],n,k=>rfl
 | d::l,n,k=>by
  unfold findI hasD
  rw [List.any_cons]
  by_cases h:seq d.name n=true
  ·rw [if_pos h,h,Bool.true_or]
   exact decide_eq_true (Int.natCast_nonneg k)
  ·rw [if_neg h]
   have:=findI_has l n (k+1)
   rw [this]
   have h:seq d.name n=false:=by simpa using h
   rw [h,Bool.false_or]
   rfl
theorem threadI_has : ∀ (l:List Thread) (n:ByteArray) (k:Nat),decide (threadI l n k ≥ 0)=hasT l n
 | [],n,k=>rfl
 | d::l,n,k=>by
  unfold threadI hasT
  rw [List.any_cons]
  by_cases h:seq d.name n=true
  ·rw [if_pos h,h,Bool.true_or]
   exact decide_eq_true (Int.natCast_nonneg k)
  ·rw [if_neg h]
   have:=threadI_has l n (k+1)
   rw [this]
   have h:seq d.name n=false:=by simpa using h
   rw [h,Bool.false_or]
   rfl
theorem threadI_lt : ∀ (l:List Thread) (n:ByteArray) (k i:Nat) (t:Thread),l[i]? = some t→seq t.name n=true→decide (threadI l n k<(k+i:Nat))=hasT (l.take i) n
 | [],n,k,i,t,h,_=>by simp at h
 | d::l,n,k,0,t,h,hn=>by
  simp at h; subst h
  unfold threadI
  rw [if_pos hn]
  simp [hasT]
 | d::l,n,k,i+1,t,h,hn=>by
  unfold threadI
  rw [List.take_succ_cons]
  unfold hasT
  rw [List.any_cons]
  by_cases hd:seq d.name n=true
  ·rw [if_pos hd,hd,Bool.true_or]
   exact decide_eq_true (by omega)
  ·rw [if_neg hd]
   have hd:seq d.name n=false:=by simpa using hd
   rw [hd,Bool.false_or]
   have:=threadI_lt l n (k+1) i t (by simpa using h) hn
   rw [show k+1+i=k+(i+1) by omega] at this
   exact this
theorem same_ks (a b:ByteArray):MK.same (.ks a) (.ks b)=seq a b:=rfl
def txt (M:MI):Prop := ∀ p ∈ M,∃ a,p.1 = .ks a
theorem same_comm (k q:MK):MK.same k q=MK.same q k:=by
 cases k <;> cases q <;> first | rfl | exact seq_comm _ _ | (show (_ == _)=(_ == _); rw [Bool.eq_iff_iff,beq_iff_eq,beq_iff_eq]; exact ⟨Eq.symm,Eq.symm⟩)
theorem get_cons (k:MK) (v:Int) (r:MI) (q:MK):mgetI ((k,v)::r) q=bif MK.same k q then v else mgetI r q:=by rw [same_comm]; rfl
theorem put_cons (k:MK) (v:Int) (r:MI) (q:MK) (x:Int):mputI ((k,v)::r) q x=bif MK.same k q then (q,x)::r else (k,v)::mputI r q x:=by rw [same_comm]; rfl
theorem put_nil (q:MK) (x:Int):mputI [] q x=[(q,x)]:=by rw [mputI]
theorem get_put : ∀ (M:MI) (a b:ByteArray) (x:Int),txt M→mgetI (mputI M (.ks a) x) (.ks b)=bif seq a b then x else mgetI M (.ks b)
 | [],a,b,x,_=>by
  rw [put_nil,get_cons,same_ks]
 | (k,v)::M,a,b,x,h=>by
  obtain ⟨c,hc⟩:=h (k,v) (by simp)
  simp only at hc
  subst hc
  have ih:=get_put M a b x (fun p hp=>h p (by simp [hp]))
  rw [put_cons,get_cons,same_ks,same_ks]
  cases hca:seq c a with
  | true =>
   rw [cond_true,get_cons,same_ks]
   cases hab:seq a b with
   | true=>rfl
   | false =>
    have hcb:seq c b=false:=by
     unfold seq at *
     have:c.toList=a.toList:=by simpa using hca
     rw [this]; exact hab
    rw [hcb]; rfl
  | false =>
   rw [cond_false,get_cons,same_ks,ih]
   cases hab:seq a b with
   | true =>
    have hcb:seq c b=false:=by
     unfold seq at *
     have:a.toList=b.toList:=by simpa using hab
     rw [← this]; exact hca
    rw [hcb]; rfl
   | false=>rfl
theorem txt_put : ∀ (M:MI) (a:ByteArray) (x:Int),txt M→txt (mputI M (.ks a) x)
 | [],a,x,_=>fun p hp=>by
  have:p=(.ks a,x):=by simpa [mputI] using hp
  exact ⟨a,by rw [this]⟩
 | (k,v)::M,a,x,h=>by
  intro p hp
  rw [put_cons] at hp
  cases hs:MK.same k (.ks a) with
  | true =>
   rw [hs] at hp
   rcases List.mem_cons.1 hp with rfl | hp
   ·exact ⟨a,rfl⟩
   ·exact h p (by simp [hp])
  | false =>
   rw [hs] at hp
   rcases List.mem_cons.1 hp with rfl | hp
   ·exact h _ (by simp)
   ·exact txt_put M a x (fun p hp=>h p (by simp [hp])) p hp
structure Is1 (M:MI) (f:ByteArray→Bool):Prop where
 txt:txt M
 get : ∀ n,mgetI M (.ks n)=bif f n then 1 else 0
theorem Is1.nil:Is1 [] fun _=>false:=⟨fun p hp=>by simp at hp,fun n=>rfl⟩
theorem Is1.put {M:MI} {f:ByteArray→Bool} (h:Is1 M f) (a:ByteArray):Is1 (mputI M (.ks a) 1) fun n=>f n || seq a n:=by
 refine ⟨txt_put M a 1 h.txt,fun n => ?_⟩
 rw [get_put M a n 1 h.txt,h.get]
 cases seq a n <;> cases f n <;> rfl
theorem Is1.ones {M:MI} {f:ByteArray→Bool} (h:Is1 M f) : ∀ (l:List Decl),Is1 (ones M l) fun n=>f n || hasD l n
 | []=>⟨h.txt,fun n=>by rw [show (am.ones M [])=M from rfl,h.get]; simp [hasD]⟩
 | d::l=>by
  have:=(h.put d.name).ones l
  refine ⟨this.txt,fun n => ?_⟩
  rw [show am.ones M (d::l)=am.ones (mputI M (.ks d.name) 1) l from rfl,this.get]
  simp only [hasD,List.any_cons,Bool.or_assoc]
theorem Is1.pos {M:MI} {f:ByteArray→Bool} (h:Is1 M f) (n:ByteArray):decide (mgetI M (.ks n) > 0)=f n:=by
 rw [h.get]; cases f n <;> rfl
theorem least4 (a b c d:Bool):leastW [whenI 1 a,whenI 2 b,whenI 3 c,whenI 4 d] 0=bif a then 1 else bif b then 2 else bif c then 3 else bif d then 4 else 0:=by
 cases a <;> cases b <;> cases c <;> cases d <;> rfl
theorem least3 (a b c:Bool):leastW [whenI 1 a,whenI 2 b,whenI 3 c] 0=bif a then 1 else bif b then 2 else bif c then 3 else 0:=by
 cases a <;> cases b <;> cases c <;> rfl
def Ag (o:Option Flt) (f:Flt):Prop:=match o with
 | some g=>f=g∧g.rule≠0
 | none=>f=⟨0,0⟩
theorem Ag.rule {o:Option Flt} {f:Flt} (h:Ag o f):(f.rule != 0)=o.isSome:=by
 cases o with
 | none=>have h:f=⟨0,0⟩:=h; rw [h]; rfl
 | some g=>obtain ⟨rfl,h⟩:=h; simpa using h
theorem pos_ne (a b c d:Bool):decide ((bif a then (1:Int) else bif b then 2 else bif c then 3 else bif d then 4 else 0) > 0)=((bif a then (1:Int) else bif b then 2 else bif c then 3 else bif d then 4 else 0) != 0):=by
 cases a <;> cases b <;> cases c <;> cases d <;> rfl
theorem tops_ag (p:Prg) (kind:Int) (most:Nat) (bad:Int→Bool) (hbad : ∀ w,bad w=wordI kind w) (rest:ByteArray→Bool) (hrest : ∀ pre name,twiceB p kind pre name=(rest name || hasD pre name)) :
  ∀ (l:List Decl) (i:Nat) (M:MI) (pre:List Decl),pre.length=i→i≤most→Is1 M (fun n=>rest n || hasD pre n)→Ag (topsW most bad l i M) (declsF p kind most pre l)
 | [],i,M,pre,_,_,_=>by unfold topsW declsF; rfl
 | d::l,i,M,pre,hp,hi,hM=>by
  have hlen:((pre.length:Int):Int)=i:=by rw [hp]
  have h3:((i:Int) == (most:Int))=decide ((i:Int) ≥ most):=by
   rw [Bool.eq_iff_iff]; simp only [beq_iff_eq,decide_eq_true_eq]; omega
  have hL:leastW (topRules M most bad i d) 0=declI p kind pre d pre.length most:=by
   unfold topRules
   rw [least4,hM.pos,h3,hbad]
   unfold declI
   rw [hrest,hlen]
  unfold topsW declsF
  rw [hL]
  have hpn:decide (declI p kind pre d pre.length most > 0)=(declI p kind pre d pre.length most != 0):=pos_ne ..
  rw [hpn]
  cases hc:declI p kind pre d pre.length most != 0 with
  | true=>exact ⟨rfl,by simpa using hc⟩
  | false =>
   show Ag (topsW most bad l (i+1) (mputI M (.ks d.name) 1)) (declsF p kind most (pre++[d]) l)
   have hlt : ¬ (i:Int) ≥ most:=by
    intro h
    have hh:decide ((i:Int) ≥ most)=true:=decide_eq_true h
    unfold declI at hc
    rw [hlen,hh] at hc
    revert hc
    cases nameB d.name <;> cases twiceB p kind pre d.name <;> intro hc <;> simp at hc
   refine tops_ag p kind most bad hbad rest hrest l (i+1) _ (pre++[d]) (by simp [hp]) (by omega) ?_
   have:=hM.put d.name
   refine ⟨this.txt,fun n => ?_⟩
   rw [this.get]
   simp [hasD,Bool.or_assoc]
theorem locs_ag (p:Prg) (above:MI) (hA:Is1 above fun n=>hasD p.shared n || hasD p.locks n) :
  ∀ (l:List Decl) (i:Nat) (M:MI) (pre:List Decl),pre.length=i→i≤64→Is1 M (hasD pre)→Ag (localsW above l i M) (declsF p 2 64 pre l)
 | [],i,M,pre,_,_,_=>by unfold localsW declsF; rfl
 | d::l,i,M,pre,hp,hi,hM=>by
  have hlen:((pre.length:Int):Int)=i:=by rw [hp]
  have h3:((i:Int) == 64)=decide ((i:Int) ≥ 64):=by
   rw [Bool.eq_iff_iff]; simp only [beq_iff_eq,decide_eq_true_eq]; omega
  have h2:decide (IntKind.i64.wrap (mgetI M (.ks d.name)+mgetI above (.ks d.name)) > 0)=twiceB p 2 pre d.name:=by
   unfold twiceB
   rw [findI_has,findI_has,findI_has,hM.get,hA.get]
   cases hasD pre d.name <;> cases hasD p.shared d.name <;> cases hasD p.locks d.name <;> rfl
  have h4:(d.word != 0)=wordI 2 d.word:=rfl
  have hL:leastW (localRules above M i d) 0=declI p 2 pre d pre.length 64:=by
   unfold localRules
   rw [least4,h2,h3,h4]
   unfold declI
   rw [hlen]
  unfold localsW declsF
  rw [hL]
  have hpn:decide (declI p 2 pre d pre.length 64 > 0)=(declI p 2 pre d pre.length 64 != 0):=pos_ne ..
  rw [hpn]
  cases hc:declI p 2 pre d pre.length 64 != 0 with
  | true=>exact ⟨rfl,by simpa using hc⟩
  | false =>
   show Ag (localsW above l (i+1) (mputI M (.ks d.name) 1)) (declsF p 2 64 (pre++[d]) l)
   have hlt : ¬ (i:Int) ≥ 64:=by
    intro h
    have hh:decide ((i:Int) ≥ 64)=true:=decide_eq_true h
    unfold declI at hc
    rw [hlen,hh] at hc
    revert hc
    cases nameB d.name <;> cases twiceB p 2 pre d.name <;> intro hc <;> simp at hc
   refine locs_ag p above hA l (i+1) _ (pre++[d]) (by simp [hp]) (by omega) ?_
   have:=hM.put d.name
   refine ⟨this.txt,fun n => ?_⟩
   rw [this.get]
   simp [hasD]
structure IsTop (M:MI) (f:ByteArray→Int):Prop where
 txt:txt M
 get : ∀ n,mgetI M (.ks n)=f n
theorem IsTop.put {M:MI} {f:ByteArray→Int} (h:IsTop M f) (a:ByteArray) (s:Int):IsTop (putTop M a s) fun n=>bif seq a n && f n == 0 then s else f n:=by
 unfold putTop
 cases hc:mgetI M (.ks a) == 0 with
 | true =>
  refine ⟨txt_put M a s h.txt,fun n => ?_⟩
  show mgetI (mputI M (.ks a) s) (.ks n)=_
  rw [get_put M a n s h.txt,h.get]
  cases hs:seq a n with
  | false=>rfl
  | true =>
   have:f n=f a:=by
    rw [← h.get n,← h.get a]
    have key : ∀ M:MI,mgetI M (.ks n)=mgetI M (.ks a):=by
     intro M
     induction M with
     | nil=>rfl
     | cons p M ih =>
      obtain ⟨k,v⟩:=p
      rw [get_cons,get_cons,ih]
      have:MK.same k (.ks n)=MK.same k (.ks a):=by
       cases k with
       | ks c=>show seq c n=seq c a; unfold seq at *; rw [show a.toList=n.toList by simpa using hs]
       | _=>rfl
      rw [this]
    exact key M
   rw [← h.get a,] at this
   rw [this,hc]; rfl
 | false =>
  refine ⟨h.txt,fun n => ?_⟩
  show mgetI M (.ks n)=_
  rw [h.get]
  cases hs:seq a n with
  | false=>rfl
  | true =>
   have:f n=f a:=by
    rw [← h.get n,← h.get a]
    have key : ∀ M:MI,mgetI M (.ks n)=mgetI M (.ks a):=by
     intro M
     induction M with
     | nil=>rfl
     | cons p M ih =>
      obtain ⟨k,v⟩:=p
      rw [get_cons,get_cons,ih]
      have:MK.same k (.ks n)=MK.same k (.ks a):=by
       cases k with
       | ks c=>show seq c n=seq c a; unfold seq at *; rw [show a.toList=n.toList by simpa using hs]
       | _=>rfl
      rw [this]
    exact key M
   rw [h.get a,← this] at hc
   rw [hc]; rfl
theorem IsTop.putAll {s:Int} (hs:s≠0) : ∀ (l:List Decl) {M:MI} {f:ByteArray→Int},IsTop M f→IsTop (putAll M l s) fun n=>bif hasD l n && f n == 0 then s else f n
 | [],M,f,h=>⟨h.txt,fun n=>h.get n⟩
 | d::l,M,f,h=>by
  have:=IsTop.putAll hs l (h.put d.name s)
  refine ⟨this.txt,fun n => ?_⟩
  rw [show am.putAll M (d::l) s=am.putAll (putTop M d.name s) l s from rfl,this.get]
  show (bif hasD l n && (bif seq d.name n && f n == 0 then s else f n) == 0 then s else (bif seq d.name n && f n == 0 then s else f n))=bif (seq d.name n || hasD l n) && f n == 0 then s else f n
  have hs':(s == 0)=false:=by simpa using hs
  cases seq d.name n <;> cases hasD l n <;> cases hf:f n == 0 <;> simp [hf,hs']
theorem IsTop.putThs : ∀ (l:List Thread) {M:MI} {f:ByteArray→Int},IsTop M f→IsTop (putThs M l) fun n=>bif hasT l n && f n == 0 then 3 else f n
 | [],M,f,h=>⟨h.txt,fun n=>h.get n⟩
 | d::l,M,f,h=>by
  have:=IsTop.putThs l (h.put d.name 3)
  refine ⟨this.txt,fun n => ?_⟩
  rw [show am.putThs M (d::l)=am.putThs (putTop M d.name 3) l from rfl,this.get]
  show (bif hasT l n && (bif seq d.name n && f n == 0 then 3 else f n) == 0 then 3 else (bif seq d.name n && f n == 0 then 3 else f n))=bif (seq d.name n || hasT l n) && f n == 0 then 3 else f n
  cases seq d.name n <;> cases hasT l n <;> cases hf:f n == 0 <;> simp [hf]
def sortI (p:Prg) (n:ByteArray):Int:=bif hasD p.shared n then 1 else bif hasD p.locks n then 2 else bif hasT p.threads n then 3 else 0
theorem top_is (p:Prg):IsTop (topOf p) (sortI p):=by
 have h0:IsTop [] fun _=>0:=⟨fun p hp=>by simp at hp,fun n=>rfl⟩
 have:=IsTop.putThs p.threads (IsTop.putAll (s:=2) (by decide) p.locks (IsTop.putAll (s:=1) (by decide) p.shared h0))
 refine ⟨this.txt,fun n=>(this.get n).trans ?_⟩
 unfold sortI
 cases hasD p.shared n <;> cases hasD p.locks n <;> cases hasT p.threads n <;> rfl
end Go.Proofs.YthboippafkcoiaaDoor.am
namespace Go.Proofs.YthboippafkcoiaaDoor.am
open Go
def R056 (v:Int):Prop:=v=0∨v=5∨v=6
theorem least_e (a d:Bool) {v:Int} (hv:R056 v):leastW [whenI 4 a,v,whenI 7 d] 0=bif a then 4 else (bif (v == 0) && d then 7 else v):=by
 rcases hv with rfl | rfl | rfl <;> cases a <;> cases d <;> rfl
theorem least_s0 (a d:Bool):leastW [whenI 4 a,whenI 7 d] 0=bif a then 4 else (bif ((0:Int) == 0) && d then 7 else 0):=by
 cases a <;> cases d <;> rfl
theorem least_s1 (a d:Bool) {v:Int} (hv:R056 v):leastW [whenI 4 a,whenI 7 d,v] 0=bif a then 4 else (bif (v == 0) && d then 7 else v):=by
 rcases hv with rfl | rfl | rfl <;> cases a <;> cases d <;> rfl
theorem least_s2 (a d:Bool) {v u:Int} (hv:R056 v) (hu:R056 u):leastW [whenI 4 a,whenI 7 d,v,u] 0=bif a then 4 else (bif (leastI v u == 0) && d then 7 else leastI v u):=by
 rcases hv with rfl | rfl | rfl <;> rcases hu with rfl | rfl | rfl <;> cases a <;> cases d <;> rfl
theorem leastI_056 {v u:Int} (hv:R056 v) (hu:R056 u):R056 (leastI v u):=by
 rcases hv with rfl | rfl | rfl <;> rcases hu with rfl | rfl | rfl <;> simp [R056,leastI]
theorem pos_dp (a d:Bool) {v:Int} (hv:R056 v):decide ((bif a then (4:Int) else (bif (v == 0) && d then 7 else v)) > 0)=((bif a then (4:Int) else (bif (v == 0) && d then 7 else v)) != 0):=by
 rcases hv with rfl | rfl | rfl <;> cases a <;> cases d <;> rfl
section
variable {p:Prg} {i:Nat} {th:Thread} {M:MI}
theorem local_has (hi:p.threads[i]? = some th) (n:ByteArray):decide (localI p i n ≥ 0)=hasD th.locals n:=by
 unfold localI
 rw [if_neg (by omega),show (i:Int).toNat=i by omega,hi]
 exact findI_has ..
theorem var056 (p:Prg) (i:Int) (n:ByteArray) (b:Bool):R056 (variableI p i n b):=by
 unfold variableI
 cases decide (localI p i n ≥ 0) <;> cases decide (findI p.shared n 0 ≥ 0) <;> cases (decide (findI p.locks n 0 ≥ 0) || decide (threadI p.threads n 0 ≥ 0)) <;> cases b <;> simp [R056]
theorem lock056 (p:Prg) (i:Int) (n:ByteArray):R056 (lockI p i n):=by
 unfold lockI
 cases decide (localI p i n ≥ 0) <;> cases decide (findI p.locks n 0 ≥ 0) <;> cases (decide (findI p.shared n 0 ≥ 0) || decide (threadI p.threads n 0 ≥ 0)) <;> simp [R056]
theorem var_eq (hi:p.threads[i]? = some th) (hM:Is1 M (hasD th.locals)) (n:ByteArray) (b:Bool):variableW (topOf p) M n b=variableI p i n b:=by
 unfold variableW variableI
 rw [hM.pos,local_has hi,findI_has,findI_has,threadI_has,(top_is p).get]
 unfold sortI
 cases hasD th.locals n <;> cases hasD p.shared n <;> cases hasD p.locks n <;> cases hasT p.threads n <;> cases b <;> rfl
theorem lock_eq (hi:p.threads[i]? = some th) (hM:Is1 M (hasD th.locals)) (hLS : ∀ n,hasD p.locks n=true→hasD p.shared n=false) (n:ByteArray):guardW (topOf p) M n=lockI p i n:=by
 unfold guardW lockI
 rw [hM.pos,local_has hi,findI_has,findI_has,threadI_has,(top_is p).get,hM.get]
 unfold sortI
 have:=hLS n
 revert this
 cases hasD th.locals n <;> cases hasD p.shared n <;> cases hasD p.locks n <;> cases hasT p.threads n <;> intro this <;> first | rfl | (exact absurd (this rfl) (by decide))
mutual
theorem expr_ag (hi:p.threads[i]? = some th) (hM:Is1 M (hasD th.locals)) : ∀ (e:Expr) (deep:Int),Ag (exprW (topOf p) M e deep) (exprF p i e deep)
 | .mk kind op word name kids at_,deep=>by
  have ih:=exprs_ag hi hM kids (deep+1)
  have hv:R056 (bif kind == 2 then variableI p i name false else 0):=by
   cases kind == 2
   ·exact .inl rfl
   ·exact var056 ..
  have hL:leastW (exprRules (topOf p) M kind op word name kids at_ deep) 0=bif !partsB (.mk kind op word name kids at_) then 4 else deepI (bif kind == 2 then variableI p i name false else 0) deep:=by
   unfold exprRules
   rw [var_eq hi hM]
   exact least_e _ _ hv
  unfold exprW exprF
  rw [hL]
  have hp:decide ((bif !partsB (.mk kind op word name kids at_) then 4 else deepI (bif kind == 2 then variableI p i name false else 0) deep) > 0)=((bif !partsB (.mk kind op word name kids at_) then 4 else deepI (bif kind == 2 then variableI p i name false else 0) deep) != 0):=pos_dp _ _ hv
  rw [hp]
  cases !partsB (.mk kind op word name kids at_) with
  | true=>exact ⟨rfl,show (4:Int)≠0 by decide⟩
  | false =>
   simp only [cond_false]
   cases hd:deepI (bif kind == 2 then variableI p i name false else 0) deep != 0 with
   | true=>exact ⟨rfl,by simpa using hd⟩
   | false=>exact ih
theorem exprs_ag (hi:p.threads[i]? = some th) (hM:Is1 M (hasD th.locals)) : ∀ (l:List Expr) (deep:Int),Ag (exprsW (topOf p) M l deep) (exprsF p i l deep)
 | [],deep=>by unfold exprsW exprsF; rfl
 | e::l,deep=>by
  have h1:=expr_ag hi hM e deep
  have h2:=exprs_ag hi hM l deep
  unfold exprsW exprsF
  rw [h1.rule]
  cases he:exprW (topOf p) M e deep with
  | some f=>rw [he] at h1; exact h1
  | none=>exact h2
end
mutual
theorem stmt_ag (hi:p.threads[i]? = some th) (hM:Is1 M (hasD th.locals)) (hLS : ∀ n,hasD p.locks n=true→hasD p.shared n=false) : ∀ (s:Stmt) (deep:Int),Ag (stmtW (topOf p) M s deep) (stmtF p i s deep)
 | .mk kind name other e body els at_,deep=>by
  have h1:=exprs_ag hi hM e 1
  have h2:=block_ag hi hM hLS body (deep+1)
  have h3:=block_ag hi hM hLS els (deep+1)
  have hv:R056 (namesI p i kind name other):=by
   unfold namesI
   cases kind == 1 with
   | true=>exact var056 ..
   | false =>
    simp only [cond_false]
    cases kind == 2 with
    | true=>exact leastI_056 (var056 ..) (var056 ..)
    | false =>
     simp only [cond_false]
     cases kind == 5 with
     | true=>exact lock056 ..
     | false=>exact .inl rfl
  have hL:leastW (stmtRules (topOf p) M kind name other e body els at_ deep) 0=bif !fieldsB (.mk kind name other e body els at_) then 4 else deepI (namesI p i kind name other) deep:=by
   unfold stmtRules namesI
   rw [var_eq hi hM,var_eq hi hM,lock_eq hi hM hLS]
   cases kind == 1 with
   | true=>exact least_s1 _ _ (var056 ..)
   | false =>
    simp only [cond_false]
    cases kind == 2 with
    | true=>exact least_s2 _ _ (var056 ..) (var056 ..)
    | false =>
     simp only [cond_false]
     cases kind == 5 with
     | true=>exact least_s1 _ _ (lock056 ..)
     | false=>exact least_s0 _ _
  unfold stmtW stmtF
  rw [hL]
  have hp:decide ((bif !fieldsB (.mk kind name other e body els at_) then 4 else deepI (namesI p i kind name other) deep) > 0)=((bif !fieldsB (.mk kind name other e body els at_) then 4 else deepI (namesI p i kind name other) deep) != 0):=pos_dp _ _ hv
  rw [hp]
  cases !fieldsB (.mk kind name other e body els at_) with
  | true=>exact ⟨rfl,show (4:Int)≠0 by decide⟩
  | false =>
   simp only [cond_false]
   cases hd:deepI (namesI p i kind name other) deep != 0 with
   | true=>exact ⟨rfl,by simpa using hd⟩
   | false =>
    simp only [cond_false]
    rw [h1.rule,h2.rule]
    cases he:exprsW (topOf p) M e 1 with
    | some f=>rw [he] at h1; exact h1
    | none =>
     cases hb:blockW (topOf p) M body (deep+1) with
     | some f=>rw [hb] at h2; exact h2
     | none=>exact h3
theorem block_ag (hi:p.threads[i]? = some th) (hM:Is1 M (hasD th.locals)) (hLS : ∀ n,hasD p.locks n=true→hasD p.shared n=false) : ∀ (l:List Stmt) (deep:Int),Ag (blockW (topOf p) M l deep) (stmtsF p i l deep)
 | [],deep=>by unfold blockW stmtsF; rfl
 | s::l,deep=>by
  have h1:=stmt_ag hi hM hLS s deep
  have h2:=block_ag hi hM hLS l deep
  unfold blockW stmtsF
  rw [h1.rule]
  cases he:stmtW (topOf p) M s deep with
  | some f=>rw [he] at h1; exact h1
  | none=>exact h2
end
end
theorem one_nil:Is1 [] (hasD []):=⟨fun p hp=>by simp at hp,fun n=>rfl⟩
theorem above_is (p:Prg):Is1 (aboveM p) fun n=>hasD p.shared n || hasD p.locks n:=by
 have:=(one_nil.ones p.shared).ones p.locks
 refine ⟨this.txt,fun n => ?_⟩
 rw [show aboveM p=ones (ones [] p.shared) p.locks from rfl,this.get]
 simp [hasD]
theorem ths_ag (p:Prg) (hLS : ∀ n,hasD p.locks n=true→hasD p.shared n=false) : ∀ (l:List Thread) (i:Nat) (M:MI),l=p.threads.drop i→i≤8→Is1 M (fun n=>hasD p.shared n || hasD p.locks n || hasT (p.threads.take i) n)→Ag (thsW p (topOf p) l i M) (threadsF p i l ⟨0,0⟩)
 | [],i,M,_,_,_=>by unfold thsW threadsF; rfl
 | t::l,i,M,hl,hi8,hM=>by
  have hlt:i<p.threads.length:=by
   rcases Nat.lt_or_ge i p.threads.length with h | h
   ·exact h
   ·rw [List.drop_of_length_le h] at hl; cases hl
  have hi:p.threads[i]? = some t:=by
   have:=congrArg List.head? hl
   rw [List.head?_cons,List.head?_drop] at this
   exact this.symm
  have hl':l=p.threads.drop (i+1):=by
   have:=congrArg List.tail hl
   rw [List.tail_cons,List.tail_drop] at this
   exact this
  have h3:((i:Int) == 8)=decide ((i:Int) ≥ 8):=by
   rw [Bool.eq_iff_iff]; simp only [beq_iff_eq,decide_eq_true_eq]; omega
  have hd:decide (threadI p.threads t.name 0<i)=hasT (p.threads.take i) t.name:=by
   have:=threadI_lt p.threads t.name 0 i t hi (by unfold seq; simp)
   rw [Nat.zero_add] at this; exact this
  have h2:(decide (findI p.shared t.name 0 ≥ 0) || decide (findI p.locks t.name 0 ≥ 0) || decide (threadI p.threads t.name 0<i))=decide (mgetI M (.ks t.name) > 0):=by
   rw [hM.pos,findI_has,findI_has,hd]
  have hlo:=locs_ag p (aboveM p) (above_is p) t.locals 0 [] [] rfl (by omega) one_nil
  have hM1:Is1 (ones [] t.locals) (hasD t.locals):=by
   have:=one_nil.ones t.locals
   refine ⟨this.txt,fun n => ?_⟩
   rw [this.get]; simp [hasD]
  have hbl:=block_ag hi hM1 hLS t.body 1
  unfold thsW threadsF thRules
  rw [least3,h2,h3]
  cases hn : !nameB t.name with
  | true=>exact ⟨rfl,show (1:Int)≠0 by decide⟩
  | false =>
  cases hs:decide (mgetI M (.ks t.name) > 0) with
  | true=>exact ⟨rfl,show (2:Int)≠0 by decide⟩
  | false =>
  cases h8:decide ((i:Int) ≥ 8) with
  | true=>exact ⟨rfl,show (3:Int)≠0 by decide⟩
  | false =>
  have h8:=of_decide_eq_false h8
  show Ag (match threadW p (topOf p) t with | some f=>some f | none=>thsW p (topOf p) l (i+1) (mputI M (.ks t.name) 1)) (threadsF p (i+1) l (bif (declsF p 2 64 [] t.locals).rule == 0 then stmtsF p i t.body 1 else declsF p 2 64 [] t.locals))
  have hth:Ag (threadW p (topOf p) t) (bif (declsF p 2 64 [] t.locals).rule == 0 then stmtsF p i t.body 1 else declsF p 2 64 [] t.locals):=by
   unfold threadW
   have hr:=hlo.rule
   cases ho:localsW (aboveM p) t.locals 0 [] with
   | some f =>
    rw [ho] at hlo hr
    have:((declsF p 2 64 [] t.locals).rule == 0)=false:=by simpa using hr
    rw [this]; exact hlo
   | none =>
    rw [ho] at hr
    have:((declsF p 2 64 [] t.locals).rule == 0)=true:=by simpa using hr
    rw [this]; exact hbl
  have ih:=ths_ag p hLS l (i+1) (mputI M (.ks t.name) 1) hl' (by omega) (by
   have:=hM.put t.name
   refine ⟨this.txt,fun n => ?_⟩
   rw [this.get,take_snoc hi]
   simp [hasT,Bool.or_assoc])
  generalize (bif (declsF p 2 64 [] t.locals).rule == 0 then stmtsF p i t.body 1 else declsF p 2 64 [] t.locals)=f at *
  cases ho:threadW p (topOf p) t with
  | some g =>
   rw [ho] at hth
   obtain ⟨rfl,hg⟩:=hth
   have key : ∀ (l:List Thread) (i:Nat),threadsF p i l f=f:=by
    intro l
    cases l with
    | nil=>intro i; unfold threadsF; rfl
    | cons t l=>intro i; unfold threadsF; rw [show (f.rule != 0)=true by simpa using hg]; rfl
   rw [key]
   exact ⟨rfl,hg⟩
  | none =>
   rw [ho] at hth
   have hth:f=⟨0,0⟩:=hth
   rw [hth]
   exact ih
theorem first_ag (p:Prg):Ag (firstW p) (firstF p):=by
 have h1:=tops_ag p 0 64 minW (fun w=>by unfold minW wordI; cases (w == -9223372036854775808) <;> rfl) (fun _=>false) (fun pre name=>by unfold twiceB; rw [findI_has]; simp) p.shared 0 [] [] rfl (by omega) ⟨fun p hp=>by simp at hp,fun n=>rfl⟩
 have h2:=tops_ag p 1 16 anyW (fun w=>by unfold anyW wordI; rfl) (fun n=>hasD p.shared n) (fun pre name=>by unfold twiceB; rw [findI_has,findI_has]; simp [Bool.or_comm]) p.locks 0 (ones [] p.shared) [] rfl (by omega) (by
  have:=one_nil.ones p.shared
  refine ⟨this.txt,fun n => ?_⟩
  rw [this.get]; simp [hasD])
 unfold firstW firstF
 have r1:=h1.rule
 cases ho:topsW 64 minW p.shared 0 [] with
 | some f =>
  rw [show ((64:Nat):Int)=64 from rfl,ho] at h1 r1
  have:((declsF p 0 64 [] p.shared).rule == 0)=false:=by simpa using r1
  rw [this]
  obtain ⟨h1,hf⟩:=h1
  have h1:declsF p 0 64 [] p.shared=f:=h1
  rw [cond_false,h1]
  refine ⟨?_,hf⟩
  cases p.threads with
  | nil=>unfold threadsF; rfl
  | cons t l=>unfold threadsF; rw [show (f.rule != 0)=true by simpa using hf]; rfl
 | none =>
  rw [show ((64:Nat):Int)=64 from rfl,ho] at h1 r1
  have:((declsF p 0 64 [] p.shared).rule == 0)=true:=by simpa using r1
  rw [this,cond_true]
  have r2:=h2.rule
  cases ho2:topsW 16 anyW p.locks 0 (ones [] p.shared) with
  | some f =>
   rw [show ((16:Nat):Int)=16 from rfl,ho2] at h2
   obtain ⟨h2,hf⟩:=h2
   have h2:declsF p 1 16 [] p.locks=f:=h2
   rw [h2]
   refine ⟨?_,hf⟩
   cases p.threads with
   | nil=>unfold threadsF; rfl
   | cons t l=>unfold threadsF; rw [show (f.rule != 0)=true by simpa using hf]; rfl
  | none =>
   rw [show ((16:Nat):Int)=16 from rfl,ho2] at h2
   have h2:declsF p 1 16 [] p.locks=⟨0,0⟩:=h2
   rw [h2]
   refine ths_ag p ?_ p.threads 0 _ (by rw [List.drop_zero]) (by omega) ?_
   ·
    have key : ∀ (l:List Decl) (i:Nat) (M:MI) (pre:List Decl),Is1 M (fun n=>hasD p.shared n || hasD pre n)→topsW 16 anyW l i M=none → ∀ d ∈ l,hasD p.shared d.name=false:=by
     intro l
     induction l with
     | nil=>intro i M pre _ _ d hd; simp at hd
     | cons x l ih =>
      intro i M pre hM h d hd
      have hL:leastW (topRules M 16 anyW i x) 0=bif !nameB x.name then 1 else bif (hasD p.shared x.name || hasD pre x.name) then 2 else bif ((i:Int) == 16) then 3 else bif anyW x.word then 4 else 0:=by
       unfold topRules; rw [least4,hM.pos]
      unfold topsW at h
      cases hb:decide (leastW (topRules M 16 anyW i x) 0 > 0) with
      | true=>rw [hb] at h; cases h
      | false =>
      rw [hb] at h
      have hn:topsW 16 anyW l (i+1) (mputI M (.ks x.name) 1)=none:=h
      have hsx:hasD p.shared x.name=false:=by
       cases hs:hasD p.shared x.name with
       | false=>rfl
       | true =>
        rw [hL,hs,Bool.true_or] at hb
        have hb:=of_decide_eq_false hb
        exfalso
        apply hb
        cases nameB x.name
        ·show (1:Int) > 0; decide
        ·show (2:Int) > 0; decide
      rcases List.mem_cons.1 hd with rfl | hd
      ·exact hsx
      ·exact ih (i+1) _ (pre++[x]) (by
        have:=hM.put x.name
        refine ⟨this.txt,fun n => ?_⟩
        rw [this.get]; simp [hasD,Bool.or_assoc]) hn d hd
    intro n hn
    unfold hasD at hn
    obtain ⟨d,hd,hdn⟩:=List.any_eq_true.1 hn
    have:=key p.locks 0 _ [] (by
     have:=one_nil.ones p.shared
     refine ⟨this.txt,fun n => ?_⟩
     rw [this.get]; simp [hasD]) ho2 d hd
    have e : ∀ x:ByteArray,seq x d.name=seq x n:=fun x=>by
     unfold seq at *
     rw [show d.name.toList=n.toList by simpa using hdn]
    unfold hasD at this ⊢
    simpa [e] using this
   ·have:=(one_nil.ones p.shared).ones p.locks
    refine ⟨this.txt,fun n => ?_⟩
    rw [this.get]; simp [hasD,hasT]
theorem check_eq (p:Prg):checkW p=checkF p:=by
 have h:=first_ag p
 have hr:=h.rule
 unfold checkW checkF
 cases ho:firstW p with
 | some f =>
  rw [ho] at h hr
  rw [hr]
  obtain ⟨rfl,_⟩:=h
  rfl
 | none =>
  rw [ho] at hr
  rw [hr]; rfl
end Go.Proofs.YthboippafkcoiaaDoor.am
namespace Go.Proofs.YthboippafkcoiaaDoor.am
open Go Go.Proofs
set_option linter.all false
def varB (c:LowC) (name:ByteArray):Bool:=decide (localI c.p c.t name ≥ 0) || decide (findI c.p.shared name 0 ≥ 0)
mutual
def okE (c:LowC):Expr→Bool
 | .mk kind op word name kids at_=>partsB (.mk kind op word name kids at_) && (kind != 2 || varB c name) && okEs c kids
def okEs (c:LowC):List Expr→Bool
 | []=>true
 | e::l=>okE c e && okEs c l
end
def nmOkB (c:LowC) (kind:Int) (name other:ByteArray):Bool :=
 bif kind == 1 then varB c name else bif kind == 2 then varB c name && decide (findI c.p.shared other 0 ≥ 0) else bif kind == 5 then decide (findI c.p.locks name 0 ≥ 0) else true
mutual
def okS (c:LowC):Stmt→Bool
 | .mk kind name other e body els at_=>fieldsB (.mk kind name other e body els at_) && nmOkB c kind name other && okEs c e && okSs c body && okSs c els
def okSs (c:LowC):List Stmt→Bool
 | []=>true
 | x::l=>okS c x && okSs c l
end
theorem okEs_get {c:LowC} : ∀ {l:List Expr} {i:Nat} {d:Expr},okEs c l=true→l[i]? = some d→okE c d=true
 | [],i,d,_,e=>by cases e
 | x::l,0,d,h,e=>by cases e; unfold okEs at h; rw [Bool.and_eq_true] at h; exact h.1
 | x::l,i+1,d,h,e=>by unfold okEs at h; rw [Bool.and_eq_true] at h; exact okEs_get h.2 e
theorem okSs_get {c:LowC} : ∀ {l:List Stmt} {i:Nat} {d:Stmt},okSs c l=true→l[i]? = some d→okS c d=true
 | [],i,d,_,e=>by cases e
 | x::l,0,d,h,e=>by cases e; unfold okSs at h; rw [Bool.and_eq_true] at h; exact h.1
 | x::l,i+1,d,h,e=>by unfold okSs at h; rw [Bool.and_eq_true] at h; exact okSs_get h.2 e
theorem not_f {b:Bool} (h:(!b)=false):b=true:=by simpa using h
theorem deep_zero {r deep:Int} (h:deepI r deep=0):r=0:=by
 unfold deepI at h
 cases hb:((r == 0) && decide (deep > 64)) with
 | true=>rw [hb] at h; cases h
 | false=>rw [hb] at h; exact h
theorem var_zero {c:LowC} {name:ByteArray} {b:Bool} (h:variableI c.p c.t name b=0):varB c name=true∧(b=true→decide (findI c.p.shared name 0 ≥ 0)=true):=by
 unfold variableI at h
 unfold varB
 cases h1:decide (localI c.p c.t name ≥ 0) with
 | true =>
  rw [h1] at h
  cases b with
  | true=>cases h
  | false=>exact ⟨rfl,fun q=>by cases q⟩
 | false =>
  rw [h1] at h
  cases h2:decide (findI c.p.shared name 0 ≥ 0) with
  | true=>exact ⟨rfl,fun _=>rfl⟩
  | false =>
   rw [h2] at h
   cases h3:(decide (findI c.p.locks name 0 ≥ 0) || decide (threadI c.p.threads name 0 ≥ 0)) <;> rw [h3] at h <;> cases h
theorem least_zero {a b:Int} (h:leastI a b=0):a=0∧b=0:=by
 unfold leastI at h
 cases h1:(a == 0) with
 | true=>rw [h1,Bool.true_or,cond_true] at h; exact ⟨eq_of_beq h1,h⟩
 | false =>
  have h2:a≠0:=by simpa using h1
  rw [h1,Bool.false_or] at h
  cases h3:(decide (b > 0) && decide (b<a)) with
  | true =>
   rw [h3,cond_true] at h
   simp only [Bool.and_eq_true,decide_eq_true_eq] at h3
   omega
  | false=>rw [h3,cond_false] at h; exact absurd h h2
theorem lock_zero {c:LowC} {name:ByteArray} (h:lockI c.p c.t name=0):decide (findI c.p.locks name 0 ≥ 0)=true:=by
 unfold lockI at h
 cases h1:decide (localI c.p c.t name ≥ 0) with
 | true=>rw [h1] at h; cases h
 | false =>
  rw [h1] at h
  cases h2:decide (findI c.p.locks name 0 ≥ 0) with
  | true=>rfl
  | false =>
   rw [h2] at h
   cases h3:(decide (findI c.p.shared name 0 ≥ 0) || decide (threadI c.p.threads name 0 ≥ 0)) <;> rw [h3] at h <;> cases h
theorem rule_first {a b:Flt} (h:(bif a.rule != 0 then a else b).rule=0):a.rule=0∧b.rule=0:=by
 cases h1:(a.rule != 0) with
 | true =>
  rw [h1,cond_true] at h
  rw [h] at h1; cases h1
 | false =>
  rw [h1,cond_false] at h
  exact ⟨by simpa using h1,h⟩
theorem rule_at {b:Bool} {at_ r:Int} {f:Flt} (hr:r≠0) (h:(bif b then ⟨at_,r⟩ else f).rule=0):b=false∧f.rule=0:=by
 cases b with
 | true=>exact absurd h hr
 | false=>exact ⟨rfl,h⟩
theorem rule_ne {at_ r:Int} {f:Flt} (h:(bif r != 0 then ⟨at_,r⟩ else f).rule=0):r=0∧f.rule=0:=by
 cases h1:(r != 0) with
 | true =>
  rw [h1,cond_true] at h
  have h:r=0:=h
  rw [h] at h1; cases h1
 | false=>rw [h1,cond_false] at h; exact ⟨by simpa using h1,h⟩
mutual
theorem exprF_ok (c:LowC) : ∀ (e:Expr) (deep:Int),(exprF c.p c.t e deep).rule=0→okE c e=true
 | .mk kind op word name kids at_,deep,h=>by
  have hk:=fun d=>exprsF_ok c kids d
  unfold exprF at h
  obtain ⟨h1,h⟩:=rule_at (by decide) h
  obtain ⟨h2,h⟩:=rule_ne h
  have h3:=deep_zero h2
  unfold okE
  rw [hk _ h,not_f h1]
  cases k2:kind == 2 with
  | false =>
             have:(kind != 2)=true:=by unfold bne; rw [k2]; rfl
             rw [this]; rfl
  | true =>
   rw [k2,cond_true] at h3
   rw [(var_zero h3).1,Bool.or_true]; rfl
theorem exprsF_ok (c:LowC) : ∀ (l:List Expr) (deep:Int),(exprsF c.p c.t l deep).rule=0→okEs c l=true
 | [],_,_=>by unfold okEs; rfl
 | e::l,deep,h=>by
  unfold exprsF at h
  obtain ⟨h1,h⟩:=rule_first h
  unfold okEs
  rw [exprF_ok c e deep h1,exprsF_ok c l deep h]; rfl
end
mutual
theorem stmtF_ok (c:LowC) : ∀ (x:Stmt) (deep:Int),(stmtF c.p c.t x deep).rule=0→okS c x=true
 | .mk kind name other e body els at_,deep,h=>by
  have hb:=fun d=>stmtsF_ok c body d
  have hl:=fun d=>stmtsF_ok c els d
  unfold stmtF at h
  obtain ⟨h1,h⟩:=rule_at (by decide) h
  obtain ⟨h2,h⟩:=rule_ne h
  obtain ⟨h3,h⟩:=rule_first h
  obtain ⟨h4,h⟩:=rule_first h
  have h5:=deep_zero h2
  have h6:nmOkB c kind name other=true:=by
   unfold namesI at h5
   unfold nmOkB
   cases k1:kind == 1 with
   | true=>rw [k1] at h5; exact (var_zero h5).1
   | false =>
   rw [k1,cond_false] at h5
   cases k2:kind == 2 with
   | true =>
    rw [k2,cond_true] at h5
    obtain ⟨q1,q2⟩:=least_zero h5
    rw [cond_false,cond_true,(var_zero q1).1,(var_zero q2).2 rfl]; rfl
   | false =>
   rw [k2,cond_false] at h5
   cases k5:kind == 5 with
   | true=>rw [k5] at h5; exact lock_zero h5
   | false=>rfl
  unfold okS
  rw [not_f h1,h6,exprsF_ok c e 1 h3,hb _ h4,hl _ h]; rfl
theorem stmtsF_ok (c:LowC) : ∀ (l:List Stmt) (deep:Int),(stmtsF c.p c.t l deep).rule=0→okSs c l=true
 | [],_,_=>by unfold okSs; rfl
 | x::l,deep,h=>by
  unfold stmtsF at h
  obtain ⟨h1,h⟩:=rule_first h
  unfold okSs
  rw [stmtF_ok c x deep h1,stmtsF_ok c l deep h]; rfl
end
structure ThOk (p:Prg) (i:Nat) (th:Thread):Prop where
 name:nameB th.name=true
 shared:decide (findI p.shared th.name 0 ≥ 0)=false
 locks:decide (findI p.locks th.name 0 ≥ 0)=false
 first:decide (threadI p.threads th.name 0<i)=false
 few:i<8
 locals:(declsF p 2 64 [] th.locals).rule=0
 body:(stmtsF p i th.body 1).rule=0
theorem threadsF_ok (p:Prg) : ∀ (l:List Thread) (i:Nat) (f:Flt),(threadsF p i l f).rule=0→f.rule=0 ∧ ∀ j th,l[j]? = some th→ThOk p (i+j) th
 | [],_,f,h=>⟨h,fun j th e=>by cases e⟩
 | t::l,i,f,h=>by
  unfold threadsF at h
  obtain ⟨h0,h⟩:=rule_first h
  obtain ⟨h1,h⟩:=rule_at (by decide) h
  obtain ⟨h2,h⟩:=rule_at (by decide) h
  obtain ⟨h3,h⟩:=rule_at (by decide) h
  obtain ⟨h4,h⟩:=threadsF_ok p l (i+1) _ h
  simp only [Bool.or_eq_false_iff] at h2
  refine ⟨h0,fun j th e => ?_⟩
  cases j with
  | zero =>
   cases e
   have h5:(declsF p 2 64 [] t.locals).rule=0∧(stmtsF p i t.body 1).rule=0:=by
    cases hd:((declsF p 2 64 [] t.locals).rule == 0) with
    | true=>rw [hd,cond_true] at h4; exact ⟨eq_of_beq hd,h4⟩
    | false=>rw [hd,cond_false] at h4; rw [h4] at hd; cases hd
   exact ⟨not_f h1,h2.1.1,h2.1.2,h2.2,by have:=of_decide_eq_false h3; omega,h5.1,h5.2⟩
  | succ j =>
   have:=h j th e
   rwa [show i+1+j=i+(j+1) by omega] at this
theorem declsF_ok (p:Prg) (kind most:Int) : ∀ (l pre:List Decl),(declsF p kind most pre l).rule=0 → ∀ j d,l[j]? = some d→declI p kind (pre++l.take j) d (pre.length+j:Nat) most=0
 | [],_,_,j,d,e=>by cases e
 | x::l,pre,h,j,d,e=>by
  unfold declsF at h
  obtain ⟨h1,h⟩:=rule_ne h
  cases j with
  | zero=>cases e; rw [List.take_zero,List.append_nil,Nat.add_zero]; exact h1
  | succ j =>
   have:=declsF_ok p kind most l _ h j d e
   rw [List.length_append,List.append_assoc,List.singleton_append] at this
   rwa [show pre.length+[x].length+j=pre.length+(j+1) by simp; omega] at this
structure PrgOk (p:Prg):Prop where
 shared:(declsF p 0 64 [] p.shared).rule=0
 locks:(declsF p 1 16 [] p.locks).rule=0
 threads : ∀ i th,p.threads[i]? = some th→ThOk p i th
theorem check_prg {p:Prg} (h:(checkW p).1=0):PrgOk p:=by
 rw [check_eq] at h
 unfold checkF at h
 have h:(firstF p).rule=0:=by
  cases hb:((firstF p).rule != 0) with
  | true=>rw [hb] at h; exact absurd (show (50:Int)=0 from h) (by decide)
  | false=>simpa using hb
 unfold firstF at h
 obtain ⟨h1,h2⟩:=threadsF_ok p _ _ _ h
 have h3:(declsF p 0 64 [] p.shared).rule=0∧(declsF p 1 16 [] p.locks).rule=0:=by
  cases hd:((declsF p 0 64 [] p.shared).rule == 0) with
  | true=>rw [hd,cond_true] at h1; exact ⟨eq_of_beq hd,h1⟩
  | false=>rw [hd,cond_false] at h1; rw [h1] at hd; cases hd
 exact ⟨h3.1,h3.2,fun i th e=>by have:=h2 i th e; rwa [Nat.zero_add] at this⟩
theorem decl_few {p:Prg} {kind most:Int} {pre l:List Decl} {d:Decl} {i:Int} (h:declI p kind pre d i most=0):nameB d.name=true∧twiceB p kind pre d.name=false∧i<most∧wordI kind d.word=false:=by
 unfold declI at h
 cases h1:(!nameB d.name) with
 | true=>rw [h1] at h; cases h
 | false =>
 cases h2:twiceB p kind pre d.name with
 | true=>rw [h1,h2] at h; cases h
 | false =>
 cases h3:decide (i ≥ most) with
 | true=>rw [h1,h2,h3] at h; cases h
 | false =>
 cases h4:wordI kind d.word with
 | true=>rw [h1,h2,h3,h4] at h; cases h
 | false=>exact ⟨not_f h1,rfl,by have:=of_decide_eq_false h3; omega,rfl⟩
theorem decls_few {p:Prg} {kind:Int} {most:Nat} {l:List Decl} (h:(declsF p kind most [] l).rule=0):l.length≤most:=by
 rcases Nat.eq_zero_or_pos l.length with q | q
 ·omega
 ·obtain ⟨d,hd⟩ : ∃ d,l[l.length - 1]? = some d:=⟨_,List.getElem?_eq_getElem (by omega)⟩
  have:=(decl_few (l:=l) (declsF_ok p kind most l [] h _ d hd)).2.2.1
  rw [List.length_nil] at this
  omega
theorem within_yes {p has k most:Int} (hp:(andP p has == 0)=false) (h1:0≤k) (h2:k<most):withinB p has k most=true:=by
 unfold withinB
 have e:(andP p has != 0)=true:=by unfold bne; rw [hp]; rfl
 rw [hp,e,decide_eq_true (show k ≥ 0 from h1),decide_eq_true h2]; rfl
theorem within_no {p has most:Int} (hp:(andP p has == 0)=true):withinB p has 0 most=true:=by
 unfold withinB
 rw [hp]; rfl
def vOk (S:Int) (v:Val):Bool:=bif v.s then (decide (v.k ≥ 0) && decide (v.k<S) && v.w == 0) else v.k == 0
theorem value_yes {p has S:Int} {v:Val} (hp:(andP p has == 0)=false) (h:vOk S v=true):valueB p has v S=true:=by
 unfold valueB; rw [hp]; exact h
theorem value_no {p has S:Int} (hp:(andP p has == 0)=true):valueB p has v00 S=true:=by
 unfold valueB; rw [hp]; rfl
theorem right_of {u:Un} {g:Gr} {n:Nd} (h0:(n.kind == 0)=false) (h1:decide (n.kind ≥ 10)=false) (h2:0≤n.origin) (h3:n.origin<4096) (h:fieldsR u g n (partsI n.kind n.op)=true):rightB u g n=true:=by
 unfold rightB headR
 rw [h0,h1,decide_eq_false (show ¬ n.origin<0 by omega),decide_eq_false (show ¬ n.origin ≥ 4096 by omega)]
 exact h
theorem fieldsR_of {u:Un} {g:Gr} {n:Nd} {p:Int} (h1:withinB p 1 n.op 19=true) (h2:withinB p 2 n.slot g.slots=true) (h3:withinB p 4 n.thing (thingsI u n)=true) (h4:withinB p 32 n.next g.nodes.length=true) (h5:withinB p 64 n.els g.nodes.length=true) (h6:valueB p 8 n.a g.slots=true) (h7:valueB p 16 n.b g.slots=true):fieldsR u g n p=true:=by
 unfold fieldsR
 rw [h1,h2,h3,h4,h5,h6,h7]; rfl
section
variable {u:Un} {g:Gr} {S N:Nat} (hS:g.slots=(S:Nat)) (hN:g.nodes.length=N)
include hS hN
theorem right_set2 {op:Int} {a b:Val} {m to o:Nat} (ht:two op=true) (ha:vOk S a=true) (hb:vOk S b=true) (hm:m<S) (hto:to<N) (ho:o<4096):rightB u g { nd00 with kind:=1,op:=op,a:=a,b:=b,slot:=(m:Nat),next:=(to:Nat),origin:=(o:Nat) }=true:=by
 refine right_of rfl rfl (by show (0:Int)≤(o:Nat); omega) (by show ((o:Nat):Int)<4096; omega) ?_
 have e:partsI 1 op=59:=by unfold partsI; rw [ht]; rfl
 have h2:=ht
 unfold two at h2
 simp only [Bool.and_eq_true,decide_eq_true_eq] at h2
 show fieldsR u g _ (partsI 1 op)=true
 rw [e]
 exact fieldsR_of (within_yes (k:=op) (by kernel_rfl) (by omega) (by omega)) (within_yes (k:=(m:Nat)) (by kernel_rfl) (by omega) (by omega)) (within_no (by kernel_rfl)) (within_yes (k:=(to:Nat)) (by kernel_rfl) (by omega) (by omega)) (within_no (by kernel_rfl)) (value_yes (by kernel_rfl) (by rw [hS]; exact ha)) (value_yes (by kernel_rfl) (by rw [hS]; exact hb))
theorem right_set1 {op:Int} {a:Val} {k:Int} {to o:Nat} (ht:two op=false) (h0:0≤op) (h1:op<19) (ha:vOk S a=true) (hm0:0≤k) (hm:k<S) (hto:to<N) (ho:o<4096):rightB u g { nd00 with kind:=1,op:=op,a:=a,slot:=k,next:=(to:Nat),origin:=(o:Nat) }=true:=by
 refine right_of rfl rfl (by show (0:Int)≤(o:Nat); omega) (by show ((o:Nat):Int)<4096; omega) ?_
 have e:partsI 1 op=43:=by unfold partsI; rw [ht]; rfl
 show fieldsR u g _ (partsI 1 op)=true
 rw [e]
 exact fieldsR_of (within_yes (k:=op) (by kernel_rfl) (by omega) (by omega)) (within_yes (k:=k) (by kernel_rfl) (by omega) (by omega)) (within_no (by kernel_rfl)) (within_yes (k:=(to:Nat)) (by kernel_rfl) (by omega) (by omega)) (within_no (by kernel_rfl)) (value_yes (by kernel_rfl) (by rw [hS]; exact ha)) (value_no (by kernel_rfl))
theorem right_load {thing:Int} {m to o:Nat} (h0:0≤thing) (h1:thing<u.shared.length) (hm:m<S) (hto:to<N) (ho:o<4096):rightB u g { nd00 with kind:=2,thing:=thing,slot:=(m:Nat),next:=(to:Nat),origin:=(o:Nat) }=true:=by
 refine right_of rfl rfl (by show (0:Int)≤(o:Nat); omega) (by show ((o:Nat):Int)<4096; omega) ?_
 show fieldsR u g _ 38=true
 exact fieldsR_of (within_no (by kernel_rfl)) (within_yes (k:=(m:Nat)) (by kernel_rfl) (by omega) (by omega)) (within_yes (k:=thing) (by kernel_rfl) h0 h1) (within_yes (k:=(to:Nat)) (by kernel_rfl) (by omega) (by omega)) (within_no (by kernel_rfl)) (value_no (by kernel_rfl)) (value_no (by kernel_rfl))
theorem right_store {thing:Int} {a:Val} {to o:Nat} (h0:0≤thing) (h1:thing<u.shared.length) (ha:vOk S a=true) (hto:to<N) (ho:o<4096):rightB u g { nd00 with kind:=3,thing:=thing,a:=a,next:=(to:Nat),origin:=(o:Nat) }=true:=by
 refine right_of rfl rfl (by show (0:Int)≤(o:Nat); omega) (by show ((o:Nat):Int)<4096; omega) ?_
 show fieldsR u g _ 44=true
 exact fieldsR_of (within_no (by kernel_rfl)) (within_no (by kernel_rfl)) (within_yes (k:=thing) (by kernel_rfl) h0 h1) (within_yes (k:=(to:Nat)) (by kernel_rfl) (by omega) (by omega)) (within_no (by kernel_rfl)) (value_yes (by kernel_rfl) (by rw [hS]; exact ha)) (value_no (by kernel_rfl))
theorem right_swap {thing k:Int} {a:Val} {to o:Nat} (h0:0≤thing) (h1:thing<u.shared.length) (ha:vOk S a=true) (hm0:0≤k) (hm:k<S) (hto:to<N) (ho:o<4096):rightB u g { nd00 with kind:=4,thing:=thing,a:=a,slot:=k,next:=(to:Nat),origin:=(o:Nat) }=true:=by
 refine right_of rfl rfl (by show (0:Int)≤(o:Nat); omega) (by show ((o:Nat):Int)<4096; omega) ?_
 show fieldsR u g _ 46=true
 exact fieldsR_of (within_no (by kernel_rfl)) (within_yes (k:=k) (by kernel_rfl) (by omega) (by omega)) (within_yes (k:=thing) (by kernel_rfl) h0 h1) (within_yes (k:=(to:Nat)) (by kernel_rfl) (by omega) (by omega)) (within_no (by kernel_rfl)) (value_yes (by kernel_rfl) (by rw [hS]; exact ha)) (value_no (by kernel_rfl))
theorem right_lock {thing:Int} {to o:Nat} (h0:0≤thing) (h1:thing<u.locks.length) (hto:to<N) (ho:o<4096):rightB u g { nd00 with kind:=5,thing:=thing,next:=(to:Nat),origin:=(o:Nat) }=true:=by
 refine right_of rfl rfl (by show (0:Int)≤(o:Nat); omega) (by show ((o:Nat):Int)<4096; omega) ?_
 show fieldsR u g _ 36=true
 exact fieldsR_of (within_no (by kernel_rfl)) (within_no (by kernel_rfl)) (within_yes (k:=thing) (by kernel_rfl) h0 h1) (within_yes (k:=(to:Nat)) (by kernel_rfl) (by omega) (by omega)) (within_no (by kernel_rfl)) (value_no (by kernel_rfl)) (value_no (by kernel_rfl))
theorem right_unlock {thing:Int} {to o:Nat} (h0:0≤thing) (h1:thing<u.locks.length) (hto:to<N) (ho:o<4096):rightB u g { nd00 with kind:=6,thing:=thing,next:=(to:Nat),origin:=(o:Nat) }=true:=by
 refine right_of rfl rfl (by show (0:Int)≤(o:Nat); omega) (by show ((o:Nat):Int)<4096; omega) ?_
 show fieldsR u g _ 36=true
 exact fieldsR_of (within_no (by kernel_rfl)) (within_no (by kernel_rfl)) (within_yes (k:=thing) (by kernel_rfl) h0 h1) (within_yes (k:=(to:Nat)) (by kernel_rfl) (by omega) (by omega)) (within_no (by kernel_rfl)) (value_no (by kernel_rfl)) (value_no (by kernel_rfl))
theorem right_print {a:Val} {to o:Nat} (ha:vOk S a=true) (hto:to<N) (ho:o<4096):rightB u g { nd00 with kind:=7,a:=a,next:=(to:Nat),origin:=(o:Nat) }=true:=by
 refine right_of rfl rfl (by show (0:Int)≤(o:Nat); omega) (by show ((o:Nat):Int)<4096; omega) ?_
 show fieldsR u g _ 40=true
 exact fieldsR_of (within_no (by kernel_rfl)) (within_no (by kernel_rfl)) (within_no (by kernel_rfl)) (within_yes (k:=(to:Nat)) (by kernel_rfl) (by omega) (by omega)) (within_no (by kernel_rfl)) (value_yes (by kernel_rfl) (by rw [hS]; exact ha)) (value_no (by kernel_rfl))
theorem right_branch {a:Val} {to el o:Nat} (ha:vOk S a=true) (hto:to<N) (hel:el<N) (ho:o<4096):rightB u g { nd00 with kind:=8,a:=a,next:=(to:Nat),els:=(el:Nat),origin:=(o:Nat) }=true:=by
 refine right_of rfl rfl (by show (0:Int)≤(o:Nat); omega) (by show ((o:Nat):Int)<4096; omega) ?_
 show fieldsR u g _ 104=true
 exact fieldsR_of (within_no (by kernel_rfl)) (within_no (by kernel_rfl)) (within_no (by kernel_rfl)) (within_yes (k:=(to:Nat)) (by kernel_rfl) (by omega) (by omega)) (within_yes (k:=(el:Nat)) (by kernel_rfl) (by omega) (by omega)) (value_yes (by kernel_rfl) (by rw [hS]; exact ha)) (value_no (by kernel_rfl))
theorem right_end {o:Nat} (ho:o<4096):rightB u g { nd00 with kind:=9,origin:=(o:Nat) }=true:=by
 refine right_of rfl rfl (by show (0:Int)≤(o:Nat); omega) (by show ((o:Nat):Int)<4096; omega) ?_
 show fieldsR u g _ 0=true
 exact fieldsR_of (within_no (by kernel_rfl)) (within_no (by kernel_rfl)) (within_no (by kernel_rfl)) (within_no (by kernel_rfl)) (within_no (by kernel_rfl)) (value_no (by kernel_rfl)) (value_no (by kernel_rfl))
end
end Go.Proofs.YthboippafkcoiaaDoor.am
namespace Go.Proofs.YthboippafkcoiaaDoor.am
open Go Go.Proofs
set_option linter.all false
theorem findI_lt : ∀ (l:List Decl) (s:ByteArray) (k:Nat),findI l s k<(k+l.length:Nat)
 | [],s,k=>by show (-1:Int)<_; omega
 | d::l,s,k=>by
  show (if seq d.name s then (k:Int) else findI l s (k+1))<_
  rw [List.length_cons]
  split
  ·omega
  ·have:=findI_lt l s (k+1); omega
structure RCtx (c:LowC) (u:Un) (g:Gr) (S N:Nat):Prop where
 slots:g.slots=(S:Nat)
 nodes:g.nodes.length=N
 cap:N≤4096
 shared:u.shared=c.p.shared
 locks:u.locks=c.p.locks
 loc : ∀ name,localI c.p c.t name<(S:Nat)
theorem RCtx.sh {c:LowC} {u:Un} {g:Gr} {S N:Nat} (h:RCtx c u g S N) {name:ByteArray}:findI c.p.shared name 0<(u.shared.length:Nat):=by
 have:=findI_lt c.p.shared name 0
 rw [h.shared]; omega
theorem RCtx.lk {c:LowC} {u:Un} {g:Gr} {S N:Nat} (h:RCtx c u g S N) {name:ByteArray}:findI c.p.locks name 0<(u.locks.length:Nat):=by
 have:=findI_lt c.p.locks name 0
 rw [h.locks]; omega
theorem vOk_in {S:Nat} {k:Int} (h0:0≤k) (h1:k<(S:Nat)):vOk S (inV k)=true:=by
 show (decide (k ≥ 0) && decide (k<(S:Int)) && ((0:Int) == 0))=true
 rw [decide_eq_true (show k ≥ 0 from h0),decide_eq_true h1]; rfl
theorem exprV_ok {c:LowC} {u:Un} {g:Gr} {S N:Nat} (h:RCtx c u g S N) : ∀ (e:Expr) (m:Nat),m+szE c e≤S→vOk S (exprV c e m)=true
 | .mk kind op word name kids _,m,hm=>by
  unfold szE at hm
  rw [exprV_mk]
  cases k1:kind == 1 with
  | true=>rfl
  | false =>
  rw [k1] at hm
  cases k2:kind == 2 with
  | true =>
   rw [k2] at hm
   cases hl:decide (localI c.p c.t name ≥ 0) with
   | true=>exact vOk_in (of_decide_eq_true hl) (h.loc name)
   | false=>rw [hl] at hm; simp only [cond_true,cond_false] at hm; exact vOk_in (by omega) (by omega)
  | false =>
  rw [k2] at hm
  cases ht:two op with
  | true=>rw [ht] at hm; simp only [cond_true,cond_false] at hm; exact vOk_in (by omega) (by omega)
  | false=>rw [ht] at hm; simp only [cond_true,cond_false] at hm; exact vOk_in (by omega) (by omega)
theorem kid0V_ok {c:LowC} {u:Un} {g:Gr} {S N:Nat} (h:RCtx c u g S N) : ∀ (l:List Expr) (m:Nat),m+sz0 c l≤S→vOk S (kid0V c l m)=true
 | [],m,_=>rfl
 | e::_,m,hm=>by unfold sz0 at hm; exact exprV_ok h e m hm
theorem kid1V_ok {c:LowC} {u:Un} {g:Gr} {S N:Nat} (h:RCtx c u g S N) : ∀ (l:List Expr) (m:Nat),m+sz1 c l≤S→vOk S (kid1V c l m)=true
 | [],m,_=>rfl
 | _::r,m,hm=>by unfold sz1 at hm; exact kid0V_ok h r m hm
theorem one_op {kind op word:Int} {name:ByteArray} {kids:List Expr} {at_:Int} (h:partsB (.mk kind op word name kids at_)=true) (h1:(kind == 1)=false) (h2:(kind == 2)=false) (ht:two op=false):0≤op∧op<19:=by
 unfold partsB at h
 dsimp only at h
 rw [h1,cond_false,h2,cond_false] at h
 cases h3:(kind == 3) with
 | true =>
  rw [h3,cond_true] at h
  simp only [Bool.and_eq_true,Bool.or_eq_true,beq_iff_eq] at h
  omega
 | false =>
 rw [h3,cond_false] at h
 cases h4:(kind == 4) with
 | false=>rw [h4] at h; cases h
 | true =>
  rw [h4,cond_true,ht] at h
  simp at h
theorem mem_app {α:Type} {P:α→Prop} {X Y:List α} (h1 : ∀ n ∈ X,P n) (h2 : ∀ n ∈ Y,P n) : ∀ n ∈ X++Y,P n:=fun n hn=>(List.mem_append.1 hn).elim (h1 n) (h2 n)
theorem mem_cons2 {α:Type} {P:α→Prop} {x:α} {Y:List α} (h1:P x) (h2 : ∀ n ∈ Y,P n) : ∀ n ∈ x::Y,P n:=fun n hn=>(List.mem_cons.1 hn).elim (fun e=>e ▸ h1) (h2 n)
theorem mem_nil {α:Type} {P:α→Prop} : ∀ n ∈ ([]:List α),P n:=fun n hn=>by cases hn
mutual
theorem expr_right {c:LowC} {u:Un} {g:Gr} {S N:Nat} (h:RCtx c u g S N) : ∀ (e:Expr) (a m to:Nat),okE c e=true→a+szE c e≤N→m+szE c e≤S→to<N → ∀ n ∈ exprD c e a m to,rightB u g n=true
 | .mk kind op word name kids at_,a,m,to,hk,ha,hm,hto=>by
  have h0:=fun a m to=>kid0_right h kids a m to
  have h1:=fun a m to=>kid1_right h kids a m to
  have v0:=fun m=>kid0V_ok h kids m
  have v1:=fun m=>kid1V_ok h kids m
  have hcap:=h.cap
  unfold okE at hk
  simp only [Bool.and_eq_true] at hk
  obtain ⟨⟨hp,hv⟩,hks⟩:=hk
  unfold szE at ha hm
  unfold exprD
  cases k1:kind == 1 with
  | true=>exact mem_nil
  | false =>
  rw [k1] at ha hm
  cases k2:kind == 2 with
  | true =>
   rw [k2] at ha hm
   cases hl:decide (localI c.p c.t name ≥ 0) with
   | true=>exact mem_nil
   | false =>
    rw [hl] at ha hm
    simp only [cond_true,cond_false] at ha hm
    have e:(kind != 2)=false:=by unfold bne; rw [k2]; rfl
    unfold varB at hv
    rw [e,hl,Bool.false_or,Bool.false_or] at hv
    have q:=of_decide_eq_true hv
    exact mem_cons2 (right_load h.slots h.nodes q h.sh (by omega) hto (by omega)) mem_nil
  | false =>
  rw [k2] at ha hm
  cases ht:two op with
  | true =>
   rw [ht] at ha hm
   simp only [cond_true,cond_false] at ha hm ⊢
   exact mem_app (h0 _ _ _ hks (by omega) (by omega) (by omega)) (mem_app (h1 _ _ _ hks (by omega) (by omega) (by omega)) (mem_cons2 (right_set2 h.slots h.nodes ht (v0 _ (by omega)) (v1 _ (by omega)) (by omega) hto (by omega)) mem_nil))
  | false =>
   rw [ht] at ha hm
   simp only [cond_true,cond_false] at ha hm ⊢
   obtain ⟨o0,o1⟩:=one_op hp k1 k2 ht
   exact mem_app (h0 _ _ _ hks (by omega) (by omega) (by omega)) (mem_cons2 (right_set1 h.slots h.nodes ht o0 o1 (v0 _ (by omega)) (by omega) (by omega) hto (by omega)) mem_nil)
theorem kid0_right {c:LowC} {u:Un} {g:Gr} {S N:Nat} (h:RCtx c u g S N) : ∀ (l:List Expr) (a m to:Nat),okEs c l=true→a+sz0 c l≤N→m+sz0 c l≤S→to<N → ∀ n ∈ kid0D c l a m to,rightB u g n=true
 | [],a,m,to,_,_,_,_=>by unfold kid0D; exact mem_nil
 | e::_,a,m,to,hk,ha,hm,hto=>by
  unfold okEs at hk
  rw [Bool.and_eq_true] at hk
  unfold sz0 at ha hm
  unfold kid0D
  exact expr_right h e a m to hk.1 ha hm hto
theorem kid1_right {c:LowC} {u:Un} {g:Gr} {S N:Nat} (h:RCtx c u g S N) : ∀ (l:List Expr) (a m to:Nat),okEs c l=true→a+sz1 c l≤N→m+sz1 c l≤S→to<N → ∀ n ∈ kid1D c l a m to,rightB u g n=true
 | [],a,m,to,_,_,_,_=>by unfold kid1D; exact mem_nil
 | _::r,a,m,to,hk,ha,hm,hto=>by
  unfold okEs at hk
  rw [Bool.and_eq_true] at hk
  unfold sz1 at ha hm
  unfold kid1D
  exact kid0_right h r a m to hk.2 ha hm hto
end
theorem goOn_lt {k here to N:Nat} (h1:here+k≤N) (h2:to<N):goOn k here to<N:=by
 rcases goOn_cases k here to with ⟨r,r'⟩ | ⟨r,r'⟩ <;> rw [r'] <;> omega
mutual
theorem stmt_right {c:LowC} {u:Un} {g:Gr} {S N:Nat} (h:RCtx c u g S N) : ∀ (x:Stmt) (a m to:Nat),okS c x=true→a+szS c x≤N→m+slS c x≤S→to<N → ∀ n ∈ stmtD c x a m to,rightB u g n=true
 | .mk kind name other e body els at_,a,m,to,hk,ha,hm,hto=>by
  have h0:=fun a m to=>kid0_right h e a m to
  have v0:=fun m=>kid0V_ok h e m
  have hb:=fun a m to=>block_right h body a m to
  have hl:=fun a m to=>block_right h els a m to
  have hcap:=h.cap
  have hloc:=h.loc name
  unfold okS at hk
  simp only [Bool.and_eq_true] at hk
  obtain ⟨⟨⟨⟨hf,hn⟩,he⟩,hkb⟩,hkl⟩:=hk
  unfold nmOkB at hn
  unfold szS at ha
  unfold slS at hm
  unfold stmtD
  cases k1:kind == 1 with
  | true =>
   rw [k1] at ha hm hn
   simp only [cond_true,cond_false] at ha hm hn ⊢
   refine mem_app (h0 _ _ _ he (by omega) (by omega) (by omega)) (mem_cons2 ?_ mem_nil)
   unfold varB at hn
   unfold giveN
   cases hd:decide (localI c.p c.t name ≥ 0) with
   | true=>exact right_set1 (op:=0) h.slots h.nodes rfl (by decide) (by decide) (v0 _ (by omega)) (of_decide_eq_true hd) hloc hto (by omega)
   | false =>
    rw [hd,Bool.false_or] at hn
    exact right_store h.slots h.nodes (of_decide_eq_true hn) h.sh (v0 _ (by omega)) hto (by omega)
  | false =>
  rw [k1] at ha hm hn
  cases k2:kind == 2 with
  | true =>
   rw [k2] at ha hm hn
   simp only [cond_true,cond_false] at ha hm hn ⊢
   rw [Bool.and_eq_true] at hn
   obtain ⟨n1,n2⟩:=hn
   unfold varB at n1
   unfold swapD
   cases hd:decide (localI c.p c.t name ≥ 0) with
   | true =>
    rw [hd] at ha hm
    simp only [cond_true,cond_false] at ha hm ⊢
    exact mem_app (h0 _ _ _ he (by omega) (by omega) (by omega)) (mem_cons2 (right_swap h.slots h.nodes (of_decide_eq_true n2) h.sh (v0 _ (by omega)) (of_decide_eq_true hd) hloc hto (by omega)) mem_nil)
   | false =>
    rw [hd] at ha hm n1
    rw [Bool.false_or] at n1
    simp only [cond_true,cond_false] at ha hm ⊢
    exact mem_app (h0 _ _ _ he (by omega) (by omega) (by omega)) (mem_cons2 (right_swap h.slots h.nodes (of_decide_eq_true n2) h.sh (v0 _ (by omega)) (by omega) (by omega) (by omega) (by omega)) (mem_cons2 (right_store h.slots h.nodes (of_decide_eq_true n1) h.sh (vOk_in (by omega) (by omega)) hto (by omega)) mem_nil))
  | false =>
  rw [k2] at ha hm hn
  cases k3:kind == 3 with
  | true =>
   rw [k3] at ha hm
   simp only [cond_true,cond_false] at ha hm ⊢
   exact mem_app (h0 _ _ _ he (by omega) (by omega) (by omega)) (mem_cons2 (right_branch h.slots h.nodes (v0 _ (by omega)) (goOn_lt (by omega) hto) (goOn_lt (by omega) hto) (by omega)) (mem_app (hb _ _ _ hkb (by omega) (by omega) hto) (hl _ _ _ hkl (by omega) (by omega) hto)))
  | false =>
  rw [k3] at ha hm
  cases k4:kind == 4 with
  | true =>
   rw [k4] at ha hm
   simp only [cond_true,cond_false] at ha hm ⊢
   exact mem_app (h0 _ _ _ he (by omega) (by omega) (by omega)) (mem_cons2 (right_branch h.slots h.nodes (v0 _ (by omega)) (goOn_lt (by omega) (by omega)) hto (by omega)) (hb _ _ _ hkb (by omega) (by omega) (by omega)))
  | false =>
  rw [k4] at ha hm
  cases k5:kind == 5 with
  | true =>
   rw [k5] at ha hm hn
   simp only [cond_true,cond_false] at ha hm hn ⊢
   have hn:=of_decide_eq_true hn
   exact mem_cons2 (right_lock h.slots h.nodes hn h.lk (by omega) (by omega)) (mem_app (hb _ _ _ hkb (by omega) (by omega) (by omega)) (mem_cons2 (right_unlock h.slots h.nodes hn h.lk hto (by omega)) mem_nil))
  | false =>
  rw [k5] at ha hm
  cases k6:kind == 6 with
  | true =>
   rw [k6] at ha hm
   simp only [cond_true,cond_false] at ha hm ⊢
   exact mem_app (h0 _ _ _ he (by omega) (by omega) (by omega)) (mem_cons2 (right_print h.slots h.nodes (v0 _ (by omega)) hto (by omega)) mem_nil)
  | false=>exact mem_nil
theorem block_right {c:LowC} {u:Un} {g:Gr} {S N:Nat} (h:RCtx c u g S N) : ∀ (l:List Stmt) (a m to:Nat),okSs c l=true→a+szB c l≤N→m+slB c l≤S→to<N → ∀ n ∈ blockD c l a m to,rightB u g n=true
 | [],a,m,to,_,_,_,_=>by unfold blockD; exact mem_nil
 | x::r,a,m,to,hk,ha,hm,hto=>by
  have hx:=fun a m to=>stmt_right h x a m to
  have hr:=fun a m to=>block_right h r a m to
  unfold okSs at hk
  rw [Bool.and_eq_true] at hk
  unfold szB at ha
  unfold slB at hm
  unfold blockD
  exact mem_app (hx _ _ _ hk.1 (by omega) (by omega) (goOn_lt (by omega) hto)) (hr _ _ _ hk.2 (by omega) (by omega) hto)
end
end Go.Proofs.YthboippafkcoiaaDoor.am
namespace Go.Proofs.YthboippafkcoiaaDoor.am
open Go Go.Proofs
set_option linter.all false
theorem At.back {L D:List Nd} {a i:Nat} {n:Nd} (h:At L a D) (h1:a≤i) (h2:i<a+D.length) (hn:L[i]? = some n):n ∈ D:=by
 obtain ⟨d,hd⟩ : ∃ d,D[i - a]? = some d:=⟨_,List.getElem?_eq_getElem (by omega)⟩
 have:=h _ _ hd
 rw [show a+(i - a)=i by omega,hn] at this
 cases this
 exact List.mem_of_getElem? hd
theorem eqI_rf : ∀ l:List Int,eqI l l=true
 | []=>rfl
 | a::l=>by
  have e:(a != a)=false:=by simp
  show (bif a != a then false else eqI l l)=true
  rw [e,cond_false,eqI_rf l]
theorem eqI2_rf (l:List Int):eqI2 l l=true:=by
 have e:((l.length:Int) != (l.length:Int))=false:=by simp
 unfold eqI2
 rw [e,cond_false,eqI_rf]
end Go.Proofs.YthboippafkcoiaaDoor.am
