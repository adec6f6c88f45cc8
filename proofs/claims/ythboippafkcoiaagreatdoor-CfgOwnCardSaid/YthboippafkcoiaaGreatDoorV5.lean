/- The abstract machine over states that stand as lists: its values are reckoned at once, so terms stay small. The abstract machine: calls in full. -/
import Derived.Test.YthboippafkcoiaaGreatDoorV4
import Derived.LoopN
import Derived.Recover
set_option linter.all false
namespace Go.Proofs.YthboippafkcoiaaGreatDoor.am
open Go
set_option linter.unusedSimpArgs false
structure LS where
 tl:List (Nat × AV)
 bl:List (Nat × Option Blk)
 nx:Nat
def lkM (bl:List (Nat × Option Blk)):Mem:=fun h=>(lk bl h).join
def LS.st (s:LS):AS:=⟨lk s.tl,lkM s.bl,s.nx⟩
def fV (x:Value) (K:Value→Prop):Prop:=match x with
 | .int k n=>K (.int k n)
 | .bool b=>K (.bool b)
 | .string s=>K (.string s)
 | x=>K x
theorem fV_eq (x:Value) (K:Value→Prop):fV x K=K x:=by cases x <;> rfl
def fTr (t:Tr) (K:Tr→Prop):Prop:=match t with
 | .v x=>fV x fun x=>K (.v x)
 | .lst n B rows=>K (.lst n B rows)
theorem fTr_eq (t:Tr) (K:Tr→Prop):fTr t K=K t:=by
 cases t with
 | v x=>exact fV_eq x fun x=>K (.v x)
 | lst n B rows=>rfl
def fA1 (a:AV) (K:AV→Prop):Prop:=match a with
 | .tr t=>fTr t fun t=>K (.tr t)
 | a=>K a
theorem fA1_eq (a:AV) (K:AV→Prop):fA1 a K=K a:=by
 cases a with
 | tr t=>exact fTr_eq t fun t=>K (.tr t)
 | _=>rfl
def fL:List AV→(List AV→Prop)→Prop
 | [],K=>K []
 | a::l,K=>fL l fun l=>fA1 a fun a=>K (a::l)
theorem fL_eq : ∀ (l:List AV) (K:List AV→Prop),fL l K=K l
 | [],K=>rfl
 | a::l,K=>by unfold fL; rw [fL_eq l,fA1_eq]
def fA (a:AV) (K:AV→Prop):Prop:=match a with
 | .tr t=>fTr t fun t=>K (.tr t)
 | .agg l=>fL l fun l=>K (.agg l)
 | .tup l=>fL l fun l=>K (.tup l)
 | a=>K a
theorem fA_eq (a:AV) (K:AV→Prop):fA a K=K a:=by
 cases a with
 | tr t=>exact fTr_eq t fun t=>K (.tr t)
 | agg l=>exact fL_eq l fun l=>K (.agg l)
 | tup l=>exact fL_eq l fun l=>K (.tup l)
 | _=>rfl
def fB (b:Option Blk) (K:Option Blk→Prop):Prop:=match b with
 | none=>K none
 | some (.cells t l)=>fL l fun l=>K (some (.cells t l))
 | some b=>K (some b)
theorem fB_eq (b:Option Blk) (K:Option Blk→Prop):fB b K=K b:=by
 rcases b with _ | b
 ·rfl
 ·cases b with
  | cells t l=>exact fL_eq l fun l=>K (some (.cells t l))
  | _=>rfl
def fN (n:Nat) (K:Nat→Prop):Prop:=match n with
 | 0=>K 0
 | k+1=>K (k+1)
theorem fN_eq (n:Nat) (K:Nat→Prop):fN n K=K n:=by cases n <;> rfl
def putL (tl:List (Nat × AV)) (dst:Option Nat) (a:AV) (K:List (Nat × AV)→Prop):Prop:=match dst with
 | some d=>fA a fun a=>K ((d,a)::tl)
 | none=>K tl
def putLs (tl:List (Nat × AV)) (dst:Option Nat) (a:AV):List (Nat × AV):=match dst with
 | some d=>(d,a)::tl
 | none=>tl
theorem putL_eq (tl:List (Nat × AV)) (dst:Option Nat) (a:AV) (K:List (Nat × AV)→Prop):putL tl dst a K=K (putLs tl dst a):=by
 cases dst with
 | none=>rfl
 | some d=>exact fA_eq a fun a=>K ((d,a)::tl)
theorem beq_comm' (a b:Nat):Nat.beq a b=Nat.beq b a:=by
 cases h:Nat.beq a b with
 | true=>rw [Nat.eq_of_beq_eq_true h,Nat.beq_refl]
 | false=>cases h':Nat.beq b a with
  | false=>rfl
  | true=>rw [Nat.eq_of_beq_eq_true h',Nat.beq_refl] at h; cases h
theorem putLs_lk (tl:List (Nat × AV)) (dst:Option Nat) (a:AV):lk (putLs tl dst a)=putA (lk tl) dst a:=by
 cases dst with
 | none=>rfl
 | some d=>funext i; show (bif Nat.beq d i then some a else lk tl i)=_; rw [beq_comm']; rfl
def putM:List (Nat × Option Blk)→List (Nat × Option Blk)→(List (Nat × Option Blk)→Prop)→Prop
 | [],bl,K=>K bl
 | (h,b)::r,bl,K=>putM r bl fun bl=>fB b fun b=>K ((h,b)::bl)
theorem putM_eq : ∀ (up bl:List (Nat × Option Blk)) (K:List (Nat × Option Blk)→Prop),putM up bl K=K (up++bl)
 | [],bl,K=>rfl
 | (h,b)::r,bl,K=>by unfold putM; rw [putM_eq r,fB_eq]; rfl
theorem lk_app2 {α:Type} : ∀ (l r:List (Nat × α)) (h:Nat),lk (l++r) h=match lk l h with | some x=>some x | none=>lk r h
 | [],r,h=>rfl
 | (k,x)::l,r,h=>by
   show (bif Nat.beq k h then some x else lk (l++r) h)=_
   rw [lk_app2 l r h,lk_cons]
   cases Nat.beq k h <;> rfl
theorem lkM_append (up bl:List (Nat × Option Blk)):lkM (up++bl)=updM (lkM bl) up:=by
 funext h
 unfold lkM updM
 rw [lk_app2]
 cases lk up h <;> rfl
def knowL (ops:Array Oper) (tl:List (Nat × AV)) (j:Nat) (b:Bool):List (Nat × AV):=match ops[j]? with | some o=>(match o.dst with | some d=>(d,.tr (.v (.bool b)))::tl | none=>tl) | none=>tl
theorem knowL_lk (ops:Array Oper) (tl:List (Nat × AV)) (j:Nat) (b:Bool):lk (knowL ops tl j b)=gknow ops (lk tl) j b:=by
 unfold knowL gknow
 cases ops[j]? with
 | none=>rfl
 | some o=>cases hd:o.dst with
  | none=>simp only [hd]
  | some d=>simp only [hd]; exact putLs_lk tl (some d) _
def fLt (l:List (Nat × AV)) (K:List (Nat × AV)→Prop):Prop:=match l with
 | []=>K []
 | p::r=>K (p::r)
theorem fLt_eq (l:List (Nat × AV)) (K:List (Nat × AV)→Prop):fLt l K=K l:=by cases l <;> rfl
abbrev QL:=AX→LS→Prop
abbrev RL:=Nat→List (Nat × AV)→List (Nat × Option Blk)→Prop
def aopL (P:Program) (T:Ty) (N:Nat) (ops:Array Oper) (nh:Nat) (Q:QL) (o:Oper) (rest:RL):RL:=fun i tl bl =>
 bif dstOk N o.dst then
   (match o.guard with
   | none=>astep P T true o (nh+i) (evA (lk tl)) (lkM bl) (fun a _ up=>putL tl o.dst a fun tl=>putM up bl fun bl=>rest (i+1) tl bl) (fun a _ up=>putM up bl fun bl=>Q (.pan a) ⟨tl,bl,nh+i+1⟩)
   | some (j,want)=>match gval ops (lk tl) j with
    | some .und=>putL tl o.dst .und fun tl=>rest (i+1) tl bl
    | some (.tr (.v (.bool y)))=>cond y
      (fLt (knowL ops tl j true) fun tl=>gdo want (astep P T true o (nh+i) (evA (lk tl)) (lkM bl) (fun a _ up=>putL tl o.dst a fun tl=>putM up bl fun bl=>rest (i+1) tl bl) (fun a _ up=>putM up bl fun bl=>Q (.pan a) ⟨tl,bl,nh+i+1⟩))
       (putL tl o.dst .und fun tl=>rest (i+1) tl bl))
      (fLt (knowL ops tl j false) fun tl=>gdo (!want) (astep P T true o (nh+i) (evA (lk tl)) (lkM bl) (fun a _ up=>putL tl o.dst a fun tl=>putM up bl fun bl=>rest (i+1) tl bl) (fun a _ up=>putM up bl fun bl=>Q (.pan a) ⟨tl,bl,nh+i+1⟩))
       (putL tl o.dst .und fun tl=>rest (i+1) tl bl))
    | _=>False) else False
noncomputable def aopsL (P:Program) (T:Ty) (N:Nat) (ops:Array Oper) (nh:Nat) (Q:QL) (l:List Oper):RL :=
 List.rec (motive:=fun _=>RL) (fun i tl bl=>fN (nh+i) fun n=>Q .normal ⟨tl,bl,n⟩) (fun o _ ih=>aopL P T N ops nh Q o ih) l
theorem aopsL_nil (P:Program) (T:Ty) (N:Nat) (ops:Array Oper) (nh:Nat) (Q:QL) (i:Nat) (tl:List (Nat × AV)) (bl:List (Nat × Option Blk)):aopsL P T N ops nh Q [] i tl bl=fN (nh+i) fun n=>Q .normal ⟨tl,bl,n⟩:=rfl
theorem aopsL_cons (P:Program) (T:Ty) (N:Nat) (ops:Array Oper) (nh:Nat) (Q:QL) (o:Oper) (l:List Oper) (i:Nat) (tl:List (Nat × AV)) (bl:List (Nat × Option Blk)):aopsL P T N ops nh Q (o::l) i tl bl=aopL P T N ops nh Q o (aopsL P T N ops nh Q l) i tl bl:=rfl
def Ql (Q:QL):AX→AS→Prop:=fun x s => ∃ l:LS,l.st=s∧Q x l
section
variable {X:Gh→World→Prop} {P:Program} {T:Ty} {k N:Nat} {ops:Array Oper} {g0:Gh} {w0:World}
theorem aopsL_sound (hT:TOk P T) (nh:Nat) (Q:QL) : ∀ (l:List Oper) (i:Nat) (tl:List (Nat × AV)) (bl:List (Nat × Option Blk)) (g:Gh) (act:Act) (w:World),nh+(i+l.length)≤HMod→aopsL P T N ops nh Q l i tl bl→StR g0 w0 N (nh+i) g act w (lk tl) (lkM bl)→wpList P ops (Post g0 w0 N (Ql Q)) l act w:=by
 intro l
 induction l with
 | nil =>
  intro i tl bl g act w _ h hs
  rw [aopsL_nil,fN_eq] at h
  exact ⟨.normal,_,g,⟨_,rfl,h⟩,⟨hs.size,hs.defers,hs.fr,hs.mem,hs.un,hs.grow⟩,trivial⟩
 | cons o r ih =>
  intro i tl bl g act w hb h hs
  rw [List.length_cons] at hb
  have hnb:nh+i<HMod:=by omega
  rw [aopsL_cons] at h
  unfold aopL at h
  cases hd:dstOk N o.dst with
  | false=>rw [hd] at h; exact h.elim
  | true =>
  rw [hd,cond_true] at h
  simp only [putL_eq,putM_eq,fLt_eq] at h
  have run : ∀ (tl:List (Nat × AV)),(∀ i a,lk tl i=some a→i<N∧Rep g w (act.tmps.getD i undef) a)→astep P T true o (nh+i) (evA (lk tl)) (lkM bl) (fun a _ up=>aopsL P T N ops nh Q r (i+1) (putLs tl o.dst a) (up++bl)) (fun a _ up=>Q (.pan a) ⟨tl,up++bl,nh+i+1⟩)→o.wp P act w (wpList P ops (Post g0 w0 N (Ql Q)) r) (Post g0 w0 N (Ql Q)):=by
   intro tl hf h
   rcases astep_ok hnb hT h with ⟨a,rd,up,hK,hru,hw⟩ | ⟨a,rd,up,hK,hru,hw⟩
   ·refine hw g w (lkM bl) act _ _ hs.mem (fun k hk=>hs.un k (Nat.le_of_eq hk.symm)) hru.1 (evA_ok hf) (fun _ v w' g' e1 e2 e3 e4 => ?_) (fun h=>by cases h)
    obtain ⟨p1,p2⟩:=put_ok (dst:=o.dst) hs.size hf e3 hd e1
    refine ih (i+1) (putLs tl o.dst a) (up++bl) g' _ w' (by omega) (hK fun _=>⟨g',w',v,e1⟩) ⟨p1,(put_defers ..).trans hs.defers,?_,?_,fun h hh=>e4 h (by omega) (hs.un h (by omega)),hs.grow.trans e3⟩
    ·rw [putLs_lk]; exact p2
    ·rw [lkM_append]; exact e2
   ·refine hw g w (lkM bl) act _ _ hs.mem (fun k hk=>hs.un k (Nat.le_of_eq hk.symm)) hru.1 (evA_ok hf) (fun h=>by cases h) (fun _ v w' g' e1 e2 e3 e4 => ?_)
    exact ⟨.pan a,_,g',⟨_,rfl,hK fun _=>⟨g',w',v,e1⟩⟩,⟨hs.size,hs.defers,fun i b hb=>⟨(hf i b hb).1,((hf i b hb).2).grow e3⟩,by show MSt g' w' (lkM (up++bl)); rw [lkM_append]; exact e2,fun h (hh:nh+i+1≤h % HMod)=>e4 h (by omega) (hs.un h (by omega)),hs.grow.trans e3⟩,v,rfl,e1⟩
  have skip : ∀ (tl:List (Nat × AV)),(∀ i a,lk tl i=some a→i<N∧Rep g w (act.tmps.getD i undef) a)→aopsL P T N ops nh Q r (i+1) (putLs tl o.dst .und) bl→wpList P ops (Post g0 w0 N (Ql Q)) r (act.put o.dst undef) w:=by
   intro tl hf h
   obtain ⟨p1,p2⟩:=put_ok (dst:=o.dst) (v:=undef) (a := .und) hs.size hf (Grow.refl g w) hd .und
   refine ih (i+1) (putLs tl o.dst .und) bl g _ w (by omega) h ⟨p1,(put_defers ..).trans hs.defers,?_,hs.mem,fun h hh=>hs.un h (by omega),hs.grow⟩
   rw [putLs_lk]; exact p2
  unfold wpList
  split at h
  ·rename_i hg
   rw [if_pos (by simp [Region.wanted,hg])]
   exact .inl (run tl hs.fr h)
  ·rename_i j want hg
   split at h
   ·rename_i hv
    have:=(yielded_ok hs.size hs.fr hv).1 rfl
    rw [if_neg (by simp [Region.wanted,hg,this])]
    exact skip tl hs.fr h
   ·rename_i y hv
    have hy:=(yielded_ok hs.size hs.fr hv).2 y rfl
    have hk:=gknow_ok hs.fr hv
    rw [← knowL_lk] at hk
    cases y <;> cases want <;> simp only [cond_true,cond_false,Bool.not_true,Bool.not_false,gdo] at h
    ·rw [if_pos (by simp [Region.wanted,hg,hy])]; exact .inl (run _ hk h)
    ·rw [if_neg (by simp [Region.wanted,hg,hy])]; exact skip _ hk h
    ·rw [if_neg (by simp [Region.wanted,hg,hy])]; exact skip _ hk h
    ·rw [if_pos (by simp [Region.wanted,hg,hy])]; exact .inl (run _ hk h)
   ·exact h.elim
abbrev RF:=Nat→List (Nat × AV)→List (Nat × Option Blk)→List Ft→Prop
def lastOk (ops:Array Oper):Bool:=(List.range (ops.size - 1)).all fun j=>bef ops ops.size (ops.size - 1) j
def adrwL (P:Program) (T:Ty) (N:Nat) (ops:Array Oper) (nh:Nat) (QP:QL) (o:Oper) (last:Bool) (rest:RF):RF:=fun i tl bl acc =>
 bif dstOk N o.dst then
   (match o.guard with
   | none=>astep P T false o (nh+i) (evR ops o (lk tl)) (lkM bl) (fun a rd up=>putL tl o.dst a fun tl=>putM up bl fun bl=>rest (i+1) tl bl (acc++[⟨rd.map (·.1),up.map (·.1)⟩]))
     (fun a rd up=>gdo last (lastOk ops=true∧drawOk ops (acc++[⟨rd.map (·.1),up.map (·.1)⟩])=true∧putM up bl fun bl=>QP (.pan a) ⟨tl,bl,nh+i+1⟩) False)
   | some (j,want)=>match gval ops (lk tl) j with
    | some .und=>putL tl o.dst .und fun tl=>rest (i+1) tl bl (acc++[⟨[],[]⟩])
    | some (.tr (.v (.bool y)))=>cond y (gdo want (astep P T false o (nh+i) (evR ops o (lk tl)) (lkM bl) (fun a rd up=>putL tl o.dst a fun tl=>putM up bl fun bl=>rest (i+1) tl bl (acc++[⟨rd.map (·.1),up.map (·.1)⟩])) (fun _ _ _=>False)) (putL tl o.dst .und fun tl=>rest (i+1) tl bl (acc++[⟨[],[]⟩])))
      (gdo (!want) (astep P T false o (nh+i) (evR ops o (lk tl)) (lkM bl) (fun a rd up=>putL tl o.dst a fun tl=>putM up bl fun bl=>rest (i+1) tl bl (acc++[⟨rd.map (·.1),up.map (·.1)⟩])) (fun _ _ _=>False)) (putL tl o.dst .und fun tl=>rest (i+1) tl bl (acc++[⟨[],[]⟩])))
    | _=>False) else False
noncomputable def adrawsL (P:Program) (T:Ty) (N:Nat) (ops:Array Oper) (nh:Nat) (Q:LS→Prop) (QP:QL) (l:List Oper):RF :=
 List.rec (motive:=fun _=>RF) (fun i tl bl acc=>drawOk ops acc=true∧fN (nh+i) fun n=>Q ⟨tl,bl,n⟩) (fun o r ih=>adrwL P T N ops nh QP o r.isEmpty ih) l
theorem adrawsL_nil (P:Program) (T:Ty) (N:Nat) (ops:Array Oper) (nh:Nat) (Q:LS→Prop) (QP:QL) (i:Nat) (tl:List (Nat × AV)) (bl:List (Nat × Option Blk)) (acc:List Ft):adrawsL P T N ops nh Q QP [] i tl bl acc=(drawOk ops acc=true∧fN (nh+i) fun n=>Q ⟨tl,bl,n⟩):=rfl
theorem adrawsL_cons (P:Program) (T:Ty) (N:Nat) (ops:Array Oper) (nh:Nat) (Q:LS→Prop) (QP:QL) (o:Oper) (l:List Oper) (i:Nat) (tl:List (Nat × AV)) (bl:List (Nat × Option Blk)) (acc:List Ft):adrawsL P T N ops nh Q QP (o::l) i tl bl acc=adrwL P T N ops nh QP o l.isEmpty (adrawsL P T N ops nh Q QP l) i tl bl acc:=rfl
theorem st_put (tl:List (Nat × AV)) (bl:List (Nat × Option Blk)) (n:Nat) (dst:Option Nat) (a:AV) (up:List (Nat × Option Blk)):(LS.st ⟨putLs tl dst a,up++bl,n⟩)=(LS.st ⟨tl,bl,n⟩).put dst a up:=by
 unfold LS.st AS.put
 simp only [putLs_lk,lkM_append]
def DrEnd (P:Program) (N:Nat) (ops:Array Oper) (nh:Nat) (Q:LS→Prop) (QP:QL) (l:List Oper) (i:Nat) (s:AS) (acc:List Ft):Prop :=
 (∃ cs sf,Recs P N ops nh l i s cs sf∧drawOk ops (acc++cs.map Rc.ft)=true ∧ ∃ ls:LS,ls.st = { sf with nx:=nh+(i+l.length) }∧Q ls) ∨
 ∃ pre o cs c sf,l=pre++[o]∧Recs P N ops nh pre i s cs sf∧dstOk N o.dst=true∧wants ops sf.t o true∧RdUp sf.m (nh+(i+pre.length)) c.rd c.up ∧
  WStep P o (nh+(i+pre.length)) (evR ops o sf.t) c.rd c.up c.a true∧c.run=true∧lastOk ops=true∧drawOk ops (acc++(cs++[c]).map Rc.ft)=true ∧
  ∃ ls:LS,ls.st=⟨sf.t,updM sf.m c.up,nh+(i+pre.length)+1⟩∧QP (.pan c.a) ls
theorem DrEnd.cons {nh:Nat} {Q:LS→Prop} {QP:QL} {o:Oper} {r:List Oper} {i:Nat} {s:AS} {acc:List Ft} {c:Rc} (h:DrEnd P N ops nh Q QP r (i+1) (s.put o.dst c.a c.up) (acc++[c.ft]))
  (hd:dstOk N o.dst=true) (hw:wants ops s.t o c.run) (hru:RdUp s.m (nh+i) c.rd c.up) (h1:c.run=true→WStep P o (nh+i) (evR ops o s.t) c.rd c.up c.a false) (h2:c.run=false→c.a = .und∧c.up=[]) :
  DrEnd P N ops nh Q QP (o::r) i s acc:=by
 rcases h with ⟨cs,sf,q1,q2,ls,q3,q4⟩ | ⟨pre,o',cs,c',sf,rfl,q1,q2,q3,q4,q5,q6,q7,q8,ls,q9,q10⟩
 ·refine .inl ⟨c::cs,sf,⟨hd,hw,hru,h1,h2,q1⟩,by simpa using q2,ls,?_,q4⟩
  rw [q3,List.length_cons,show i+1+r.length=i+(r.length+1) by omega]
 ·have e:i+1+pre.length=i+(o::pre).length:=by rw [List.length_cons]; omega
  rw [e] at q4 q5 q9
  exact .inr ⟨o::pre,o',c::cs,c',sf,rfl,⟨hd,hw,hru,h1,h2,q1⟩,q2,q3,q4,q5,q6,q7,by simpa using q8,ls,q9,q10⟩
theorem adrawsL_recs (hT:TOk P T) (nh:Nat) (Q:LS→Prop) (QP:QL) (n:Nat) : ∀ (l:List Oper) (i:Nat) (tl:List (Nat × AV)) (bl:List (Nat × Option Blk)) (acc:List Ft),nh+(i+l.length)≤HMod→adrawsL P T N ops nh Q QP l i tl bl acc→DrEnd P N ops nh Q QP l i (LS.st ⟨tl,bl,n⟩) acc:=by
 intro l
 induction l with
 | nil =>
  intro i tl bl acc _ h
  rw [adrawsL_nil,fN_eq] at h
  exact .inl ⟨[],_,rfl,by simpa using h.1,_,rfl,h.2⟩
 | cons o r ih =>
  intro i tl bl acc hb h
  rw [List.length_cons] at hb
  have hnb:nh+i<HMod:=by omega
  rw [adrawsL_cons] at h
  unfold adrwL at h
  cases hd:dstOk N o.dst with
  | false=>rw [hd] at h; exact h.elim
  | true =>
  rw [hd,cond_true] at h
  simp only [putL_eq,putM_eq] at h
  have run : ∀ (Pn:KK),(∀ a rd up,Pn a rd up→r=[]∧lastOk ops=true∧drawOk ops (acc++[⟨rd.map (·.1),up.map (·.1)⟩])=true∧QP (.pan a) ⟨tl,up++bl,nh+i+1⟩) →
    astep P T false o (nh+i) (evR ops o (lk tl)) (lkM bl) (fun a rd up=>adrawsL P T N ops nh Q QP r (i+1) (putLs tl o.dst a) (up++bl) (acc++[⟨rd.map (·.1),up.map (·.1)⟩])) Pn→wants ops (lk tl) o true →
    DrEnd P N ops nh Q QP (o::r) i (LS.st ⟨tl,bl,n⟩) acc:=by
   intro Pn hPn h hw
   rcases astep_ok hnb hT h with ⟨a,rd,up,hK,hru,hws⟩ | ⟨a,rd,up,hK,hru,hws⟩
   ·have h1:=ih (i+1) _ _ _ (by omega) (hK (fun h=>by cases h))
    rw [st_put] at h1
    exact DrEnd.cons (c:=⟨a,rd,up,true⟩) h1 hd hw hru (fun _=>hws) (fun h=>by cases h)
   ·obtain ⟨rfl,h1,h2,h3⟩:=hPn _ _ _ (hK (fun h=>by cases h))
    refine .inr ⟨[],o,[],⟨a,rd,up,true⟩,_,rfl,rfl,hd,hw,hru,hws,rfl,h1,h2,_,?_,h3⟩
    show (⟨lk tl,lkM (up++bl),nh+i+1⟩:AS)=⟨lk tl,updM (lkM bl) up,nh+(i+0)+1⟩
    rw [lkM_append]; rfl
  have skip:adrawsL P T N ops nh Q QP r (i+1) (putLs tl o.dst .und) bl (acc++[⟨[],[]⟩])→wants ops (lk tl) o false→DrEnd P N ops nh Q QP (o::r) i (LS.st ⟨tl,bl,n⟩) acc:=by
   intro h hw
   have h1:=ih (i+1) _ _ _ (by omega) h
   rw [show LS.st ⟨putLs tl o.dst .und,bl,n⟩=(LS.st ⟨tl,bl,n⟩).put o.dst .und [] from st_put tl bl n o.dst .und []] at h1
   exact DrEnd.cons (c:=⟨.und,[],[],false⟩) h1 hd hw ⟨by simp,by simp⟩ (fun h=>by cases h) (fun _=>⟨rfl,rfl⟩)
  split at h
  ·rename_i hg
   refine run _ (fun a rd up hp => ?_) h (by simp [wants,hg])
   cases r with
   | nil=>exact ⟨rfl,hp⟩
   | cons=>exact hp.elim
  ·rename_i j want hg
   split at h
   ·rename_i hv
    exact skip h (by simp [wants,hg,hv])
   ·rename_i y hv
    cases y <;> cases want <;> simp only [cond_true,cond_false,Bool.not_true,Bool.not_false,gdo] at h
    ·exact run _ (fun _ _ _ h=>h.elim) h (by simp [wants,hg,hv])
    ·exact skip h (by simp [wants,hg,hv])
    ·exact skip h (by simp [wants,hg,hv])
    ·exact run _ (fun _ _ _ h=>h.elim) h (by simp [wants,hg,hv])
   ·exact h.elim
noncomputable def adrawL (P:Program) (T:Ty) (N:Nat) (ops:Array Oper) (Q:QL) (s:LS):Prop :=
 adrawsL P T N ops s.nx (fun s'=>SOk s'.st→Q .normal s') Q ops.toList 0 s.tl s.bl []
theorem adrawL_sound (hT:TOk P T) (hmix:P.follows .mixedOrders=true) {Q:QL} {s:LS} (hb:s.nx+ops.size≤HMod) (h:adrawL P T N ops Q s) {g:Gh} {w:World} {act:Act} (hs:St g0 w0 N g act w s.st) {id:Nat}:(Code.region id ops true).wp P (Post g0 w0 N (Ql Q)) act w:=by
 have hInv : ∀ (R:Nat→Rc),Inv g0 w0 N ops s.nx R s.st (fun i=>(Array.replicate ops.size false).getD i true) act { w with drawn:=w.drawn+1 }:=by
  intro R
  refine ⟨hs.size,hs.defers,g,?_⟩
  have e:(List.range ops.size).filter (fun i=>(Array.replicate ops.size false).getD i true)=[]:=by
   rw [List.filter_eq_nil_iff]
   intro k hk
   have:=List.mem_range.1 hk
   simp [Array.getD,this]
  rw [e]
  have hg:Grow g w g { w with drawn:=w.drawn+1 }:=⟨rfl,rfl,rfl,Nat.le_refl _,fun _ _=>rfl,fun _ _=>rfl,rfl,fun _ h=>h,fun _ _ h => .inl h,fun h b e => .inl ⟨h,e⟩⟩
  refine ⟨fun i a ha=>⟨(hs.fr i a ha).1,((hs.fr i a ha).2).grow hg⟩,⟨fun k b hb => ?_,hs.mem.inj,hs.mem.lt,hs.mem.xlt,hs.mem.xl,hs.mem.gl.grow hg⟩,fun h hh _=>hs.un h hh,hs.grow.trans hg⟩
  obtain ⟨l,e1,e2⟩:=hs.mem.blk k b hb
  exact ⟨l,e1,e2.grow hg fun _ _=>rfl⟩
 have hli : ∀ i,i<ops.size→(Array.replicate ops.size false).getD i true=true → ∀ d ∈ deps ops i,(Array.replicate ops.size false).getD d true=true:=fun i hi hl=>by simp [Array.getD,hi] at hl
 refine wp_region_any hmix ?_
 rcases adrawsL_recs hT _ _ _ s.nx _ _ _ _ _ (by simpa using hb) h with ⟨cs,sf,h1,h2,ls,h3,h4⟩ | ⟨pre,o,cs,c,sf,hl,h1,hd,hw,hru,hws,hrun,hlast,h2,ls,h3,h4⟩
 ·obtain ⟨q1,q2,q3⟩:=Recs.at (R:=recAt cs) (s0:=s.st) ops.toList 0 s.st cs sf h1 (fun j=>by simp) (fun j _=>by simp) rfl
  simp only [Nat.zero_add,Array.length_toList] at q1 q2 q3 h3
  refine draw_any (nh:=s.nx) (s0:=s.st) (g0:=g0) (w0:=w0) (N:=N) (by simpa using h2) rfl (fun i o ho=>q3 i o (by simpa using ho)) (fun act w g hst => ?_) ops.size _ act _ (by simp) (Nat.le_trans List.countP_le_length (by simp)) hli (hInv _)
  rw [← q1] at hst
  rw [← h3] at hst
  exact ⟨.normal,_,g,⟨ls,rfl,h4 hst.ok⟩,hst,trivial⟩
 ·have hsz:ops.size=pre.length+1:=by rw [← Array.length_toList,hl]; simp
  have hget : ∀ j:Nat,ops[j]? = (pre++[o])[j]? := fun j=>by
   have e:ops[j]? = ops.toList[j]? := by simp
   rw [e,hl]
  have hcl:cs.length=pre.length:=(Recs.at2 (R:=recAt cs) (s0:=s.st) pre 0 s.st cs sf h1 (fun j o' ho'=>by rw [Nat.zero_add,hget,List.getElem?_append_left (List.getElem?_eq_some_iff.1 ho').1]; exact ho') (fun j _=>by rw [Nat.zero_add]) rfl).2.1
  have hR1 : ∀ j,j<pre.length→recAt (cs++[c]) j=recAt cs j:=fun j hj=>by unfold recAt; rw [List.getD_eq_getElem?_getD,List.getD_eq_getElem?_getD,List.getElem?_append_left (by omega)]
  have hR2:recAt (cs++[c]) pre.length=c:=by unfold recAt; rw [List.getD_eq_getElem?_getD,List.getElem?_append_right (by omega),hcl,Nat.sub_self]; rfl
  obtain ⟨q1,q2,q3⟩:=Recs.at2 (R:=recAt (cs++[c])) (s0:=s.st) pre 0 s.st cs sf h1 (fun j o' ho'=>by rw [Nat.zero_add,hget,List.getElem?_append_left (List.getElem?_eq_some_iff.1 ho').1]; exact ho') (fun j hj=>by rw [Nat.zero_add]; exact hR1 j hj) rfl
  simp only [Nat.zero_add] at q1 q3 hru hws h3
  have hz1:ops.size - 1=pre.length:=by omega
  refine draw_any2 (pz:=true) (nh:=s.nx) (s0:=s.st) (g0:=g0) (w0:=w0) (N:=N) (cs:=cs++[c]) (by simpa using h2) rfl (fun i o' ho' => ?_) (fun _ j hj => ?_) (fun _ act w g a1 a2 a3 a4 a5 a6 v w' g' b1 b2 b3 b4 => ?_) (fun _=>⟨by omega,by rw [hz1,hR2]; exact hrun⟩) (fun _ _ _ h=>by cases h)
   ops.size _ act _ (by simp) (Nat.le_trans List.countP_le_length (by simp)) hli (fun _=>by rw [Array.getD,dif_pos (by simp; omega)]; simp) (hInv _)
  ·rw [hget] at ho'
   by_cases hi:i<pre.length
   ·rw [List.getElem?_append_left hi] at ho'
    have:=q3 i o' ho'
    rw [show (true && Nat.beq (i+1) ops.size)=false by rw [Bool.true_and]; exact beq_ne (by omega)]
    exact this
   ·have hi':i=pre.length:=by
     have:=(List.getElem?_eq_some_iff.1 ho').1
     simp at this
     omega
    subst hi'
    rw [List.getElem?_append_right (Nat.le_refl _),Nat.sub_self] at ho'
    cases ho'
    rw [show (true && Nat.beq (pre.length+1) ops.size)=true by rw [Bool.true_and,hsz,Nat.beq_refl],hR2,← q1]
    exact ⟨hd,by rw [hrun]; exact hw,hru,fun _=>hws,fun h=>by rw [hrun] at h; cases h⟩
  ·unfold lastOk at hlast
   exact List.all_eq_true.1 hlast j (List.mem_range.2 (by omega))
  ·rw [hz1] at a3 a4 a5 b1 b2 b4
   rw [hR2] at b1 b2
   rw [← q1] at a3 a4 b2
   refine ⟨.pan c.a,ls.st,g',⟨ls,rfl,h4⟩,?_,v,rfl,b1⟩
   rw [h3]
   exact ⟨a1,a2,fun i b hb=>⟨(a3 i b hb).1,((a3 i b hb).2).grow b3⟩,b2,fun h (hh:s.nx+pre.length+1≤h % HMod)=>b4 h (by omega) (a5 h (by omega)),a6.trans b3⟩
structure LJ where
 tl:List (Nat × AV)
 bl:List (Nat × Blk)
 nx:Nat
def thnL (next:LS→Prop) (Q:QL):QL
 | .normal,s=>next s
 | x,s=>Q x s
def blkL (id:Nat) (Q:QL):QL
 | .exit i,s=>(i=id→Q .normal s)∧(i≠id→Q (.exit i) s)
 | x,s=>Q x s
def mkL (tl:List (Nat × AV)) (bl:List (Nat × Blk)) (nx:Nat):LS:=⟨tl,bl.map fun p=>(p.1,some p.2),nx⟩
theorem mkL_st (tl:List (Nat × AV)) (bl:List (Nat × Blk)) (nx:Nat):(mkL tl bl nx).st=mkS tl bl nx:=by
 unfold mkL LS.st mkS
 congr 1
 funext h
 unfold lkM
 simp only
 induction bl with
 | nil=>rfl
 | cons p r ih =>
  obtain ⟨k,x⟩:=p
  rw [List.map_cons,lk_cons,lk_cons]
  cases Nat.beq k h with
  | true=>rfl
  | false=>exact ih
noncomputable def LoopU (body:QL→LS→Prop) (Q:QL) (n:Nat):LS→Prop:=Nat.rec (motive:=fun _=>LS→Prop) (fun _=>False) (fun _ ih s=>body (thnL ih Q) s) n
def LoopL (k:Nat) (body:QL→LS→Prop) (Q:QL) (s:LS):Prop :=
 (∃ n,LoopU body Q n s) ∨ ∃ (σ:Type) (J:σ→LJ) (I:σ→Prop) (μ:σ→Nat) (x0:σ) (ρ nl:List Nat),Sub k ρ nl s.st (mkS (J x0).tl (J x0).bl (J x0).nx)∧I x0 ∧
  ∀ x,I x→SOk (mkS (J x).tl (J x).bl (J x).nx)→body (thnL (fun s' => ∃ x' ρ nl,Sub k ρ nl s'.st (mkS (J x').tl (J x').bl (J x').nx)∧I x'∧μ x'<μ x) Q) (mkL (J x).tl (J x).bl (J x).nx)
theorem LoopL.by {k:Nat} {body:QL→LS→Prop} {Q:QL} {s:LS} {σ:Type} (J:σ→LJ) (I:σ→Prop) (μ:σ→Nat) (x0:σ) (ρ nl:List Nat) (h0:Sub k ρ nl s.st (mkS (J x0).tl (J x0).bl (J x0).nx)) (hI:I x0)
  (h : ∀ x,I x→SOk (mkS (J x).tl (J x).bl (J x).nx)→fN (J x).nx fun n=>body (thnL (fun s' => ∃ x' ρ nl,Sub k ρ nl s'.st (mkS (J x').tl (J x').bl (J x').nx)∧I x'∧μ x'<μ x) Q) (mkL (J x).tl (J x).bl n)):LoopL k body Q s := .inr ⟨σ,J,I,μ,x0,ρ,nl,h0,hI,fun x hI hok=>(fN_eq _ _).mp (h x hI hok)⟩
theorem LoopL.un {k:Nat} {body:QL→LS→Prop} {Q:QL} {s:LS} (n:Nat) (h:LoopU body Q n s):LoopL k body Q s := .inl ⟨n,h⟩
abbrev WL:=QL→LS→Prop
noncomputable def regL (P:Program) (T:Ty) (N:Nat) (ops:Array Oper) (draw:Bool):WL:=fun Q s=>match draw with
 | true=>match s with
  | ⟨tl,bl,nx⟩=>bif Nat.ble (nx+ops.size) HMod then adrawsL P T N ops nx (fun s'=>SOk s'.st→Q .normal s') Q ops.toList 0 tl bl [] else False
 | false=>match s with
  | ⟨tl,bl,nx⟩=>bif Nat.ble (nx+ops.size) HMod then aopsL P T N ops nx Q ops.toList 0 tl bl else False
noncomputable def regX (X:Gh→World→Prop) (P:Program) (T:Ty) (k N:Nat) (x:Bool) (id:Nat) (ops:Array Oper) (draw:Bool):WL:=match x with
 | true=>fun Q s=>Wp X P k N (.region id ops draw) (Ql Q) s.st
 | false=>regL P T N ops draw
def CutL (k:Nat) (a b:WL) (Q:QL) (s:LS):Prop :=
 ∃ (σ:Type) (J:σ→LJ) (I:σ→Prop),a (thnL (fun s' => ∃ x ρ nl,Sub k ρ nl s'.st (mkS (J x).tl (J x).bl (J x).nx)∧I x) Q) s ∧
  ∀ x,I x→SOk (mkS (J x).tl (J x).bl (J x).nx)→b Q (mkL (J x).tl (J x).bl (J x).nx)
theorem CutL.by {k:Nat} {a b:WL} {Q:QL} {s:LS} {σ:Type} (J:σ→LJ) (I:σ→Prop) (h1:a (thnL (fun s' => ∃ x ρ nl,Sub k ρ nl s'.st (mkS (J x).tl (J x).bl (J x).nx)∧I x) Q) s)
  (h2 : ∀ x,I x→SOk (mkS (J x).tl (J x).bl (J x).nx)→fN (J x).nx fun n=>b Q (mkL (J x).tl (J x).bl n)):CutL k a b Q s:=⟨σ,J,I,h1,fun x hI hok=>(fN_eq _ _).mp (h2 x hI hok)⟩
noncomputable def firstId (c:Code):Nat:=Code.rec (motive:=fun _=>Nat) 0 (fun id _ _=>id) (fun _ _ a _=>a) (fun _ _ _ i _=>1000000+i) (fun _ _ c=>c) (fun _ c=>c) (fun _ _ _ _ _ _=>0) (fun _=>0) (fun _ _=>0) (fun _=>0) (fun _=>0) 0 (fun _=>0) c
def seqL (k:Nat) (cut:Bool) (a b:WL):WL:=fun Q s=>match cut with
 | true=>CutL k a b Q s
 | false=>a (thnL (b Q) Q) s
def condL (c:Operand) (a b:WL):WL:=fun Q s=>acond (evA (lk s.tl) c) (a Q s) (b Q s)
noncomputable def awpL (X:Gh→World→Prop) (P:Program) (T:Ty) (k N:Nat) (cuts:List Nat) (c:Code):WL :=
 Code.rec (motive:=fun _=>WL) (fun Q s=>Q .normal s) (fun id ops draw=>regX X P T k N (has cuts (2000000+id)) id ops draw) (fun _ cb a b=>seqL k (has cuts (firstId cb)) a b) (fun c _ _ a b=>condL c a b)
  (fun id _ c=>fun Q s=>c (blkL id Q) s) (fun _ c=>fun Q s=>LoopL k c Q s) (fun _ _ _ _ _ _=>fun _ _=>False) (fun id=>fun Q s=>Q (.exit id) s)
  (fun _ _=>fun _ _=>False) (fun _=>fun _ _=>False) (fun _=>fun _ _=>False) (fun Q s=>Q .ret s) (fun _=>fun _ _=>False) c
theorem regL_sound (hT:TOk P T) (hmix:P.follows .mixedOrders=true) (id:Nat) (ops:Array Oper) : ∀ (draw:Bool) (Q:QL) (s:LS),regL P T N ops draw Q s→Wp X P k N (.region id ops draw) (Ql Q) s.st
 | false,Q,⟨tl,bl,nx⟩,h=>fun g0 g w0 w act hk hs=>by
   have h:(bif Nat.ble (nx+ops.size) HMod then aopsL P T N ops nx Q ops.toList 0 tl bl else False):=h
   cases hb:Nat.ble (nx+ops.size) HMod with
   | false=>rw [hb] at h; exact h.elim
   | true =>
    rw [hb,cond_true] at h
    exact wp_region_list (aopsL_sound hT nx Q ops.toList 0 tl bl g act w (by simpa using Nat.le_of_ble_eq_true hb) h ⟨hs.size,hs.defers,hs.fr,hs.mem,hs.un,hs.grow⟩)
 | true,Q,⟨tl,bl,nx⟩,h=>fun g0 g w0 w act hk hs=>by
   have h:(bif Nat.ble (nx+ops.size) HMod then adrawL P T N ops Q ⟨tl,bl,nx⟩ else False):=h
   cases hb:Nat.ble (nx+ops.size) HMod with
   | false=>rw [hb] at h; exact h.elim
   | true =>
    rw [hb,cond_true] at h
    exact adrawL_sound hT hmix (Nat.le_of_ble_eq_true hb) h hs
theorem awpL_sound {cuts:List Nat} (hT:TOk P T) (hmix:P.follows .mixedOrders=true) : ∀ (c:Code) (Q:QL) (s:LS),awpL X P T k N cuts c Q s→Wp X P k N c (Ql Q) s.st
 | .skip,Q,s,h=>fun g0 g w0 w act hk hs=>wp_skip ⟨.normal,s.st,g,⟨s,rfl,h⟩,hs,trivial⟩
 | .region id ops draw,Q,s,h=>by
   have h:regX X P T k N (has cuts (2000000+id)) id ops draw Q s:=h
   cases hx:has cuts (2000000+id) with
   | true=>rw [hx] at h; exact h
   | false=>rw [hx] at h; exact regL_sound hT hmix id ops draw Q s h
 | .seq a b,Q,s,h=>by
   have h:seqL k (has cuts (firstId b)) (awpL X P T k N cuts a) (awpL X P T k N cuts b) Q s:=h
   unfold seqL at h
   split at h
   ·obtain ⟨σ,J,I,h1,h2⟩:=h
    refine Wp.seq ((awpL_sound hT hmix a _ s h1).mono fun x s' hx => ?_)
    obtain ⟨ls,rfl,hx⟩:=hx
    cases x with
    | normal =>
     obtain ⟨x,ρ,nl,hsub,hI⟩:=hx
     intro g0 g w0 w act hk hs
     obtain ⟨g',hst⟩:=hsub.st hk.2 hs
     have:=awpL_sound hT hmix b Q _ (h2 x hI hst.ok)
     rw [mkL_st] at this
     exact this g0 _ w0 w act hk hst
    | _=>exact ⟨ls,rfl,hx⟩
   ·refine Wp.seq ((awpL_sound hT hmix a _ s h).mono fun x s' hx => ?_)
    obtain ⟨ls,rfl,hx⟩:=hx
    cases x with
    | normal=>exact awpL_sound hT hmix b Q ls hx
    | _=>exact ⟨ls,rfl,hx⟩
 | .cond c a b,Q,s,h=>fun g0 g w0 w act hk hs=>by
   change acond (evA (lk s.tl) c) (awpL X P T k N cuts a Q s) (awpL X P T k N cuts b Q s) at h
   unfold acond at h
   split at h
   ·rename_i y hy
    obtain ⟨e,_⟩:=val_inv (evA_ok hs.fr _ _ hy)
    exact wp_cond_split e (fun ht=>awpL_sound hT hmix a Q s (by rw [ht] at h; exact h) g0 g w0 w act hk hs) (fun hf=>awpL_sound hT hmix b Q s (by rw [hf] at h; exact h) g0 g w0 w act hk hs)
   ·exact h.elim
 | .block id c,Q,s,h=>Wp.block ((awpL_sound hT hmix c _ s h).mono fun x s' hx=>by
   obtain ⟨ls,rfl,hx⟩:=hx
   cases x with
   | exit i=>exact ⟨fun e=>⟨ls,rfl,hx.1 e⟩,fun e=>⟨ls,rfl,hx.2 e⟩⟩
   | _=>exact ⟨ls,rfl,hx⟩)
 | .loop c,Q,s,h=>by
   rcases h with ⟨n,h⟩ | ⟨σ,J,I,μ,x0,ρ,nl,h0,hI,hr⟩
   ·intro g0 g w0 w act hk hs
    refine wp_loop_rounds n ?_
    revert s g w act
    induction n with
    | zero=>intro s h; exact h.elim
    | succ n ih =>
     intro s h g w act hs
     have h:awpL X P T k N cuts c (thnL (LoopU (awpL X P T k N cuts c) Q n) Q) s:=h
     refine Go.wp_mono (awpL_sound hT hmix c _ s h g0 g w0 w act hk hs) ?_
     rintro e act' w' ⟨x,s',g',h1,h2,h3⟩
     obtain ⟨ls,rfl,h1⟩:=h1
     cases x with
     | normal =>
      cases e with
      | normal=>exact ih ls h1 g' w' act' h2
      | _=>exact h3.elim
     | _=>cases e <;> first | exact h3.elim | exact ⟨_,ls.st,g',⟨ls,rfl,h1⟩,h2,h3⟩
   refine Wp.loop (fun x=>mkS (J x).tl (J x).bl (J x).nx) I μ x0 h0 hI fun x hI hok => ?_
   have:=awpL_sound hT hmix c _ _ (hr x hI hok)
   rw [mkL_st] at this
   refine this.mono fun y s' hy => ?_
   obtain ⟨ls,rfl,hy⟩:=hy
   cases y with
   | normal=>exact hy
   | _=>exact ⟨ls,rfl,hy⟩
 | .exit id,Q,s,h=>fun g0 g w0 w act hk hs=>wp_exit ⟨.exit id,s.st,g,⟨s,rfl,h⟩,hs,rfl⟩
 | .ret,Q,s,h=>fun g0 g w0 w act hk hs=>wp_ret ⟨.ret,s.st,g,⟨s,rfl,h⟩,hs,trivial⟩
 | .rangeFunc ..,_,_,h=>h.elim
 | .scope _,_,_,h=>h.elim
 | .label _,_,_,h=>h.elim
 | .goto _,_,_,h=>h.elim
 | .refuse _,_,_,h=>h.elim
end
def numL:Nat→List AV→List (Nat × AV)
 | _,[]=>[]
 | i,a::l=>(i,a)::numL (i+1) l
def numB:Nat→List Blk→List (Nat × Option Blk)
 | _,[]=>[]
 | i,a::l=>(i,some a)::numB (i+1) l
theorem numL_lk : ∀ (l:List AV) (i j:Nat),lk (numL i l) j=if i≤j then l[j - i]? else none
 | [],i,j=>by simp [numL,lk]
 | a::l,i,j=>by
   unfold numL
   rw [lk_cons,numL_lk l (i+1) j]
   by_cases h:i=j
   ·subst h; simp
   ·rw [beq_ne h,cond_false]
    by_cases h2:i≤j
    ·rw [if_pos (by omega),if_pos h2,show j - i=(j - (i+1))+1 by omega]; rfl
    ·rw [if_neg (by omega),if_neg h2]
theorem numB_lk : ∀ (l:List Blk) (i j:Nat),lkM (numB i l) j=if i≤j then l[j - i]? else none
 | [],i,j=>by simp [numB,lkM,lk]
 | a::l,i,j=>by
   have ih:=numB_lk l (i+1) j
   unfold lkM at ih ⊢
   unfold numB
   rw [lk_cons]
   by_cases h:i=j
   ·subst h; simp
   ·rw [beq_ne h,cond_false,ih]
    by_cases h2:i≤j
    ·rw [if_pos (by omega),if_pos h2,show j - i=(j - (i+1))+1 by omega]; rfl
    ·rw [if_neg (by omega),if_neg h2]
def initL (args:List AV) (bin:List Blk):LS:=⟨numL 0 args,numB 0 bin,bin.length⟩
theorem initL_st (args:List AV) (bin:List Blk):(initL args bin).st=AS.init args bin:=by
 unfold initL LS.st AS.init
 congr 1
 ·funext i; exact (numL_lk args 0 i).trans (by simp)
 ·funext i; exact (numB_lk bin 0 i).trans (by simp [ofL])
theorem Ctr.cut (cuts:List Nat) {P:Program} {T:Ty} (hT:TOk P T) (hmix:P.follows .mixedOrders=true) {f:Nat} {fn:Func} {c:Code} (hf:P.funcs[f]? = some fn) (hb:fn.body=some c) (hcall:Callable P f) {args:List AV} {bin:List Blk} {res:AE} {bout:List (Option Blk)}
  (hN:Nat.ble args.length fn.ntmps=true) (h:SOk (AS.init args bin)→awpL XT P T bin.length fn.ntmps cuts c (fun x s=>afin T bin.length fn.results.toList res bout x s.st) (initL args bin)) (hbo:Nat.beq bout.length bin.length=true:=by rfl):Ctr P f args bin res bout :=
 Ctr.intro (hbo:=hbo) hT hf hb hcall hN fun hok=>by
  have:=awpL_sound hT hmix c _ _ (h hok)
  rw [initL_st] at this
  exact this.mono fun x s hx=>by obtain ⟨ls,rfl,hx⟩:=hx; exact hx
theorem Ctr.of {P:Program} {T:Ty} (hT:TOk P T) (hmix:P.follows .mixedOrders=true) {f:Nat} {fn:Func} {c:Code} (hf:P.funcs[f]? = some fn) (hb:fn.body=some c) (hcall:Callable P f) {args:List AV} {bin:List Blk} {res:AE} {bout:List (Option Blk)}
  (hN:Nat.ble args.length fn.ntmps=true) (h:SOk (AS.init args bin)→awpL XT P T bin.length fn.ntmps [] c (fun x s=>afin T bin.length fn.results.toList res bout x s.st) (initL args bin)) (hbo:Nat.beq bout.length bin.length=true:=by rfl):Ctr P f args bin res bout :=
 Ctr.cut (hbo:=hbo) [] hT hmix hf hb hcall hN h
theorem Ctr.new (cuts:List Nat) {P:Program} {T:Ty} (hT:TOk P T) (hmix:P.follows .mixedOrders=true) {f:Nat} {fn:Func} {c:Code} (hf:P.funcs[f]? = some fn) (hb:fn.body=some c) (hcall:Callable P f) {args:List AV} {bin:List Blk} {res:AE} {bout:List (Option Blk)}
  (hN:Nat.ble args.length fn.ntmps=true) (h:SOk (AS.init args bin)→awpL XT P T bin.length fn.ntmps cuts c (fun x s => ∃ ρ,rhoOk bin.length ρ=true∧ρ.length=bout.length∧afinR T ρ fn.results.toList res bout x s.st) (initL args bin)):Ctr P f args bin res bout :=
 Ctr.introR hT hf hb hcall hN fun hok=>by
  have:=awpL_sound hT hmix c _ _ (h hok)
  rw [initL_st] at this
  exact this.mono fun x s hx=>by obtain ⟨ls,rfl,hx⟩:=hx; exact hx
theorem Ctr.pk (cuts:List Nat) {P:Program} {T:Ty} (hT:TOk P T) (hmix:P.follows .mixedOrders=true) {f:Nat} {fn:Func} {c:Code} (hf:P.funcs[f]? = some fn) (hb:fn.body=some c) (hcall:Callable P f) {args:List AV} {bin:List Blk} {res:AE} {bout:List (Option Blk)}
  (hN:Nat.ble args.length fn.ntmps=true) (h:SOk (AS.init args bin)→awpL XT P T bin.length fn.ntmps cuts c (fun x s => ∃ hs,apacks hs s.st.m fun m => ∃ ρ,rhoOk bin.length ρ=true∧ρ.length=bout.length∧afinR T ρ fn.results.toList res bout x ⟨s.st.t,m,s.st.nx⟩) (initL args bin)):Ctr P f args bin res bout :=
 Ctr.introP hT hf hb hcall hN fun hok=>by
  have:=awpL_sound hT hmix c _ _ (h hok)
  rw [initL_st] at this
  exact this.mono fun x s hx=>by obtain ⟨ls,rfl,hx⟩:=hx; exact hx
end Go.Proofs.YthboippafkcoiaaGreatDoor.am
namespace Go.Proofs.YthboippafkcoiaaGreatDoor.am
open Go
theorem acall.gen {P:Program} {m:Mem} {nh f:Nat} {xs:List AV} {K:EE} (ρ sn:List Nat) (as:List AV) (bin:List Blk) (res:AE) (bout:List (Option Blk)) (h:Ctr P f as bin res bout)
  (h1:decide ρ.Nodup=true) (h2:Nat.beq ρ.length bin.length=true) (h3:Nat.beq bout.length bin.length=true) (h4:boutOk ρ.length bout=true) (h5:cvL m ρ [] (seenS ρ sn) xs as)
  (h6:cvO m ρ (seenS ρ sn) 0 (bin.map some)) (h7:(ρ++sn).all (fun k=>(m k).isSome)=true) (h8:res.lowH ρ.length=true)
  (hK:K (res.out ρ) (rdOf m (ρ++sn)) (callUp ρ sn res bout)):acall P m nh f xs K:=by
 refine ⟨ρ,ρ,sn,as,bin,res,bout,⟨h,of_decide_eq_true h1,Nat.eq_of_beq_eq_true h2,by rw [Nat.sub_self]; simp [fresh],(Nat.eq_of_beq_eq_true h3).trans (Nat.eq_of_beq_eq_true h2).symm,h4,h5,?_,fun k hk => ?_,h8⟩,hK⟩
 ·have:=cvO_ok h6
  have e:ofLO (bin.map some)=ofL bin:=by
   funext i
   unfold ofLO ofL
   rw [List.getElem?_map]
   cases bin[i]? <;> rfl
  rw [e] at this
  exact this
 ·exact Option.isSome_iff_exists.1 (List.all_eq_true.1 h7 k hk)
theorem acall.au {P:Program} {m:Mem} {nh f:Nat} {xs:List AV} {K:EE} (ρ sn:List Nat) {as:List AV} {bin:List Blk} {res:AE} {bout:List (Option Blk)} (h:Ctr P f as bin res bout)
  (hK:K (res.out ρ) (rdOf m (ρ++sn)) (callUp ρ sn res bout))
  (h5:cvL m ρ [] (seenS ρ sn) xs as:=by repeat' (first | exact trivial | exact Or.inl (ti_succ (by assumption) (by assumption)) | exact Or.inl rfl | exact rfl | exact Nat.le_refl _ | apply And.intro))
  (h6:cvO m ρ (seenS ρ sn) 0 (bin.map some):=by repeat' (first | exact trivial | exact Or.inl (ti_succ (by assumption) (by assumption)) | exact Or.inl rfl | exact rfl | exact Nat.le_refl _ | apply And.intro))
  (h1:decide ρ.Nodup=true:=by exact rfl) (h2:Nat.beq ρ.length bin.length=true:=by exact rfl) (h3:Nat.beq bout.length bin.length=true:=by exact rfl) (h4:boutOk ρ.length bout=true:=by exact rfl)
  (h7:(ρ++sn).all (fun k=>(m k).isSome)=true:=by exact rfl) (h8:res.lowH ρ.length=true:=by exact rfl):acall P m nh f xs K:=acall.gen ρ sn as bin res bout h h1 h2 h3 h4 h5 h6 h7 h8 hK
def fNs:List Nat→(List Nat→Prop)→Prop
 | [],K=>K []
 | a::l,K=>fN a fun a=>fNs l fun l=>K (a::l)
theorem fNs_eq : ∀ (l:List Nat) (K:List Nat→Prop),fNs l K=K l
 | [],_=>rfl
 | a::l,K=>by unfold fNs; rw [fN_eq,fNs_eq l]
theorem acall.new {P:Program} {m:Mem} {nh f:Nat} {xs:List AV} {K:EE} (ρ sn:List Nat) (as:List AV) (bin:List Blk) (res:AE) (bout:List (Option Blk)) (h:Ctr P f as bin res bout)
  (h1:decide ρ.Nodup=true) (h2:Nat.beq ρ.length bin.length=true) (h3:Nat.ble ρ.length bout.length=true) (h4:boutOk bout.length bout=true) (h5:cvL m ρ [] (seenS ρ sn) xs as)
  (h6:cvO m ρ (seenS ρ sn) 0 (bin.map some)) (h7:(ρ++sn).all (fun k=>(m k).isSome)=true) (h8:res.lowH bout.length=true)
  (hK:fNs (ρ++fresh nh (bout.length - ρ.length)) fun ro=>K (res.out ro) (rdOf m (ρ++sn)) (callUp ro sn res bout)):acall P m nh f xs K:=by
 rw [fNs_eq] at hK
 have hle:=Nat.le_of_ble_eq_true h3
 have hl:(ρ++fresh nh (bout.length - ρ.length)).length=bout.length:=by rw [List.length_append,fresh_len]; omega
 refine ⟨ρ,ρ++fresh nh (bout.length - ρ.length),sn,as,bin,res,bout,⟨h,of_decide_eq_true h1,Nat.eq_of_beq_eq_true h2,by rw [hl],hl.symm,by rw [hl]; exact h4,h5,?_,fun k hk => ?_,by rw [hl]; exact h8⟩,hK⟩
 ·have:=cvO_ok h6
  have e:ofLO (bin.map some)=ofL bin:=by
   funext i
   unfold ofLO ofL
   rw [List.getElem?_map]
   cases bin[i]? <;> rfl
  rw [e] at this
  exact this
 ·exact Option.isSome_iff_exists.1 (List.all_eq_true.1 h7 k hk)
end Go.Proofs.YthboippafkcoiaaGreatDoor.am
namespace Go.Proofs.YthboippafkcoiaaGreatDoor.am
open Go
structure Decl where
 name:ByteArray
 word:Int
 at_:Int
inductive Expr where
 | mk (kind op:Int) (word:Int) (name:ByteArray) (kids:List Expr) (at_:Int)
inductive Stmt where
 | mk (kind:Int) (name other:ByteArray) (e:List Expr) (body els:List Stmt) (at_:Int)
structure Thread where
 name:ByteArray
 locals:List Decl
 body:List Stmt
 at_:Int
structure Prg where
 shared:List Decl
 locks:List Decl
 threads:List Thread
structure Flt where
 at_:Int
 rule:Int
def Decl.cells (d:Decl):List Tr:=[ts d.name,ti d.word,ti d.at_]
abbrev declsT (l:List Decl):Tr := .lst 3 32 (l.map Decl.cells)
mutual
def Expr.cells:Expr→List Tr
 | .mk kind op word name kids at_=>[tu kind,tu op,ti word,ts name,.lst 6 64 (Expr.rows kids),ti at_]
def Expr.rows:List Expr→List (List Tr)
 | []=>[]
 | e::l=>Expr.cells e::Expr.rows l
end
theorem Expr.rows_eq : ∀ l:List Expr,Expr.rows l=l.map Expr.cells
 | []=>rfl
 | e::l=>by simp only [Expr.rows,List.map_cons,Expr.rows_eq l]
abbrev exprsT (l:List Expr):Tr := .lst 6 64 (Expr.rows l)
mutual
def Stmt.cells:Stmt→List Tr
 | .mk kind name other e body els at_=>[tu kind,ts name,ts other,.lst 6 64 (Expr.rows e),.lst 7 120 (Stmt.rows body),.lst 7 120 (Stmt.rows els),ti at_]
def Stmt.rows:List Stmt→List (List Tr)
 | []=>[]
 | s::l=>Stmt.cells s::Stmt.rows l
end
theorem Stmt.rows_eq : ∀ l:List Stmt,Stmt.rows l=l.map Stmt.cells
 | []=>rfl
 | e::l=>by simp only [Stmt.rows,List.map_cons,Stmt.rows_eq l]
abbrev stmtsT (l:List Stmt):Tr := .lst 7 120 (Stmt.rows l)
def Thread.cells (t:Thread):List Tr:=[ts t.name,declsT t.locals,stmtsT t.body,ti t.at_]
abbrev threadsT (l:List Thread):Tr := .lst 4 72 (l.map Thread.cells)
def Prg.av (p:Prg):AV := .agg [.tr (declsT p.shared),.tr (declsT p.locks),.tr (threadsT p.threads)]
def Decl.av (d:Decl):AV := .agg (d.cells.map .tr)
def Thread.av (t:Thread):AV := .agg (t.cells.map .tr)
def Expr.av (e:Expr):AV := .agg (e.cells.map .tr)
def Stmt.av (s:Stmt):AV := .agg (s.cells.map .tr)
def Flt.av (f:Flt):AV := .agg [.tr (ti f.at_),.tr (ti f.rule)]
theorem map_get {α β:Type} {f:α→β} {l:List α} {i:Nat} {y:β} (h:(l.map f)[i]? = some y) : ∃ x,l[i]? = some x∧f x=y:=by simpa using h
theorem drop_cons {α:Type} {l:List α} {i:Nat} {x:α} (h:l[i]? = some x):l.drop i=x::l.drop (i+1):=by
 have:=(List.getElem?_eq_some_iff.1 h)
 obtain ⟨h1,rfl⟩:=this
 exact List.drop_eq_getElem_cons h1
theorem take_snoc {α:Type} {l:List α} {i:Nat} {x:α} (h:l[i]? = some x):l.take (i+1)=l.take i++[x]:=by
 rw [List.take_add_one,h]; rfl
theorem erows_get {l:List Expr} {i:Nat} {y:List Tr} (h:(Expr.rows l)[i]? = some y) : ∃ x,l[i]? = some x∧Expr.cells x=y:=by
 rw [Expr.rows_eq] at h; exact map_get h
theorem srows_get {l:List Stmt} {i:Nat} {y:List Tr} (h:(Stmt.rows l)[i]? = some y) : ∃ x,l[i]? = some x∧Stmt.cells x=y:=by
 rw [Stmt.rows_eq] at h; exact map_get h
theorem erows_len (l:List Expr):(Expr.rows l).length=l.length:=by rw [Expr.rows_eq,List.length_map]
theorem srows_len (l:List Stmt):(Stmt.rows l).length=l.length:=by rw [Stmt.rows_eq,List.length_map]
abbrev seq (a b:ByteArray):Bool:=a.toList == b.toList
def findI:List Decl→ByteArray→Nat→Int
 | [],_,_ => -1
 | d::l,s,k=>if seq d.name s then k else findI l s (k+1)
def threadI:List Thread→ByteArray→Nat→Int
 | [],_,_ => -1
 | d::l,s,k=>if seq d.name s then k else threadI l s (k+1)
def localI (p:Prg) (t:Int) (name:ByteArray):Int :=
 if t<0 then -1 else match p.threads[t.toNat]? with
  | some th=>findI th.locals name 0
  | none => -1
end Go.Proofs.YthboippafkcoiaaGreatDoor.am
namespace Go.Proofs.YthboippafkcoiaaGreatDoor.am
open Go
def variableI (p:Prg) (t:Int) (name:ByteArray) (shared:Bool):Int :=
 bif decide (localI p t name ≥ 0) then (bif shared then 6 else 0)
 else bif decide (findI p.shared name 0 ≥ 0) then 0
 else bif decide (findI p.locks name 0 ≥ 0) || decide (threadI p.threads name 0 ≥ 0) then 6 else 5
def lockI (p:Prg) (t:Int) (name:ByteArray):Int :=
 bif decide (localI p t name ≥ 0) then 6
 else bif decide (findI p.locks name 0 ≥ 0) then 0
 else bif decide (findI p.shared name 0 ≥ 0) || decide (threadI p.threads name 0 ≥ 0) then 6 else 5
def leastI (a b:Int):Int:=bif (a == 0) || (decide (b > 0) && decide (b<a)) then b else a
def noS (s:ByteArray):Bool:=seq s ⟨#[]⟩
def two (op:Int):Bool:=decide (op ≥ 1) && decide (op≤16)
def partsB:Expr→Bool
 | .mk kind op word name kids _ =>
  bif kind == 1 then op == 0 && noS name && ((Expr.rows kids).length:Int) == 0 && decide (word ≥ 0)
  else bif kind == 2 then op == 0 && word == 0 && ((Expr.rows kids).length:Int) == 0
  else bif kind == 3 then word == 0 && noS name && ((Expr.rows kids).length:Int) == 1 && (op == 17 || op == 18)
  else bif kind == 4 then word == 0 && noS name && ((Expr.rows kids).length:Int) == 2 && two op
  else false
def fieldsB:Stmt→Bool
 | .mk kind name other e body els _ =>
  bif kind == 1 then noS other && ((Expr.rows e).length:Int) == 1 && !decide (((Stmt.rows body).length:Int) > 0) && !decide (((Stmt.rows els).length:Int) > 0)
  else bif kind == 2 then ((Expr.rows e).length:Int) == 1 && !decide (((Stmt.rows body).length:Int) > 0) && !decide (((Stmt.rows els).length:Int) > 0)
  else bif kind == 3 then noS name && noS other && ((Expr.rows e).length:Int) == 1
  else bif kind == 4 then noS name && noS other && ((Expr.rows e).length:Int) == 1 && !decide (((Stmt.rows els).length:Int) > 0)
  else bif kind == 5 then noS other && ((Expr.rows e).length:Int) == 0 && !decide (((Stmt.rows els).length:Int) > 0)
  else bif kind == 6 then noS name && noS other && ((Expr.rows e).length:Int) == 1 && !decide (((Stmt.rows body).length:Int) > 0) && !decide (((Stmt.rows els).length:Int) > 0)
  else bif kind == 7 then noS name && noS other && ((Expr.rows e).length:Int) == 0 && !decide (((Stmt.rows body).length:Int) > 0) && !decide (((Stmt.rows els).length:Int) > 0)
  else false
def deepI (r deep:Int):Int:=bif (r == 0) && decide (deep > 64) then 7 else r
mutual
def exprF (p:Prg) (t:Int):Expr→Int→Flt
 | .mk kind op word name kids at_,deep =>
  bif !partsB (.mk kind op word name kids at_) then ⟨at_,4⟩
  else bif deepI (bif kind == 2 then variableI p t name false else 0) deep != 0 then ⟨at_,deepI (bif kind == 2 then variableI p t name false else 0) deep⟩
  else exprsF p t kids (deep+1)
def exprsF (p:Prg) (t:Int):List Expr→Int→Flt
 | [],_=>⟨0,0⟩
 | e::l,deep=>bif (exprF p t e deep).rule != 0 then exprF p t e deep else exprsF p t l deep
end
def namesI (p:Prg) (t:Int) (kind:Int) (name other:ByteArray):Int :=
 bif kind == 1 then variableI p t name false
 else bif kind == 2 then leastI (variableI p t name false) (variableI p t other true)
 else bif kind == 5 then lockI p t name else 0
mutual
def stmtF (p:Prg) (t:Int):Stmt→Int→Flt
 | .mk kind name other e body els at_,deep =>
  bif !fieldsB (.mk kind name other e body els at_) then ⟨at_,4⟩
  else bif deepI (namesI p t kind name other) deep != 0 then ⟨at_,deepI (namesI p t kind name other) deep⟩
  else bif (exprsF p t e 1).rule != 0 then exprsF p t e 1
  else bif (stmtsF p t body (deep+1)).rule != 0 then stmtsF p t body (deep+1)
  else stmtsF p t els (deep+1)
def stmtsF (p:Prg) (t:Int):List Stmt→Int→Flt
 | [],_=>⟨0,0⟩
 | e::l,deep=>bif (stmtF p t e deep).rule != 0 then stmtF p t e deep else stmtsF p t l deep
end
end Go.Proofs.YthboippafkcoiaaGreatDoor.am
namespace Go.Proofs.YthboippafkcoiaaGreatDoor.am
open Go
def chI (s:ByteArray) (i:Nat):Int:=match s[i]? with
 | some b=>b.toNat
 | none=>0
def digB (c:Int):Bool:=decide (c ≥ 48) && decide (c≤57)
def letB (c:Int):Bool:=(decide (c ≥ 97) && decide (c≤122)) || (decide (c ≥ 65) && decide (c≤90)) || c == 95
def wordB (s:ByteArray):Bool:=seq s ⟨#[115,104,97,114,101,100]⟩ || seq s ⟨#[108,111,99,107]⟩ || seq s ⟨#[116,104,114,101,97,100]⟩ || seq s ⟨#[108,111,99,97,108]⟩ || seq s ⟨#[105,102]⟩
 || seq s ⟨#[101,108,115,101]⟩ || seq s ⟨#[119,104,105,108,101]⟩ || seq s ⟨#[112,114,105,110,116]⟩ || seq s ⟨#[115,107,105,112]⟩ || seq s ⟨#[115,119,97,112]⟩
def charsB (s:ByteArray):Nat→Bool
 | 0=>true
 | n+1=>bif !letB (chI s (s.size - (n+1))) && !digB (chI s (s.size - (n+1))) then false else charsB s n
def nameB (s:ByteArray):Bool:=bif decide ((s.size:Int)<1) || decide ((s.size:Int) > 32) || digB (chI s 0) || wordB s then false else charsB s s.size
theorem charsB_at {s:ByteArray} {i:Nat} {b:UInt8} (h:s[i]? = some b) (hi:i<s.size):charsB s (s.size - i)=bif !letB b.toNat && !digB b.toNat then false else charsB s (s.size - (i+1)):=by
 have hc:chI s i=b.toNat:=by unfold chI; rw [h]
 have e:s.size - i=(s.size - (i+1))+1:=by omega
 rw [e]
 show (bif !letB (chI s (s.size - (s.size - (i+1)+1))) && !digB (chI s (s.size - (s.size - (i+1)+1))) then false else charsB s (s.size - (i+1)))=_
 rw [show s.size - (s.size - (i+1)+1)=i by omega,hc]
theorem loop_len (bs:ByteArray) : ∀ (n i:Nat) (r:List UInt8),bs.size - i=n→(ByteArray.toList.loop bs i r).length=r.length+n:=by
 intro n
 induction n with
 | zero=>intro i r h; unfold ByteArray.toList.loop; rw [if_neg (by omega)]; simp
 | succ n ih=>intro i r h; unfold ByteArray.toList.loop; rw [if_pos (by omega),ih (i+1) _ (by omega)]; simp; omega
theorem toList_len (a:ByteArray):a.toList.length=a.size:=by
 unfold ByteArray.toList; rw [loop_len a a.size 0 [] rfl]; simp
theorem noS_size (s:ByteArray):noS s=decide ((s.size:Int)<1):=by
 unfold noS seq
 have h0:(⟨#[]⟩:ByteArray).toList=[]:=by have:=toList_len ⟨#[]⟩; exact List.eq_nil_of_length_eq_zero this
 rw [h0]
 have h1:=toList_len s
 cases h:s.toList with
 | nil=>rw [h] at h1; simp at h1; simp [← h1]
 | cons a l=>rw [h] at h1; simp at h1; simp; omega
end Go.Proofs.YthboippafkcoiaaGreatDoor.am
namespace Go.Proofs.YthboippafkcoiaaGreatDoor.am
open Go
set_option linter.unusedSimpArgs false
def Raised (b:Bool) (v:Value) (u:FrameMode):Prop:=match b with
 | false=>v = .nilIface∧u = .returning
 | true=>u = .panicking [{ v,recovered:=false }]
def Quiet:AE := .ret (.tup [])
structure CtrD (P:Program) (d:Nat) (b:Bool) (args:List AV) (pv:AV) (bin:List Blk) (bout:List (Option Blk)):Prop where
 callable:Callable P d
 run : ∀ (g:Gh) (w:World) (vs:Array Value) (v:Value) (u:FrameMode),(∀ h,bin.length≤h→g h = .un)→MSt g w (ofL bin)→vs.size=args.length→(∀ (i:Nat) (v:Value) (a:AV),vs[i]? = some v→args[i]? = some a→Rep g w v a)→Rep g w v pv→Raised b v u →
  CallsD P d vs u w fun e u' w'=>settle u' = .returning ∧ ∃ g',Grow g w g' w'∧MSt g' w' (ofLO bout)∧Under g' bout.length∧Quiet.is g' w' e
section
variable {P:Program} {T:Ty}
theorem post_ret (hT:TOk P T) {fn:Func} {k N:Nat} {g:Gh} {w:World} {D:List Deferred} {a:AV} {bout:List (Option Blk)} {x:AX} {s:AS} {g':Gh} {e:Exit} {act':Act} {w':World} {ρ:List Nat} (hun : ∀ h,k≤h→g h = .un) (hρ:rhoOk k ρ=true) (hρl:ρ.length=bout.length)
  (h1:afinR T ρ fn.results.toList (.ret a) bout x s) (h2:St (g.at D) w N g' act' w' s) (h3:x.is g' w' e) :
  (e = .normal∨e = .ret) ∧ ∃ v,(results fn act'.tmps).run P w' = .ok v w' ∧ ∃ g',Grow g w g' w'∧MSt g' w' (ofLO bout)∧Under g' bout.length∧Rep g' w' v a:=by
 have under:Under (gsub g' ρ [] g'.X) bout.length:=fun i hi l hl=>by
  have:ρ[i]? = none:=List.getElem?_eq_none (by omega)
  simp [gsub,this,has] at hl
 have hsub:SubOk g' w' ρ (fun h => !has ρ h) g'.X:=by
  refine ⟨fun b hb=>hb.2.1,fun i b _ e1=>h2.mem.xl i b e1,fun i hi hm => ?_⟩
  simp only [Bool.not_eq_true'] at hi
  rw [has_iff.2 hm] at hi; cases hi
 have fin:(match resAll T s fn.results.toList with | some l=>cv s.m ρ [] (fun h => !has ρ h) (resAV l) a | none=>False)∧cvO s.m ρ (fun h => !has ρ h) 0 bout →
   ∃ v,(results fn act'.tmps).run P w' = .ok v w' ∧ ∃ g',Grow g w g' w'∧MSt g' w' (ofLO bout)∧Under g' bout.length∧Rep g' w' v a:=by
  rintro ⟨h4,h5⟩
  split at h4
  case h_2=>exact h4.elim
  rename_i l hl
  obtain ⟨v,r1,r2⟩:=run_results hT (fn:=fn) h2.fr h2.mem hl
  have hst:=(range_sub hρ h5).st (g0:=g.at D) hun h2
  exact ⟨v,r1,_,hst.grow.of_at,hst.mem,under,cv_rep hsub h2.mem r2 h4⟩
 cases x with
 | normal=>cases e with
  | normal=>exact ⟨.inl rfl,fin h1⟩
  | _=>exact h3.elim
 | ret=>cases e with
  | ret=>exact ⟨.inr rfl,fin h1⟩
  | _=>exact h3.elim
 | exit i=>exact h1.elim
 | pan a=>exact h1.elim
theorem St.enter {g:Gh} {w:World} {vs:Array Value} {args:List AV} {bin:List Blk} {N:Nat} (hun : ∀ h,bin.length≤h→g h = .un) (hm:MSt g w (ofL bin)) (hsz:vs.size=args.length) (hvs : ∀ (i:Nat) (v:Value) (a:AV),vs[i]? = some v→args[i]? = some a→Rep g w v a) (hN:args.length≤N) :
  St (g.at []) w N g { tmps:=vs++Array.replicate (N - vs.size) undef,defers:=[] } w (AS.init args bin):=by
 refine ⟨by simp; omega,rfl,fun i a hi => ?_,hm,fun h hh=>hun h (Nat.le_trans hh (Nat.mod_le _ _)),Grow.at _ _ _⟩
 have hi':args[i]? = some a:=hi
 have hlt:i<args.length:=(List.getElem?_eq_some_iff.1 hi').1
 refine ⟨by omega,?_⟩
 have hv:vs[i]? = some vs[i]:=by simp [show i<vs.size by omega]
 have:(vs++Array.replicate (N - vs.size) undef).getD i undef=vs[i]:=by
  rw [Array.getD,dif_pos (by simp; omega)]
  simp [Array.getElem_append,show i<vs.size by omega]
 rw [this]
 exact hvs i vs[i] a hv hi'
theorem raised_rec {b:Bool} {v:Value} {u:FrameMode} (h:Raised b v u) (c₀:Frame) (cs:List Frame) (hu:c₀.mode=u) :
  ∃ u',settle u' = .returning∧((recoverD (c₀::cs)=some (v,{ c₀ with mode:=u' }::cs))∨(recoverD (c₀::cs)=none∧v = .nilIface∧u'=u)):=by
 cases b with
 | false =>
  obtain ⟨h1,h2⟩:=h
  refine ⟨u,by rw [h2]; rfl,.inr ⟨?_,h1,rfl⟩⟩
  rw [h2] at hu
  simp [recoverD,hu]
 | true =>
  have h:u = .panicking [{ v,recovered:=false }]:=h
  rw [h] at hu
  refine ⟨.panicking [{ v,recovered:=true }],by simp [settle],.inl ?_⟩
  simp [recoverD,hu]
theorem beq_swap (a b:Nat):Nat.beq a b=Nat.beq b a:=by
 by_cases h:a=b
 ·subst h; rfl
 ·rw [beq_ne h,beq_ne (Ne.symm h)]
theorem CtrD.of (hT:TOk P T) (hmix:P.follows .mixedOrders=true) {d:Nat} {fn:Func} {id:Nat} {o1 o2:Oper} {rest:Code} {ai bi:Nat} (hf:P.funcs[d]? = some fn) (hb:fn.body=some (.seq (.region id #[o1,o2] false) rest)) (hcall:Callable P d)
  (ho1:o1.op = .call { callee := .builtin .recover,args := #[],argTypes := #[] }) (hd1:o1.dst=some ai) (hg1:o1.guard=none) (ho2:o2.op = .assign (.tmp ai)) (hd2:o2.dst=some bi) (hg2:o2.guard=none)
  {b:Bool} {args:List AV} {pv:AV} {bin:List Blk} {bout:List (Option Blk)} (hN:(Nat.ble args.length fn.ntmps && Nat.blt ai fn.ntmps && Nat.blt bi fn.ntmps)=true) (hpv:b=false→pv = .tr (.v .nilIface)) (cuts:List Nat)
  (h:awpL XT P T bin.length fn.ntmps cuts rest (fun x s=>afin T bin.length fn.results.toList Quiet bout x s.st) ⟨(bi,pv)::(ai,pv)::numL 0 args,numB 0 bin,bin.length⟩) (hbo:Nat.beq bout.length bin.length=true:=by rfl):CtrD P d b args pv bin bout:=by
 refine ⟨hcall,fun g w vs v u hun hm hsz hvs hv hr=>callsD_of_wpS hf hb fun c₀ cs hu=>wpS_seq (wpS_region ?_)⟩
 simp only [Bool.and_eq_true] at hN
 obtain ⟨⟨hN1,hN2⟩,hN3⟩:=hN
 have hN1:=Nat.le_of_ble_eq_true hN1
 have hN2:ai<fn.ntmps:=Nat.le_of_ble_eq_true hN2
 have hN3:bi<fn.ntmps:=Nat.le_of_ble_eq_true hN3
 obtain ⟨u',hu',hrec⟩:=raised_rec hr c₀ cs hu
 have h0:=St.enter (N:=fn.ntmps) hun hm hsz hvs hN1
 generalize hact:({ tmps:=vs++Array.replicate (fn.ntmps - vs.size) undef,defers:=[] }:Act)=act at h0
 have e1:(execOp act.eval o1).run P w = .ok .recover w:=by simp [execOp,ho1,resolve,invoke,builtin]
 have p1:=put_ok (dst:=some ai) (t:=(AS.init args bin).t) (v:=v) (a:=pv) h0.size h0.fr (Grow.refl g w) (by unfold dstOk; exact Nat.ble_eq_true_of_le hN2) hv
 have p2:=put_ok (dst:=some bi) (v:=v) (a:=pv) p1.1 p1.2 (Grow.refl g w) (by unfold dstOk; exact Nat.ble_eq_true_of_le hN3) hv
 have hev:(act.put (some ai) v).eval (.tmp ai)=v:=by
  show (act.tmps.setIfInBounds ai v).getD ai undef=v
  rw [getD_set (by rw [h0.size]; exact hN2),if_pos rfl]
 have e2:(execOp (act.put (some ai) v).eval o2).run P w = .ok (.value v) w:=by simp [execOp,ho2,hev]
 have w1:Region.wanted o1 (yielded #[o1,o2] act.tmps)=true:=by simp [Region.wanted,hg1]
 have w2 : ∀ t,Region.wanted o2 (yielded #[o1,o2] t)=true:=fun t=>by simp [Region.wanted,hg2]
 have key : ∀ cs',(∃ u',settle u' = .returning∧cs' = { c₀ with mode:=u' }::cs)→wpOpsS P #[o1,o2] (Exit.thenS (rest.wpS P (bodyPostS P fn c₀ cs fun e u' w'=>settle u' = .returning ∧ ∃ g',Grow g w g' w'∧MSt g' w' (ofLO bout)∧Under g' bout.length∧Quiet.is g' w' e)) (bodyPostS P fn c₀ cs fun e u' w'=>settle u' = .returning ∧ ∃ g',Grow g w g' w'∧MSt g' w' (ofLO bout)∧Under g' bout.length∧Quiet.is g' w' e)) [1] (act.put (some ai) v) cs' w:=by
  rintro _ ⟨u2,hu2,rfl⟩
  have hg:(#[o1,o2]:Array Oper)[1]? = some o2:=rfl
  unfold wpOpsS
  rw [hg]
  simp only [w2,if_true,e2]
  rw [Oper.upon_value,hd2]
  unfold wpOpsS
  show rest.wpS P _ ((act.put (some ai) v).put (some bi) v) _ w
  have hst:St (g.at []) w fn.ntmps g ((act.put (some ai) v).put (some bi) v) w (⟨(bi,pv)::(ai,pv)::numL 0 args,numB 0 bin,bin.length⟩:LS).st:=by
   refine ⟨p2.1,h0.defers,fun i a hi=>p2.2 i a ?_,?_,fun h hh=>hun h (Nat.le_trans hh (Nat.mod_le _ _)),Grow.at _ _ _⟩
   ·show (bif Nat.beq i bi then some pv else bif Nat.beq i ai then some pv else args[i]?)=some a
    have hi:lk ((bi,pv)::(ai,pv)::numL 0 args) i=some a:=hi
    rw [lk_cons,lk_cons,numL_lk] at hi
    simp only [Nat.zero_le,if_true,Nat.sub_zero] at hi
    rw [beq_swap i bi,beq_swap i ai]
    exact hi
   ·have:(⟨(bi,pv)::(ai,pv)::numL 0 args,numB 0 bin,bin.length⟩:LS).st.m=ofL bin:=by
     funext i; exact (numB_lk bin 0 i).trans (by simp [ofL])
    rw [this]; exact hm
  refine wpS_of_wp (Go.wp_mono (awpL_sound hT hmix rest _ _ h (g.at []) g w w _ ⟨trivial,hun⟩ hst) ?_)
  rintro e act' w' ⟨x,s,g',⟨ls,rfl,h1⟩,h2,h3⟩
  obtain ⟨he,v',r1,r2⟩:=post_ret hT (fn:=fn) hun (rho_range _) (by rw [List.length_range]; exact (Nat.eq_of_beq_eq_true hbo).symm) h1 h2 h3
  rcases he with rfl | rfl <;> exact ⟨h2.defers,u2,rfl,v',r1,hu2,r2⟩
 have hg:(#[o1,o2]:Array Oper)[0]? = some o1:=rfl
 show wpOpsS P #[o1,o2] _ [0,1] act (c₀::cs) w
 unfold wpOpsS
 rw [hg]
 simp only [w1,if_true,e1,hd1]
 rcases hrec with hrec | ⟨hrec,hv0,hue⟩
 ·rw [hrec]
  exact key _ ⟨u',hu',rfl⟩
 ·rw [hrec,← hv0]
  refine key _ ⟨u,by rw [← hue]; exact hu',?_⟩
  rw [← hu]
end
end Go.Proofs.YthboippafkcoiaaGreatDoor.am
namespace Go.Proofs.YthboippafkcoiaaGreatDoor.am
open Go
set_option linter.unusedSimpArgs false
def Dend (P:Program) (T:Ty) (k d:Nat) (b:Bool) (cl:List AV) (pv:AV) (rs:List ResultVar) (res:AV) (bout:List (Option Blk)) (s:LS):Prop :=
 ∃ (ρ sn:List Nat) (as:List AV) (apv:AV) (bin':List Blk) (bout':List (Option Blk)),CallFit s.st.m s.nx (cl++[pv]) ρ ρ sn (as++[apv]) bin' Quiet bout'∧CtrD P d b as apv bin' bout' ∧
  Nat.blt s.nx HMod=true ∧ ∃ ρ',rhoOk k ρ'=true∧ρ'.length=bout.length∧afinR T ρ' rs (.ret res) bout .ret ⟨s.st.t,updM s.st.m (callUp ρ sn Quiet bout'),s.nx+1⟩
def Gfin (P:Program) (T:Ty) (k d:Nat) (cl:List AV) (rs:List ResultVar) (res:AV) (bout:List (Option Blk)):QL
 | .normal,s | .ret,s=>Dend P T k d false cl (.tr (.v .nilIface)) rs res bout s
 | .pan a,s=>Dend P T k d true cl a rs res bout s
 | .exit _,_=>False
section
variable {P:Program} {T:Ty}
theorem dend_ok (hT:TOk P T) {fn:Func} {k d N:Nat} {b:Bool} {cl:List AV} {pv:AV} {res:AV} {bout:List (Option Blk)} {s:LS} (h:Dend P T k d b cl pv fn.results.toList res bout s)
  {g g1 g':Gh} {w w1 w':World} {D:List Deferred} {act':Act} {cs:Array Value} {v:Value} {u:FrameMode} (hun : ∀ h,k≤h→g h = .un) (hG:Grow g w g1 w1) (h2:St (g1.at D) w1 N g' act' w' s.st)
  (hsz:cs.size=cl.length) (hcs : ∀ (i:Nat) (v:Value) (a:AV),cs[i]? = some v→cl[i]? = some a→Rep g' w' v a) (hv:Rep g' w' v pv) (hr:Raised b v u) :
  Leaves P fn act'.tmps (fun e w' => ∃ g',Grow g w g' w'∧MSt g' w' (ofLO bout)∧Under g' bout.length∧(AE.ret res).is g' w' e) [{ target := .fn (.func d) cs,args := #[] }] u w':=by
 obtain ⟨ρ,sn,as,apv,bin',bout',hfit,hc,hnb,ρ',hρ,hρl,hfin⟩:=h
 have hnb:s.nx<HMod:=Nat.le_of_ble_eq_true hnb
 have hne:u ≠ .run:=by
  cases b with
  | false=>rw [hr.2]; simp
  | true=>rw [show u = .panicking [{ v,recovered:=false }] from hr]; simp
 refine leaves_cons hne (f:=d) (args:=cs) ?_ ?_
 ·simp only [invoke]
  rw [hc.callable]
  simp
 have hlen:cl.length=as.length:=by
  have:=(cvL_get hfit.args).1
  simp at this; exact this
 have:=acall_core hfit (Run:=fun R=>CallsD P d cs u w' fun e u' w''=>settle u' = .returning∧R e w'') (fun R R' h1 h2=>h1.mono fun e u' w'' q=>⟨q.1,h2 e w'' q.2⟩) g' w' s.st.m (cs.push v)
  (fun gc hunc hmc hl hvs=>by
   refine hc.run gc w' cs v u hunc hmc (by simp at hl; exact hl) (fun i x a e1 e2 => ?_) ?_ hr
   ·have hi:i<cs.size:=(Array.getElem?_eq_some_iff.1 e1).1
    refine hvs i x a ?_ ?_
    ·rw [Array.getElem?_push,if_neg (by omega)]; exact e1
    ·rw [List.getElem?_append_left (by omega)]; exact e2
   ·refine hvs cs.size v apv (by simp) ?_
    rw [List.getElem?_append_right (by omega),show cs.size - as.length=0 by omega]; rfl)
  h2.mem hnb (fun k hk=>h2.un k (Nat.le_of_eq hk.symm)) (fun p hp=>(rdOf_ok p hp).1) (by simp; omega) (fun i x a e1 e2=>by
   by_cases hi:i<cs.size
   ·rw [Array.getElem?_push,if_neg (by omega)] at e1
    rw [List.getElem?_append_left (by omega)] at e2
    exact hcs i x a e1 e2
   ·have hi2:=(Array.getElem?_eq_some_iff.1 e1).1
    simp at hi2
    have hi3:i=cs.size:=by omega
    subst hi3
    rw [Array.getElem?_push,if_pos rfl] at e1
    rw [List.getElem?_append_right (by omega),show cs.size - cl.length=0 by omega] at e2
    cases e1; cases e2
    exact hv)
 refine this.mono fun e u' w'' hq => ?_
 obtain ⟨hset,gn,q1,q2,q3,q4⟩:=hq
 cases e with
 | returned v' =>
  show Leaves P fn act'.tmps _ [] (settle u') w''
  rw [hset]
  have hst:St (g.at D) w N gn act' w'' ⟨s.st.t,updM s.st.m (callUp ρ sn Quiet bout'),s.nx+1⟩ :=
   ⟨h2.size,h2.defers,fun i a hi=>⟨(h2.fr i a hi).1,((h2.fr i a hi).2).grow q3⟩,q2,fun h hh=>q4 h (by have:s.nx+1≤h % HMod:=hh; omega) (h2.un h (by show s.nx≤h % HMod; have:s.nx+1≤h % HMod:=hh; omega)),((hG.trans h2.grow.of_at).trans q3).to_at⟩
  obtain ⟨_,v2,r1,r2⟩:=post_ret hT (fn:=fn) (x := .ret) (e := .ret) hun hρ hρl hfin hst trivial
  exact ⟨v2,r1,r2⟩
 | panicked ch=>exact q1.elim
 | outgrown=>exact q1.elim
theorem evs_get {g:Gh} {w:World} {ev:Operand→Option AV} {ρ:Operand→Value} (hev : ∀ x b,ev x=some b→Rep g w (ρ x) b) {co:Array Operand} {cl:List AV} (h:evs ev co.toList=some cl) :
  (co.map ρ).size=cl.length ∧ ∀ (i:Nat) (v:Value) (a:AV),(co.map ρ)[i]? = some v→cl[i]? = some a→Rep g w v a:=by
 obtain ⟨e1,e2⟩:=evs_ok hev _ _ h
 exact ⟨by simpa using e1,fun i v a q1 q2=>e2 i v a (by simpa using q1) q2⟩
theorem Rep.low {gn g':Gh} {w':World} {k:Nat} (hok : ∀ b,okB g' w' b→okB gn w' b) (hh : ∀ i,i<k→gn i=g' i) {x:Value} {a:AV} (hr:Rep g' w' x a):a.lowH k=true→Rep gn w' x a:=by
 have hdl : ∀ {i:Nat} {q:HS},Nat.blt i k=true→g' i=q→gn i=q:=fun {i q} hb hq=>(hh i (Nat.le_of_ble_eq_true hb)).trans hq
 have cells : ∀ {cs:Array Value} {l:List AV},(∀ (i:Nat) (c:Value) (a:AV),cs[i]? = some c→l[i]? = some a→a.lowH k=true→Rep gn w' c a)→belowL k l=true →
   ∀ (i:Nat) (c:Value) (a:AV),cs[i]? = some c→l[i]? = some a→Rep gn w' c a:=fun ih hb i c a e1 e2=>ih i c a e1 e2 (belowL_get hb e2)
 induction hr with
 | und=>intro _; exact .und
 | tr h=>intro _; exact .tr (h.mono fun b hb=>⟨hok b hb,rfl⟩)
 | agg h1 h2 h3 ih=>intro hb; exact .agg h1 h2 (cells ih hb)
 | tup h1 h3 ih=>intro hb; exact .tup h1 (cells ih hb)
 | ptrD h1 h2=>intro hb; exact .ptrD (hdl hb h1) h2
 | ptr h1=>intro hb; exact .ptr (hdl hb h1)
 | vptD h1 h2=>intro hb; exact .vptD (hdl hb h1) h2
 | vpt h1=>intro hb; exact .vpt (hdl hb h1)
 | slD h1 h2=>intro hb; exact .slD (hdl hb h1) h2
 | sl h1 h2=>intro hb; exact .sl (hdl hb h1) h2
 | slN h1=>intro hb; exact .slN (hdl hb h1)
 | ept f h1 h2 h3=>intro _; exact .ept f (hok _ h1) h2 fun j t hj=>(h3 j t hj).mono fun b hb=>⟨hok b hb,rfl⟩
 | fn h1 h3 ih=>intro hb; exact .fn h1 (cells ih hb)
 | ifc ht h1 ih=>intro hb; exact .ifc ht (ih hb)
 | bnd hf h1 ih=>intro hb; exact .bnd hf (ih hb)
 | psl h1 ih=>intro hb; exact .psl (ih hb)
 | frz h1 h2 _ ih=>intro hb; exact .frz (hok _ h1) h2 (ih (belowL_get (l:=[_]) (i:=0) hb rfl))
 | win h1 h2 ih=>intro hb; exact .win (ih hb) h2
 | mpD h1 h2=>intro hb; exact .mpD (hdl hb h1) h2
 | mp h1=>intro hb; exact .mp (hdl hb h1)
 | ful h1 h2=>intro _; exact .ful (h1.mono fun b hb=>⟨hok b hb,rfl⟩) h2
theorem lnk_all {k:Nat} {ln:List ((Nat × Nat) × (Nat × Nat))} {i j h len:Nat} (hl:(ln.all fun p=>Nat.blt p.2.1 k)=true) (hq:lnk ln i j=some (h,len)):Nat.blt h k=true:=by
 induction ln with
 | nil=>cases hq
 | cons p r ih =>
  obtain ⟨⟨a,b⟩,x,l⟩:=p
  rw [List.all_cons,Bool.and_eq_true] at hl
  change (bif Nat.beq b j && Nat.beq a i then some (x,l) else lnk r i j)=some (h,len) at hq
  cases hc:(Nat.beq b j && Nat.beq a i) with
  | true=>rw [hc] at hq; cases hq; exact hl.1
  | false=>rw [hc] at hq; exact ih hl.2 hq
theorem BRep.low {gn g':Gh} {w':World} {k:Nat} (hok : ∀ b,okB g' w' b→okB gn w' b) (hh : ∀ i,i<k→gn i=g' i) {l:Loc} {F:Nat→Prop} {b:Blk} (hr:BRep g' w' l F b) (hb:b.lowH k=true):BRep gn w' l F b:=by
 cases b with
 | cells t as =>
  obtain ⟨j,cs,rfl,e,h1,h2,h3⟩:=hr
  exact ⟨j,cs,rfl,e,h1,h2,fun i c a e1 e2=>(h3 i c a e1 e2).low hok hh (belowL_get hb e2)⟩
 | vec e n B rows =>
  obtain ⟨hB,hn,hv⟩:=hr
  refine ⟨hB,hn,?_⟩
  rcases hv with hv | ⟨j,cap,cur,rfl,e1,e2,e3,e4,e5,e6⟩
  ·exact .inl hv
  ·exact .inr ⟨j,cap,cur,rfl,e1,e2,e3,e4,e5,fun i t hi=>by obtain ⟨c,c1,c2⟩:=e6 i t hi; exact ⟨c,c1,c2.mono fun b hb=>⟨hok b hb,rfl⟩⟩⟩
 | map kd es =>
  obtain ⟨j,ents,clock,rfl,e1,e2,e3,e4⟩:=hr
  exact ⟨j,ents,clock,rfl,e1,e2,e3,fun i q t hi=>by obtain ⟨en,c1,c2,c3⟩:=e4 i q t hi; exact ⟨en,c1,c2,c3.mono fun b hb=>⟨hok b hb,rfl⟩⟩⟩
 | itr h0 n s =>
  obtain ⟨r,b,rfl,e1,e2⟩:=hr
  exact ⟨r,b,rfl,e1,e2.low hok hh (show (AV.mp h0).lowH k=true from hb)⟩
 | fns e B h0 fs =>
  obtain ⟨hB,hv⟩:=hr
  refine ⟨hB,?_⟩
  rcases hv with hv | ⟨j,cap,cur,rfl,e1,e2,e3,e4,e5⟩
  ·exact .inl hv
  ·exact .inr ⟨j,cap,cur,rfl,e1,e2,e3,e4,fun i p hi=>by obtain ⟨c,c1,c2⟩:=e5 i p hi; exact ⟨c,c1,c2.low hok hh (fnAV_low hb)⟩⟩
 | own n B rows ln =>
  obtain ⟨hB,hn,hv⟩:=hr
  refine ⟨hB,hn,?_⟩
  rcases hv with hv | ⟨j,cap,cur,e,Fs,rfl,e1,e2,e3,e4,e5,e6,e7,e8⟩
  ·exact .inl hv
  ·exact .inr ⟨j,cap,cur,e,Fs,rfl,e1,e2,e3,e4,e5,e6,e7,fun i j row t c q1 q2 q3=>⟨fun q=>(e8 i j row t c q1 q2 q3).1 q,fun h' len q=>((e8 i j row t c q1 q2 q3).2 h' len q).low hok hh (lnk_all hb q)⟩⟩
def gcut (g:Gh) (k:Nat):Gh:=⟨fun i=>if i<k then g i else .un,g.X,g.D,g.F⟩
theorem gcut_owns {g:Gh} {k h b:Nat} (ho:Owns (gcut g k) h b):Owns g h b:=by
 obtain ⟨l,e1,e2⟩:=ho
 change (if h<k then g h else HS.un) = .live l at e1
 split at e1
 ·exact ⟨l,e1,e2⟩
 ·cases e1
theorem gcut_lt {g:Gh} {k i:Nat} (h:i<k):gcut g k i=g i:=by simp [gcut,h]
theorem gcut_ok {g:Gh} {w:World} {k b:Nat} (h:okB g w b):okB (gcut g k) w b:=⟨h.1,h.2.1,fun i hi=>h.2.2 i (gcut_owns hi)⟩
theorem Grow.cut {g g1:Gh} {w w1:World} {k:Nat} (h:Grow g w g1 w1) (hk : ∀ i,k≤i→g i = .un):Grow g w (gcut g1 k) w1:=by
 refine ⟨h.os,h.tape,h.output,h.size,h.block,h.xb,h.X,fun i hi => ?_,fun i l hi => ?_,fun i b hi=>h.new i b (gcut_owns hi)⟩
 ·have:i<k:=by
   rcases Nat.lt_or_ge i k with q | q
   ·exact q
   ·exact absurd (hk i q) hi
  rw [gcut_lt this]; exact h.un i hi
 ·change (if i<k then g1 i else HS.un) = .live l at hi
  split at hi
  ·exact h.live i l hi
  ·cases hi
def lowS (k0:Nat) (s:LS) (k:Nat):Bool:=Nat.ble k0 k && (s.tl.all (fun p=>p.2.lowH k) && s.bl.all fun p=>Nat.blt p.1 k && (match p.2 with | some b=>b.lowH k | none=>true))
theorem lk_in {α:Type} {l:List (Nat × α)} {i:Nat} {a:α} (h:lk l i=some a):(i,a) ∈ l:=lk_mem h
theorem Ctr.guard (cuts:List Nat) (hT:TOk P T) (hmix:P.follows .mixedOrders=true) {f d t i0 i1:Nat} {fn:Func} {ops0:Array Oper} {o1 o2:Oper} {c:Code} {co:Array Operand} (hf:P.funcs[f]? = some fn)
  (hb:fn.body=some (.seq (.region i0 ops0 false) (.seq (.region i1 #[o1,o2] false) c))) (hcall:Callable P f)
  (ho1:o1.op = .makeFunc (.func d) #[] co) (hd1:o1.dst=some t) (hg1:o1.guard=none) (ho2:o2.op = .defer { callee := .value (.tmp t),args := #[],argTypes := #[] }) (hd2:o2.dst=none) (hg2:o2.guard=none)
  {args:List AV} {bin:List Blk} {res:AV} {bout:List (Option Blk)} (hN:(Nat.ble args.length fn.ntmps && Nat.blt t fn.ntmps)=true)
  (h:SOk (AS.init args bin)→awpL XT P T bin.length fn.ntmps cuts (.region i0 ops0 false) (fun x s=>x = .normal∧lowS bin.length s s.nx=true ∧ ∃ cl,evs (evA s.st.t) co.toList=some cl ∧
   awpL XT P T s.nx fn.ntmps cuts c (Gfin P T bin.length d cl fn.results.toList res bout) ⟨(t,.fn d cl)::s.tl,s.bl,s.nx⟩) (initL args bin)):Ctr P f args bin (.ret res) bout:=by
 refine ⟨hcall,fun g w vs hun hm hsz hvs=>calls_of_wp_defers hf hb (wp_seq ?_)⟩
 simp only [Bool.and_eq_true] at hN
 have hN1:=Nat.le_of_ble_eq_true hN.1
 have hN2:t<fn.ntmps:=Nat.le_of_ble_eq_true hN.2
 have h0:=St.enter (N:=fn.ntmps) hun hm hsz hvs hN1
 have hok:SOk (AS.init args bin):=h0.ok
 have hw:=awpL_sound hT hmix _ _ _ (h hok)
 rw [initL_st] at hw
 refine Go.wp_mono (hw (g.at []) g w w _ ⟨trivial,hun⟩ h0) ?_
 rintro e act1 w1 ⟨x,s,g1,⟨ls,rfl,rfl,hlow,cl,hcl,h1⟩,h2,h3⟩
 have hkk:bin.length≤ls.nx:=by unfold lowS at hlow; simp only [Bool.and_eq_true] at hlow; exact Nat.le_of_ble_eq_true hlow.1
 obtain ⟨g1,h2⟩ : ∃ g1',St (g.at []) w fn.ntmps g1' act1 w1 ls.st ∧ ∀ i,ls.nx≤i→g1' i = .un:=by
  unfold lowS at hlow
  simp only [Bool.and_eq_true,List.all_eq_true] at hlow
  replace hlow:=hlow.2
  refine ⟨gcut g1 ls.nx,⟨h2.size,h2.defers,fun i a hi=>⟨(h2.fr i a hi).1,(h2.fr i a hi).2.low (fun b hb=>gcut_ok hb) (fun i hi=>gcut_lt hi) (hlow.1 _ (lk_in hi))⟩,?_,fun i hi => ?_,h2.grow.cut fun i hi=>hun i (Nat.le_trans hkk hi)⟩,fun i hi => ?_⟩
  ·refine ⟨fun h b hb => ?_,fun h h' b e1 e2=>h2.mem.inj h h' b (gcut_owns e1) (gcut_owns e2),fun h b e1=>h2.mem.lt h b (gcut_owns e1),h2.mem.xlt,fun h b e1=>h2.mem.xl h b (gcut_owns e1),fun b Q hq=>⟨⟨(h2.mem.gl b Q hq).1.1,fun h ho=>(h2.mem.gl b Q hq).1.2 h (gcut_owns ho)⟩,(h2.mem.gl b Q hq).2⟩⟩
   have hb':(lk ls.bl h).join=some b:=hb
   have hb2:lk ls.bl h=some (some b):=by
    cases e:lk ls.bl h with
    | none=>rw [e] at hb'; cases hb'
    | some x=>rw [e] at hb'; exact congrArg some hb'
   obtain ⟨q1,q2⟩:=(by simpa using hlow.2 _ (lk_in hb2):Nat.blt h ls.nx=true∧b.lowH ls.nx=true)
   obtain ⟨l,e1,e2⟩:=h2.mem.blk h b hb
   exact ⟨l,(gcut_lt (Nat.le_of_ble_eq_true q1)).trans e1,e2.low (fun b hb=>gcut_ok hb) (fun i hi=>gcut_lt hi) q2⟩
  ·have:ls.nx≤i:=Nat.le_trans hi (Nat.mod_le _ _)
   simp [gcut,Nat.not_lt.2 this]
  ·simp [gcut,Nat.not_lt.2 hi]
 obtain ⟨h2,hun1⟩:=h2
 cases e with
 | normal =>
  show (Code.seq (.region i1 #[o1,o2] false) c).wp P _ act1 w1
  refine wp_seq (wp_region_list ?_)
  obtain ⟨v1,v2⟩:=evs_get (evA_ok h2.fr) hcl
  generalize hcs:co.map act1.eval=cs at v1 v2
  have e1:(execOp act1.eval o1).run P w1 = .ok (.value (.func (.func d) #[] cs)) w1:=by
   rw [← hcs]
   simp [execOp,ho1,Instr.makeFunc]
  have w1':Region.wanted o1 (yielded #[o1,o2] act1.tmps)=true:=by simp [Region.wanted,hg1]
  have w2 : ∀ t,Region.wanted o2 (yielded #[o1,o2] t)=true:=fun t=>by simp [Region.wanted,hg2]
  have hfn:Rep g1 w1 (.func (.func d) #[] cs) (.fn d cl) := .fn v1 v2
  have p1:=put_ok (dst:=some t) (v := .func (.func d) #[] cs) (a := .fn d cl) h2.size h2.fr (Grow.refl g1 w1) (by unfold dstOk; exact Nat.ble_eq_true_of_le hN2) hfn
  have hev:(act1.put (some t) (.func (.func d) #[] cs)).eval (.tmp t) = .func (.func d) #[] cs:=by
   show (act1.tmps.setIfInBounds t _).getD t undef=_
   rw [getD_set (by rw [h2.size]; exact hN2),if_pos rfl]
  have e2:(execOp (act1.put (some t) (.func (.func d) #[] cs)).eval o2).run P w1 = .ok (.defer { target := .fn (.func d) cs,args := #[] }) w1:=by
   simp [execOp,ho2,resolve,Deferred.ofValue,hev]
  show wpList P #[o1,o2] _ [o1,o2] act1 w1
  unfold wpList
  rw [if_pos w1']
  refine .inl ?_
  unfold Oper.wp
  rw [e1,Oper.upon_value,hd1]
  unfold wpList
  rw [if_pos (w2 _)]
  refine .inl ?_
  unfold Oper.wp
  rw [e2,Oper.upon_defer,hd2]
  unfold wpList
  show c.wp P _ { act1.put (some t) (.func (.func d) #[] cs) with defers := { target := .fn (.func d) cs,args := #[] }::act1.defers } w1
  have hdf:act1.defers=[]:=h2.defers
  rw [hdf]
  have hst:St (g1.at [{ target := .fn (.func d) cs,args := #[] }]) w1 fn.ntmps g1 { act1.put (some t) (.func (.func d) #[] cs) with defers:=[{ target := .fn (.func d) cs,args := #[] }] } w1 (⟨(t,.fn d cl)::ls.tl,ls.bl,ls.nx⟩:LS).st:=by
   refine ⟨p1.1,rfl,fun i a hi=>p1.2 i a ?_,h2.mem,h2.un,Grow.at _ _ _⟩
   show (bif Nat.beq i t then some (AV.fn d cl) else lk ls.tl i)=some a
   have hi:lk ((t,AV.fn d cl)::ls.tl) i=some a:=hi
   rw [lk_cons] at hi
   rw [beq_swap i t]
   exact hi
  refine Go.wp_mono (awpL_sound hT hmix c _ _ h1 (g1.at [{ target := .fn (.func d) cs,args := #[] }]) g1 w1 w1 _ ⟨trivial,hun1⟩ hst) ?_
  rintro e act' w' ⟨x,s',g',⟨ls',rfl,h4⟩,h5,h6⟩
  have hG:Grow g w g1 w1:=h2.grow.of_at
  have hcs' : ∀ (i:Nat) (v:Value) (a:AV),cs[i]? = some v→cl[i]? = some a→Rep g' w' v a:=fun i v a q1 q2=>(v2 i v a q1 q2).grow h5.grow.of_at
  have hdf':act'.defers=[{ target := .fn (.func d) cs,args := #[] }]:=h5.defers
  have hnil:Rep g' w' .nilIface (.tr (.v .nilIface)) := .tr (.v trivial)
  cases x with
  | normal=>cases e with
   | normal =>
    show Leaves P fn act'.tmps _ act'.defers .returning w'
    rw [hdf']
    exact dend_ok hT h4 hun hG h5 v1 hcs' hnil ⟨rfl,rfl⟩
   | _=>exact h6.elim
  | ret=>cases e with
   | ret =>
    show Leaves P fn act'.tmps _ act'.defers .returning w'
    rw [hdf']
    exact dend_ok hT h4 hun hG h5 v1 hcs' hnil ⟨rfl,rfl⟩
   | _=>exact h6.elim
  | exit i=>exact h4.elim
  | pan a=>cases e with
   | panic ch =>
    obtain ⟨v,rfl,hv⟩:=h6
    show Leaves P fn act'.tmps _ act'.defers (.panicking [{ v,recovered:=false }]) w'
    rw [hdf']
    exact dend_ok hT h4 hun hG h5 v1 hcs' hv rfl
   | _=>exact h6.elim
 | _=>exact h3.elim
theorem Dend.by {k d:Nat} {b:Bool} {cl:List AV} {pv:AV} {rs:List ResultVar} {res:AV} {bout:List (Option Blk)} {s:LS} (ρ sn:List Nat) {as:List AV} {apv:AV} {bin':List Blk} {bout':List (Option Blk)} (hc:CtrD P d b as apv bin' bout')
  (h1:decide ρ.Nodup=true) (h2:Nat.beq ρ.length bin'.length=true) (h3:Nat.beq bout'.length bin'.length=true) (h4:boutOk ρ.length bout'=true) (h5:cvL s.st.m ρ [] (seenS ρ sn) (cl++[pv]) (as++[apv]))
  (h6:cvO s.st.m ρ (seenS ρ sn) 0 (bin'.map some)) (h7:(ρ++sn).all (fun k=>(s.st.m k).isSome)=true) (ρ':List Nat) (h9:rhoOk k ρ'=true) (h10:Nat.beq ρ'.length bout.length=true)
  (h:afinR T ρ' rs (.ret res) bout .ret ⟨s.st.t,updM s.st.m (callUp ρ sn Quiet bout'),s.nx+1⟩) (h0:Nat.blt s.nx HMod=true:=by rfl):Dend P T k d b cl pv rs res bout s:=by
 refine ⟨ρ,sn,as,apv,bin',bout',⟨of_decide_eq_true h1,Nat.eq_of_beq_eq_true h2,by rw [Nat.sub_self]; simp [fresh],(Nat.eq_of_beq_eq_true h3).trans (Nat.eq_of_beq_eq_true h2).symm,h4,h5,?_,fun k hk => ?_,rfl⟩,hc,h0,ρ',h9,Nat.eq_of_beq_eq_true h10,h⟩
 ·have:=cvO_ok h6
  have e:ofLO (bin'.map some)=ofL bin':=by
   funext i
   unfold ofLO ofL
   rw [List.getElem?_map]
   cases bin'[i]? <;> rfl
  rw [e] at this
  exact this
 ·exact Option.isSome_iff_exists.1 (List.all_eq_true.1 h7 k hk)
end
end Go.Proofs.YthboippafkcoiaaGreatDoor.am
namespace Go.Proofs.YthboippafkcoiaaGreatDoor.am
set_option linter.all false
inductive Anc (o:Nat→Option Nat):Nat→Nat→Prop
 | refl (n:Nat):Anc o n n
 | up {a n j:Nat}:n≠0→o n=some j→Anc o a j→Anc o a n
inductive Av (M:Nat) (P:Nat→List Nat) (d:Nat):Nat→Prop
 | zero:0≠d→Av M P d 0
 | step {p i:Nat}:Av M P d p→p ∈ P i→i≠d→i<M→Av M P d i
structure UpOk (o:Nat→Option Nat):Prop where
 zero:o 0=some 0
 lt : ∀ i j,0<i→o i=some j→j<i∧(o j).isSome=true
theorem Anc.le {o:Nat→Option Nat} (h:UpOk o) {a n:Nat} (ha:Anc o a n):a≤n:=by
 induction ha with
 | refl=>exact Nat.le_refl _
 | up h0 h1 _ ih=>have:=(h.lt _ _ (by omega) h1).1; omega
theorem Anc.trans {o:Nat→Option Nat} {a b c:Nat} (h1:Anc o a b) (h2:Anc o b c):Anc o a c:=by
 induction h2 with
 | refl=>exact h1
 | up q0 q1 _ ih=>exact .up q0 q1 ih
theorem anc_up {o:Nat→Option Nat} {a n j:Nat} (h0:n≠0) (h1:o n=some j):Anc o a n↔a=n∨Anc o a j:=by
 constructor
 ·intro h
  cases h with
  | refl=>exact .inl rfl
  | up _ q1 h=>rw [h1] at q1; cases q1; exact .inr h
 ·rintro (rfl | h)
  ·exact .refl _
  ·exact .up h0 h1 h
theorem anc_zero {o:Nat→Option Nat} {a:Nat}:Anc o a 0↔a=0:=by
 constructor
 ·intro h
  cases h with
  | refl=>rfl
  | up q=>exact absurd rfl q
 ·rintro rfl; exact .refl _
theorem anc_none {o:Nat→Option Nat} {a n:Nat} (h1:o n=none):Anc o a n↔a=n:=by
 constructor
 ·intro h
  cases h with
  | refl=>rfl
  | up _ q1=>rw [h1] at q1; cases q1
 ·rintro rfl; exact .refl _
theorem Anc.some {o:Nat→Option Nat} (h:UpOk o) {a n:Nat} (ha:Anc o a n) (hn:(o n).isSome=true):(o a).isSome=true:=by
 induction ha with
 | refl=>exact hn
 | up h0 h1 _ ih=>exact ih (h.lt _ _ (by omega) h1).2
theorem anc_step {o:Nat→Option Nat} (h:UpOk o) {a b j x:Nat} (hab:b<a) (hj:o a=some j):(Anc o x a∧Anc o x b)↔(Anc o x j∧Anc o x b):=by
 rw [anc_up (by omega) hj]
 constructor
 ·rintro ⟨rfl | q,hb⟩
  ·have:=Anc.le h hb; omega
  ·exact ⟨q,hb⟩
 ·exact fun q=>⟨.inr q.1,q.2⟩
def updO (o:Nat→Option Nat) (n b:Nat):Nat→Option Nat:=fun i=>if i=n then some b else o i
theorem updO_same {o:Nat→Option Nat} {n b:Nat}:updO o n b n=some b:=by simp [updO]
theorem updO_ne {o:Nat→Option Nat} {n b i:Nat} (h:i≠n):updO o n b i=o i:=by simp [updO,h]
theorem UpOk.upd {o:Nat→Option Nat} (h:UpOk o) {n b:Nat} (h0:0<n) (hb:b<n) (hs:(o b).isSome=true):UpOk (updO o n b):=by
 refine ⟨by rw [updO_ne (by omega)]; exact h.zero,fun i j hi hj => ?_⟩
 have some' : ∀ k,(o k).isSome=true→(updO o n b k).isSome=true:=fun k hk=>by
  by_cases e:k=n
  ·rw [e,updO_same]; rfl
  ·rw [updO_ne e]; exact hk
 by_cases e:i=n
 ·rw [e,updO_same] at hj
  cases hj
  exact ⟨by omega,some' _ hs⟩
 ·rw [updO_ne e] at hj
  obtain ⟨q1,q2⟩:=h.lt i j hi hj
  exact ⟨q1,some' _ q2⟩
theorem anc_upd {o:Nat→Option Nat} (h:UpOk o) {n b:Nat} (h0:0<n) (hb:b<n) (hs:(o b).isSome=true) (a:Nat) : ∀ x,Anc (updO o n b) a x↔(n≤a∧Anc o a x)∨(a<n∧((Anc o n x∧Anc o a b)∨(¬ Anc o n x∧Anc o a x))):=by
 intro x
 induction x using Nat.strongRecOn with
 | ind x ih =>
  by_cases hx:x<n
  ·
   have hnx : ¬ Anc o n x:=fun q=>by have:=Anc.le h q; omega
   have key:Anc (updO o n b) a x↔Anc o a x:=by
    by_cases x0:x=0
    ·rw [x0,anc_zero,anc_zero]
    ·cases hj:o x with
     | none=>rw [anc_none hj,anc_none (by rw [updO_ne (by omega)]; exact hj)]
     | some j =>
      have hjx:=(h.lt x j (by omega) hj).1
      rw [anc_up x0 hj,anc_up x0 (by rw [updO_ne (by omega)]; exact hj),ih j hjx]
      have hnj : ¬ Anc o n j:=fun q=>by have:=Anc.le h q; omega
      constructor
      ·rintro (q | ⟨_,q⟩ | ⟨_,⟨q,_⟩ | ⟨_,q⟩⟩)
       ·exact .inl q
       ·exact .inr q
       ·exact absurd q hnj
       ·exact .inr q
      ·rintro (q | q)
       ·exact .inl q
       ·by_cases e:n≤a
        ·exact .inr (.inl ⟨e,q⟩)
        ·exact .inr (.inr ⟨by omega,.inr ⟨hnj,q⟩⟩)
   rw [key]
   constructor
   ·intro q
    by_cases e:n≤a
    ·exact .inl ⟨e,q⟩
    ·exact .inr ⟨by omega,.inr ⟨hnx,q⟩⟩
   ·rintro (⟨_,q⟩ | ⟨_,⟨q,_⟩ | ⟨_,q⟩⟩)
    ·exact q
    ·exact absurd q hnx
    ·exact q
  ·by_cases hxn:x=n
   ·subst hxn
    have hup:=h.upd h0 hb hs
    rw [anc_up (by omega) updO_same,ih b hb]
    have hnb : ¬ Anc o x b:=fun q=>by have:=Anc.le h q; omega
    constructor
    ·rintro (q | ⟨q1,q2⟩ | ⟨q1,⟨q,_⟩ | ⟨_,q⟩⟩)
     ·exact .inl ⟨by omega,q ▸ .refl _⟩
     ·have:=Anc.le h q2; omega
     ·exact absurd q hnb
     ·exact .inr ⟨q1,.inl ⟨.refl _,q⟩⟩
    ·rintro (⟨q1,q2⟩ | ⟨q1,⟨_,q⟩ | ⟨q,_⟩⟩)
     ·have:=Anc.le h q2; exact .inl (by omega)
     ·exact .inr (.inr ⟨q1,.inr ⟨hnb,q⟩⟩)
     ·exact absurd (.refl _) q
   ·have hu:updO o n b x=o x:=updO_ne hxn
    cases hj:o x with
    | none =>
     rw [anc_none (by rw [hu]; exact hj),anc_none hj,anc_none hj]
     constructor
     ·intro q; exact .inl ⟨by omega,q⟩
     ·rintro (⟨_,q⟩ | ⟨_,⟨q,_⟩ | ⟨_,q⟩⟩)
      ·exact q
      ·omega
      ·exact q
    | some j =>
     have hjx:=(h.lt x j (by omega) hj).1
     rw [anc_up (by omega) (by rw [hu]; exact hj),anc_up (by omega) hj,anc_up (by omega) hj,ih j hjx]
     constructor
     ·rintro (q | ⟨q1,q2⟩ | ⟨q1,⟨q,q2⟩ | ⟨q,q2⟩⟩)
      ·exact .inl ⟨by omega,.inl q⟩
      ·exact .inl ⟨q1,.inr q2⟩
      ·exact .inr ⟨q1,.inl ⟨.inr q,q2⟩⟩
      ·exact .inr ⟨q1,.inr ⟨fun w=>w.elim (by omega) q,.inr q2⟩⟩
     ·rintro (⟨q1,q | q⟩ | ⟨q1,⟨q | q,q2⟩ | ⟨q,q2 | q2⟩⟩)
      ·exact .inl q
      ·exact .inr (.inl ⟨q1,q⟩)
      ·omega
      ·exact .inr (.inr ⟨q1,.inl ⟨q,q2⟩⟩)
      ·exact .inl q2
      ·exact .inr (.inr ⟨q1,.inr ⟨fun w=>q (.inr w),q2⟩⟩)
structure DomI (M:Nat) (P:Nat→List Nat) (t:Nat→Nat) (k:Nat) (o:Nat→Option Nat):Prop where
 up:UpOk o
 dn : ∀ i j,j<i→(o i).isSome=true→(o j).isSome=true
 did : ∀ i,i<k→(o i).isSome=true
 most : ∀ i,(o i).isSome=true→i<M
 tr : ∀ i j,0<i→o i=some j→Anc (fun x=>some (t x)) j (t i)
 dom : ∀ i,(o i).isSome=true → ∀ d,¬ Av M P d i→Anc o d i
 shr : ∀ i j,0<i→o i=some j → ∀ z,(∀ p ∈ P i,(o p).isSome=true→Anc o z p)→Anc o z j
 ahd : ∀ i j,k≤i→0<i→o i=some j → ∀ a,k≤a→Anc o a j→Anc o a (t i)
 now : ∀ i j,i<k→0<i→o i=some j→Anc o j (t i)
def MeetI (P:Nat→List Nat) (o:Nat→Option Nat) (n b:Nat):Prop := ∀ x,Anc o x b ↔ ∀ p ∈ P n,(o p).isSome=true→Anc o x p
theorem tanc_av {M:Nat} {P:Nat→List Nat} {t:Nat→Nat} (ht : ∀ i,0<i→i<M→t i ∈ P i∧t i<i) {n x d:Nat} (h:Anc (fun x=>some (t x)) n x) (hx:x<M) (hd:d<n) (ha:Av M P d n):Av M P d x:=by
 induction h with
 | refl=>exact ha
 | @up x j h0 h1 h2 ih =>
  cases h1
  obtain ⟨q1,q2⟩:=ht x (by omega) hx
  have hle : ∀ {a y:Nat},Anc (fun x=>some (t x)) a y→y<M→a≤y:=by
   intro a y h
   induction h with
   | refl=>intro _; exact Nat.le_refl _
   | @up y j g0 g1 g2 ih =>
    intro hy
    cases g1
    have:=ht y (by omega) hy
    have:=ih (by omega)
    omega
  have:=hle h2 (by omega)
  exact .step (ih (by omega)) q1 (by omega) hx
theorem DomI.tanc {M:Nat} {P:Nat→List Nat} {t:Nat→Nat} {k:Nat} {o:Nat→Option Nat} (h:DomI M P t k o) {a x:Nat} (ha:Anc o a x):Anc (fun x=>some (t x)) a x:=by
 induction ha with
 | refl=>exact .refl _
 | @up x j h0 h1 h2 ih=>exact .up h0 rfl (ih.trans (h.tr x j (by omega) h1))
theorem DomI.step {M:Nat} {P:Nat→List Nat} {t:Nat→Nat} (ht : ∀ i,0<i→i<M→t i ∈ P i∧t i<i) {n b:Nat} {o:Nat→Option Nat} (h:DomI M P t n o) (h0:0<n) (hn:n<M) (hb:MeetI P o n b) :
  DomI M P t (n+1) (updO o n b)∧b<n∧(∀ c,o n=some c→b≤c):=by
 obtain ⟨tp,tl⟩:=ht n h0 hn
 have hbt:Anc o b (t n):=(hb b).1 (.refl _) _ tp (h.did _ tl)
 have hbn:b<n:=by have:=Anc.le h.up hbt; omega
 have hbs:=h.did b hbn
 have hup:=h.up.upd h0 hbn hbs
 have hau:=fun a x=>anc_upd h.up h0 hbn hbs a x
 have mono : ∀ z p,(o p).isSome=true→Anc (updO o n b) z p→Anc o z p:=fun z p hp hz=>by
  rcases (hau z p).1 hz with ⟨_,q⟩ | ⟨q1,⟨q,q2⟩ | ⟨_,q⟩⟩
  ·exact q
  ·have hns:=Anc.some h.up q hp
   obtain ⟨c,hc⟩:=Option.isSome_iff_exists.1 hns
   have:Anc o z c:=h.shr n c h0 hc z fun p hp hs=>((hb z).1 q2) p hp hs
   exact (Anc.up (by omega) hc this).trans q
  ·exact q
 have low : ∀ z x,x<n→(Anc (updO o n b) z x↔Anc o z x):=fun z x hx=>by
  rw [hau]
  have hnx : ¬ Anc o n x:=fun q=>by have:=Anc.le h.up q; omega
  constructor
  ·rintro (⟨_,q⟩ | ⟨_,⟨q,_⟩ | ⟨_,q⟩⟩)
   ·exact q
   ·exact absurd q hnx
   ·exact q
  ·intro q
   by_cases e:n≤z
   ·exact .inl ⟨e,q⟩
   ·exact .inr ⟨by omega,.inr ⟨hnx,q⟩⟩
 have some' : ∀ i,(updO o n b i).isSome=true→i≠n→(o i).isSome=true:=fun i hi e=>by rwa [updO_ne e] at hi
 have hdom : ∀ d,¬ Av M P d n→d=n∨Anc o d b:=fun d hd=>by
  by_cases e:d=n
  ·exact .inl e
  ·refine .inr ((hb d).2 fun p hp hs=>h.dom p hs d fun q=>hd (.step q hp (fun w=>e w.symm) hn))
 refine ⟨⟨hup,?_,?_,?_,?_,?_,?_,?_,?_⟩,hbn,fun c hc => ?_⟩
 ·intro i j hij hi
  by_cases e:j=n
  ·rw [e,updO_same]; rfl
  ·rw [updO_ne e]
   by_cases e2:i=n
   ·exact h.did j (by omega)
   ·exact h.dn i j hij (some' i hi e2)
 ·intro i hi
  by_cases e:i=n
  ·rw [e,updO_same]; rfl
  ·rw [updO_ne e]; exact h.did i (by omega)
 ·intro i hi
  by_cases e:i=n
  ·rw [e]; exact hn
  ·exact h.most i (some' i hi e)
 ·intro i j hi hj
  by_cases e:i=n
  ·rw [e,updO_same] at hj
   cases hj
   rw [e]
   exact h.tanc hbt
  ·rw [updO_ne e] at hj
   exact h.tr i j hi hj
 ·intro i hi d hd
  by_cases e:i=n
  ·rw [e]
   rw [e] at hd
   rcases hdom d hd with rfl | q
   ·exact .refl _
   ·exact .up (by omega) updO_same ((low d b hbn).2 q)
  ·have hi:=some' i hi e
   have hA:=h.dom i hi d hd
   rw [hau]
   by_cases e1:n≤d
   ·exact .inl ⟨e1,hA⟩
   ·refine .inr ⟨by omega,?_⟩
    by_cases e2:Anc o n i
    ·refine .inl ⟨e2,?_⟩
     have : ¬ Av M P d n:=fun q=>hd (tanc_av ht (h.tanc e2) (h.most i hi) (by omega) q)
     rcases hdom d this with q | q
     ·omega
     ·exact q
    ·exact .inr ⟨e2,hA⟩
 ·intro i j hi hj z hz
  have hz' : ∀ p ∈ P i,(o p).isSome=true→Anc o z p:=fun p hp hs=>by
   refine mono z p hs (hz p hp ?_)
   by_cases e:p=n
   ·rw [e,updO_same]; rfl
   ·rw [updO_ne e]; exact hs
  by_cases e:i=n
  ·subst e
   rw [updO_same] at hj
   cases hj
   rw [low z b hbn]
   exact (hb z).2 hz'
  ·rw [updO_ne e] at hj
   have hA:=h.shr i j hi hj z hz'
   rw [hau]
   by_cases e1:n≤z
   ·exact .inl ⟨e1,hA⟩
   ·refine .inr ⟨by omega,?_⟩
    by_cases e2:Anc o n j
    ·refine .inl ⟨e2,?_⟩
     have hnj:=Anc.le h.up e2
     have hji:=(h.up.lt i j hi hj).1
     have him:i<M:=h.most i (by rw [hj]; rfl)
     obtain ⟨tp2,tl2⟩:=ht i hi him
     have hat:=h.ahd i j (by omega) hi hj n (Nat.le_refl _) e2
     have hts:(o (t i)).isSome=true:=h.dn i (t i) tl2 (by rw [hj]; rfl)
     have hzt:=hz (t i) tp2 (by
      by_cases e3:t i=n
      ·rw [e3,updO_same]; rfl
      ·rw [updO_ne e3]; exact hts)
     rcases (hau z (t i)).1 hzt with ⟨q,_⟩ | ⟨_,⟨_,q⟩ | ⟨q,_⟩⟩
     ·omega
     ·exact q
     ·exact absurd hat q
    ·exact .inr ⟨e2,hA⟩
 ·intro i j hi h1 hj a ha hA
  have e:i≠n:=by omega
  rw [updO_ne e] at hj
  rcases (hau a j).1 hA with ⟨_,q⟩ | ⟨q,_⟩
  ·exact (hau a (t i)).2 (.inl ⟨by omega,h.ahd i j (by omega) h1 hj a (by omega) q⟩)
  ·omega
 ·intro i j hi h1 hj
  by_cases e:i=n
  ·subst e
   rw [updO_same] at hj
   cases hj
   exact (low _ _ tl).2 hbt
  ·rw [updO_ne e] at hj
   have him:i<M:=h.most i (by rw [hj]; rfl)
   obtain ⟨_,tl2⟩:=ht i h1 him
   exact (low _ _ (by omega)).2 (h.now i j (by omega) h1 hj)
 ·have:Anc o b c:=h.shr n c h0 hc b fun p hp hs=>((hb b).1 (.refl _)) p hp hs
  exact Anc.le h.up this
theorem DomI.again {M:Nat} {P:Nat→List Nat} {t:Nat→Nat} {o:Nat→Option Nat} (h:DomI M P t M o):DomI M P t 1 o where
 up:=h.up
 dn:=h.dn
 did:=fun i hi=>by rw [show i=0 by omega,h.up.zero]; rfl
 most:=h.most
 tr:=h.tr
 dom:=h.dom
 shr:=h.shr
 ahd:=fun i j _ h1 hj a _ hA=>hA.trans (h.now i j (h.most i (by rw [hj]; rfl)) h1 hj)
 now:=fun i j hi h1 _=>by omega
theorem DomI.start {M:Nat} (hM:0<M) (P:Nat→List Nat) (t:Nat→Nat):DomI M P t 1 (fun i=>if i=0 then some 0 else none) where
 up:=⟨rfl,fun i j hi hj=>by simp [show i≠0 by omega] at hj⟩
 dn:=fun i j hj hi=>by
  by_cases e:i=0
  ·omega
  ·simp [e] at hi
 did:=fun i hi=>by rw [show i=0 by omega]; rfl
 most:=fun i hi=>by
  by_cases e:i=0
  ·omega
  ·simp [e] at hi
 tr:=fun i j hi hj=>by simp [show i≠0 by omega] at hj
 dom:=fun i hi d hd=>by
  by_cases e:i=0
  ·subst e
   rw [anc_zero]
   by_cases e2:d=0
   ·exact e2
   ·exact absurd (.zero (fun w=>e2 w.symm)) hd
  ·simp [e] at hi
 shr:=fun i j hi hj=>by simp [show i≠0 by omega] at hj
 ahd:=fun i j _ hi hj=>by simp [show i≠0 by omega] at hj
 now:=fun i j _ hi hj=>by simp [show i≠0 by omega] at hj
theorem anc_dom {M:Nat} {P:Nat→List Nat} {t:Nat→Nat} {o:Nat→Option Nat} (h:DomI M P t M o) (hfix : ∀ n b,0<n→n<M→o n=some b→MeetI P o n b) (hP : ∀ i,i<M → ∀ p ∈ P i,p<M) (d:Nat) {x:Nat} (hx:x<M):Anc o d x ↔ ¬ Av M P d x:=by
 constructor
 ·intro hA hav
  have : ∀ y,Av M P d y → ¬ Anc o d y:=by
   intro y hy
   induction hy with
   | zero hd=>rw [anc_zero]; exact fun e=>hd e.symm
   | @step p i hp hpi hid hi ih =>
    intro q
    by_cases e:i=0
    ·rw [e,anc_zero] at q
     exact hid (by omega)
    ·obtain ⟨j,hj⟩:=Option.isSome_iff_exists.1 (h.did i hi)
     rw [anc_up e hj] at q
     rcases q with q | q
     ·exact hid q.symm
     ·exact ih ((hfix i j (by omega) hi hj d).1 q p hpi (h.did p (hP i hi p hpi)))
  exact this x hav hA
 ·intro hd
  exact h.dom x (h.did x hx) d hd
end Go.Proofs.YthboippafkcoiaaGreatDoor.am
namespace Go.Proofs.YthboippafkcoiaaGreatDoor.am
set_option linter.all false
inductive Rch (fol:Nat→List Nat) (cut:Int):Nat→Prop
 | zero:Rch fol cut 0
 | step {a b:Nat}:Rch fol cut a→(a:Int)≠cut→b ∈ fol a→Rch fol cut b
theorem Rch.all {fol:Nat→List Nat} {cut:Int} {a:Nat} (h:Rch fol cut a):Rch fol (-1) a:=by
 induction h with
 | zero=>exact .zero
 | step _ _ h2 ih=>exact .step ih (by omega) h2
theorem Rch.lt {fol:Nat→List Nat} {N:Nat} (hN:0<N) (hf : ∀ a,∀ b ∈ fol a,b<N) {cut:Int} {a:Nat} (h:Rch fol cut a):a<N:=by
 cases h with
 | zero=>exact hN
 | step _ _ h=>exact hf _ _ h
def Dm (fol:Nat→List Nat) (a b:Nat):Prop:=Rch fol (-1) a∧Rch fol (-1) b∧(b=a ∨ ¬ Rch fol (a:Int) b)
theorem Dm.trans {fol:Nat→List Nat} {a b c:Nat} (h1:Dm fol a b) (h2:Dm fol b c):Dm fol a c:=by
 refine ⟨h1.1,h2.2.1,?_⟩
 by_cases e:c=a
 ·exact .inl e
 refine .inr fun h => ?_
 rcases h1.2.2 with q1 | q1
 ·rcases h2.2.2 with q2 | q2
  ·exact e (q2.trans q1)
  ·rw [q1] at q2; exact q2 h
 rcases h2.2.2 with q2 | q2
 ·rw [q2] at h; exact q1 h
 have : ∀ y,Rch fol (a:Int) y→Rch fol (b:Int) y:=by
  intro y hy
  induction hy with
  | zero=>exact .zero
  | @step p i hp hpa hpi ih =>
   refine .step ih (fun w => ?_) hpi
   have:p=b:=by omega
   exact q1 (this ▸ hp)
 exact q2 (this c h)
theorem Dm.total {fol:Nat→List Nat} {a b c:Nat} (h1:Dm fol a c) (h2:Dm fol b c):Dm fol a b∨Dm fol b a:=by
 by_cases e:a=b
 ·exact .inl ⟨h1.1,h2.1,.inl e.symm⟩
 by_cases q1:Rch fol (a:Int) b
 ·by_cases q2:Rch fol (b:Int) a
  ·
   have : ∀ y,Rch fol (-1) y→(Rch fol (a:Int) y∧Rch fol (b:Int) y)∨(Rch fol (a:Int) y∧y≠a)∨(Rch fol (b:Int) y∧y≠b):=by
    intro y hy
    induction hy with
    | zero=>exact .inl ⟨.zero,.zero⟩
    | @step p i hp _ hpi ih =>
     by_cases ea:p=a
     ·subst ea
      have hb:Rch fol (b:Int) i := .step q2 (by omega) hpi
      by_cases ei:i=b
      ·subst ei; exact .inl ⟨q1,hb⟩
      ·exact .inr (.inr ⟨hb,ei⟩)
     ·by_cases eb:p=b
      ·subst eb
       have ha:Rch fol (a:Int) i := .step q1 (by omega) hpi
       by_cases ei:i=a
       ·subst ei; exact .inl ⟨ha,q2⟩
       ·exact .inr (.inl ⟨ha,ei⟩)
      ·rcases ih with ⟨g1,g2⟩ | ⟨g,g1⟩ | ⟨g,g1⟩
       ·exact .inl ⟨.step g1 (by omega) hpi,.step g2 (by omega) hpi⟩
       ·have ha:Rch fol (a:Int) i := .step g (by omega) hpi
        by_cases ei:i=a
        ·subst ei; exact .inl ⟨ha,q2⟩
        ·exact .inr (.inl ⟨ha,ei⟩)
       ·have hb:Rch fol (b:Int) i := .step g (by omega) hpi
        by_cases ei:i=b
        ·subst ei; exact .inl ⟨q1,hb⟩
        ·exact .inr (.inr ⟨hb,ei⟩)
   rcases this c h1.2.1 with ⟨g1,g2⟩ | ⟨g,g1⟩ | ⟨g,g1⟩
   ·rcases h1.2.2 with w1 | w1
    ·rcases h2.2.2 with w2 | w2
     ·exact absurd (w1.symm.trans w2) e
     ·exact absurd g2 w2
    ·exact absurd g1 w1
   ·rcases h1.2.2 with w | w
    ·exact absurd w g1
    ·exact absurd g w
   ·rcases h2.2.2 with w | w
    ·exact absurd w g1
    ·exact absurd g w
  ·exact .inr ⟨h2.1,h1.1,.inr q2⟩
 ·exact .inl ⟨h1.1,h2.1,.inr q1⟩
theorem Dm.anti {fol:Nat→List Nat} {a b:Nat} (h1:Dm fol a b) (h2:Dm fol b a):a=b:=by
 refine Classical.byContradiction fun e => ?_
 have q1 : ¬ Rch fol (a:Int) b:=h1.2.2.elim (fun w=>absurd w.symm e) id
 have q2 : ¬ Rch fol (b:Int) a:=h2.2.2.elim (fun w=>absurd w e) id
 have : ∀ y,Rch fol (-1) y→Rch fol (a:Int) y∧Rch fol (b:Int) y:=by
  intro y hy
  induction hy with
  | zero=>exact ⟨.zero,.zero⟩
  | @step p i hp _ hpi ih =>
   by_cases ea:p=a
   ·exact absurd (ea ▸ ih.2) q2
   ·by_cases eb:p=b
    ·exact absurd (eb ▸ ih.1) q1
    ·exact ⟨.step ih.1 (by omega) hpi,.step ih.2 (by omega) hpi⟩
 exact q1 (this b h1.2.1).1
abbrev DfsS:=List Bool × List Nat × List (Nat × Nat)
def dfs1 (fol:Nat→List Nat):DfsS→DfsS
 | (seen,post,[])=>(seen,post,[])
 | (seen,post,(v,k)::st)=>match (fol v)[k]? with
  | none=>(seen,post++[v],st)
  | some to=>match seen.getD to true with
   | true=>(seen,post,(v,k+1)::st)
   | false=>(seen.set to true,post,(to,0)::(v,k+1)::st)
inductive DfsE (fol:Nat→List Nat):DfsS→List Nat→Prop
 | fin (seen:List Bool) (post:List Nat):DfsE fol (seen,post,[]) post
 | step {s:DfsS} {r:List Nat}:s.2.2≠[]→DfsE fol (dfs1 fol s) r→DfsE fol s r
theorem DfsE.next {fol:Nat→List Nat} {s:DfsS} {r:List Nat} (h:DfsE fol s r) (hs:s.2.2≠[]):DfsE fol (dfs1 fol s) r:=by
 cases h with
 | fin=>exact absurd rfl hs
 | step _ h=>exact h
theorem DfsE.done {fol:Nat→List Nat} {seen:List Bool} {post r:List Nat} (h:DfsE fol (seen,post,[]) r):r=post:=by
 cases h with
 | fin=>rfl
 | step q _=>exact absurd rfl q
def chainS (fol:Nat→List Nat):List (Nat × Nat)→Prop
 | []=>True
 | [x]=>x.1=0
 | x::y::r=>x.1 ∈ fol y.1∧chainS fol (y::r)
structure DfsI (fol:Nat→List Nat) (N:Nat) (s:DfsS):Prop where
 len:s.1.length=N
 seen : ∀ x,s.1[x]? = some true↔x ∈ s.2.1∨x ∈ s.2.2.map (·.1)
 nodup:(s.2.1++s.2.2.map (·.1)).Nodup
 chain:chainS fol s.2.2
 par : ∀ A x B,s.2.1=A++x::B→x≠0 → ∃ p,x ∈ fol p∧(p ∈ B∨p ∈ s.2.2.map (·.1))
 rch : ∀ x,(x ∈ s.2.1∨x ∈ s.2.2.map (·.1))→Rch fol (-1) x
 clos : ∀ x ∈ s.2.1,∀ y ∈ fol x,s.1[y]? = some true
 open_ : ∀ v ∈ s.2.2,∀ j,j<v.2 → ∀ y,(fol v.1)[j]? = some y→s.1[y]? = some true
 top : ∀ v ∈ s.2.2,v.2≤(fol v.1).length
 zero:s.1[0]? = some true
def unseen (l:List Bool):Nat:=(l.filter fun b => !b).length
def dfsM (fol:Nat→List Nat) (s:DfsS):Nat:=4*unseen s.1+(s.2.2.map fun v=>(fol v.1).length - v.2+1).sum
theorem unseen_set {l:List Bool} {i:Nat} (h:l[i]? = some false):unseen (l.set i true)+1=unseen l:=by
 induction l generalizing i with
 | nil=>simp at h
 | cons b l ih =>
  cases i with
  | zero =>
   have hb:b=false:=by simpa using h
   subst hb
   rfl
  | succ i =>
   have:=ih (i:=i) (by simpa using h)
   show unseen (b::l.set i true)+1=unseen (b::l)
   cases b
   ·show (unseen (l.set i true)+1)+1=unseen l+1
    omega
   ·exact this
theorem dfs1_less {fol:Nat→List Nat} (h2 : ∀ a,(fol a).length≤2) {N:Nat} {s:DfsS} (hI:DfsI fol N s) (hN : ∀ a,∀ b ∈ fol a,b<N) (hs:s.2.2≠[]):dfsM fol (dfs1 fol s)<dfsM fol s:=by
 obtain ⟨seen,post,st⟩:=s
 cases st with
 | nil=>exact absurd rfl hs
 | cons vk st =>
  obtain ⟨v,k⟩:=vk
  unfold dfs1
  simp only
  have hk:=hI.top (v,k) (.head _)
  simp only at hk
  cases hf:(fol v)[k]? with
  | none =>
   simp only [dfsM,List.map_cons,List.sum_cons]
   omega
  | some to =>
   have hk2:=(List.getElem?_eq_some_iff.1 hf).1
   simp only
   cases hb:seen.getD to true with
   | true =>
    simp only [dfsM,List.map_cons,List.sum_cons]
    omega
   | false =>
    have hto:to<seen.length:=by
     have:=hI.len
     simp only at this
     rw [this]
     exact hN v to (List.mem_of_getElem? hf)
    have hse:seen[to]? = some false:=by
     rw [List.getD_eq_getElem?_getD,List.getElem?_eq_getElem hto] at hb
     rw [List.getElem?_eq_getElem hto]
     simpa using hb
    have:=unseen_set hse
    have:=h2 to
    simp only [dfsM,List.map_cons,List.sum_cons]
    omega
theorem mem_set_true {l:List Bool} {i x:Nat} (hi:i<l.length):(l.set i true)[x]? = some true↔x=i∨l[x]? = some true:=by
 by_cases e:x=i
 ·subst e
  simp [hi]
 ·rw [List.getElem?_set_ne (fun w=>e w.symm)]
  simp [e]
theorem dfs1_inv {fol:Nat→List Nat} {N:Nat} (hN : ∀ a,∀ b ∈ fol a,b<N) {s:DfsS} (hI:DfsI fol N s):DfsI fol N (dfs1 fol s):=by
 obtain ⟨seen,post,st⟩:=s
 cases st with
 | nil=>exact hI
 | cons vk st =>
  obtain ⟨v,k⟩:=vk
  obtain ⟨hlen,hseen,hnd,hch,hpar,hrch,hclos,hop,htop,hz⟩:=hI
  simp only [List.map_cons] at hlen hseen hnd hch hpar hrch hclos hop htop hz
  unfold dfs1
  simp only
  cases hf:(fol v)[k]? with
  | none =>
   have hk:(fol v).length≤k:=List.getElem?_eq_none_iff.1 hf
   refine ⟨hlen,fun x => ?_,?_,?_,fun A x B e hx => ?_,fun x hx => ?_,fun x hx y hy => ?_,fun w hw=>hop w (.tail _ hw),fun w hw=>htop w (.tail _ hw),hz⟩
   ·rw [hseen]
    simp only [List.mem_append,List.mem_cons,List.not_mem_nil,or_false]
    constructor
    ·rintro (h | h | h)
     ·exact .inl (.inl h)
     ·exact .inl (.inr h)
     ·exact .inr h
    ·rintro ((h | h) | h)
     ·exact .inl h
     ·exact .inr (.inl h)
     ·exact .inr (.inr h)
   ·simp only [List.append_assoc,List.singleton_append]
    exact hnd
   ·cases st with
    | nil=>exact True.intro
    | cons y r=>exact hch.2
   ·simp only at e
    rcases List.append_eq_append_iff.1 e with ⟨D,e1,e2⟩ | ⟨D,e1,e2⟩
    ·cases D with
     | nil =>
      simp only [List.append_nil] at e1
      rw [List.nil_append] at e2
      cases e2
      cases st with
      | nil=>exact absurd hch hx
      | cons y r=>exact ⟨y.1,hch.1,.inr (by simp)⟩
     | cons d D =>
      simp at e2
    ·cases D with
     | nil =>
      simp only [List.append_nil] at e1
      rw [List.nil_append] at e2
      cases e2
      cases st with
      | nil=>exact absurd hch hx
      | cons y r=>exact ⟨y.1,hch.1,.inr (by simp)⟩
     | cons d D =>
      rw [List.cons_append] at e2
      cases e2
      obtain ⟨p,h1,h2⟩:=hpar A x D e1 hx
      refine ⟨p,h1,?_⟩
      rcases h2 with h2 | h2
      ·exact .inl (by simp [h2])
      ·rcases List.mem_cons.1 h2 with h2 | h2
       ·exact .inl (by simp [h2])
       ·exact .inr h2
   ·simp only [List.mem_append,List.mem_cons,List.not_mem_nil,or_false] at hx
    refine hrch x ?_
    rcases hx with (hx | hx) | hx
    ·exact .inl hx
    ·exact .inr (by simp [hx])
    ·exact .inr (.tail _ hx)
   ·simp only [List.mem_append,List.mem_cons,List.not_mem_nil,or_false] at hx
    rcases hx with hx | rfl
    ·exact hclos x hx y hy
    ·obtain ⟨j,hj,e⟩:=List.mem_iff_getElem.1 hy
     exact hop (x,k) (.head _) j (by simp only; omega) y (by rw [List.getElem?_eq_getElem hj,e])
  | some to =>
   have hk2:=(List.getElem?_eq_some_iff.1 hf).1
   have hto:to<seen.length:=by rw [hlen]; exact hN v to (List.mem_of_getElem? hf)
   simp only
   cases hb:seen.getD to true with
   | true =>
    have hse:seen[to]? = some true:=by
     rw [List.getD_eq_getElem?_getD,List.getElem?_eq_getElem hto] at hb
     rw [List.getElem?_eq_getElem hto]
     simpa using hb
    refine ⟨hlen,hseen,hnd,?_,hpar,hrch,hclos,fun w hw j hj y hy => ?_,fun w hw => ?_,hz⟩
    ·cases st with
     | nil=>exact hch
     | cons y r=>exact hch
    ·rcases List.mem_cons.1 hw with rfl | hw
     ·simp only at hj hy
      by_cases e:j=k
      ·subst e; rw [hf] at hy; cases hy; exact hse
      ·exact hop (v,k) (.head _) j (by simp only; omega) y hy
     ·exact hop w (.tail _ hw) j hj y hy
    ·rcases List.mem_cons.1 hw with rfl | hw
     ·exact hk2
     ·exact htop w (.tail _ hw)
   | false =>
    have hse:seen[to]? = some false:=by
     rw [List.getD_eq_getElem?_getD,List.getElem?_eq_getElem hto] at hb
     rw [List.getElem?_eq_getElem hto]
     simpa using hb
    have hnew : ¬ (to ∈ post∨to ∈ v::st.map (·.1)):=fun w=>by
     have:=(hseen to).2 w
     rw [hse] at this; cases this
    have hms:=fun x=>mem_set_true (x:=x) hto
    refine ⟨by simp only [List.length_set]; exact hlen,fun x => ?_,?_,⟨List.mem_of_getElem? hf,?_⟩,fun A x B e hx => ?_,fun x hx => ?_,fun x hx y hy=>(hms y).2 (.inr (hclos x hx y hy)),fun w hw j hj y hy => ?_,fun w hw => ?_,(hms 0).2 (.inr hz)⟩
    ·simp only [List.map_cons]
     rw [hms,hseen]
     simp only [List.mem_cons]
     constructor
     ·rintro (h | h | h | h)
      ·exact .inr (.inl h)
      ·exact .inl h
      ·exact .inr (.inr (.inl h))
      ·exact .inr (.inr (.inr h))
     ·rintro (h | h | h | h)
      ·exact .inr (.inl h)
      ·exact .inl h
      ·exact .inr (.inr (.inl h))
      ·exact .inr (.inr (.inr h))
    ·simp only [List.map_cons]
     have hp:(post++to::v::st.map (·.1)).Perm (to::(post++v::st.map (·.1))):=List.perm_middle
     exact hp.nodup_iff.2 (List.nodup_cons.2 ⟨fun w=>hnew (List.mem_append.1 w),hnd⟩)
    ·cases st with
     | nil=>exact hch
     | cons y r=>exact hch
    ·obtain ⟨p,h1,h2⟩:=hpar A x B e hx
     refine ⟨p,h1,h2.imp id fun w => ?_⟩
     simp only [List.map_cons]
     exact .tail _ w
    ·simp only [List.map_cons,List.mem_cons] at hx
     rcases hx with hx | rfl | hx
     ·exact hrch x (.inl hx)
     ·exact .step (hrch v (.inr (.head _))) (by omega) (List.mem_of_getElem? hf)
     ·exact hrch x (.inr (by simpa using hx))
    ·rcases List.mem_cons.1 hw with rfl | hw
     ·simp only at hj; omega
     ·rcases List.mem_cons.1 hw with rfl | hw
      ·simp only at hj hy
       by_cases e:j=k
       ·subst e; rw [hf] at hy; cases hy; exact (hms to).2 (.inl rfl)
       ·exact (hms y).2 (.inr (hop (v,k) (.head _) j (by simp only; omega) y hy))
      ·exact (hms y).2 (.inr (hop w (.tail _ hw) j hj y hy))
    ·rcases List.mem_cons.1 hw with rfl | hw
     ·exact Nat.zero_le _
     ·rcases List.mem_cons.1 hw with rfl | hw
      ·exact hk2
      ·exact htop w (.tail _ hw)
theorem dfs_ends {fol:Nat→List Nat} (h2 : ∀ a,(fol a).length≤2) {N:Nat} (hN : ∀ a,∀ b ∈ fol a,b<N) : ∀ (n:Nat) (s:DfsS),dfsM fol s<n→DfsI fol N s → ∃ r sn,DfsE fol s r∧DfsI fol N (sn,r,[])
 | 0,_,h,_=>absurd h (Nat.not_lt_zero _)
 | n+1,s,h,hI=>by
  by_cases hs:s.2.2=[]
  ·obtain ⟨seen,post,st⟩:=s
   simp only at hs
   subst hs
   exact ⟨post,seen,.fin _ _,hI⟩
  ·obtain ⟨r,sn,q1,q2⟩:=dfs_ends h2 hN n (dfs1 fol s) (by have:=dfs1_less h2 hI hN hs; omega) (dfs1_inv hN hI)
   exact ⟨r,sn,.step hs q1,q2⟩
structure OrdOk (fol:Nat→List Nat) (ord:List Nat):Prop where
 zero:ord[0]? = some 0
 nodup:ord.Nodup
 mem : ∀ x,x ∈ ord↔Rch fol (-1) x
 par : ∀ i x,ord[i]? = some x→i≠0 → ∃ (j p:Nat),j<i∧ord[j]? = some p∧x ∈ fol p
theorem DfsI.ord {fol:Nat→List Nat} {N:Nat} {sn:List Bool} {r:List Nat} (h:DfsI fol N (sn,r,[])):OrdOk fol r.reverse:=by
 obtain ⟨hlen,hseen,hnd,hch,hpar,hrch,hclos,hop,htop,hz⟩:=h
 simp only [List.map_nil,List.append_nil,List.not_mem_nil,or_false] at hlen hseen hnd hpar hrch hclos hz
 have h0:0 ∈ r:=(hseen 0).1 hz
 have hmem : ∀ x,x ∈ r↔Rch fol (-1) x:=fun x=>by
  refine ⟨fun hx=>hrch x (by simpa using hx),fun hx => ?_⟩
  induction hx with
  | zero=>exact h0
  | step _ _ hb ih=>exact (hseen _).1 (hclos _ ih _ hb)
 have hp : ∀ (i x:Nat),r.reverse[i]? = some x→x≠0 → ∃ (j p:Nat),j<i∧r.reverse[j]? = some p∧x ∈ fol p:=by
  intro i x hi hx
  have hlt:=(List.getElem?_eq_some_iff.1 hi).1
  rw [List.length_reverse] at hlt
  rw [List.getElem?_reverse hlt] at hi
  have hlt2:=(List.getElem?_eq_some_iff.1 hi).1
  have e:r=r.take (r.length - 1 - i)++x::r.drop (r.length - 1 - i+1):=by
   conv=>lhs; rw [← List.take_append_drop (r.length - 1 - i) r,List.drop_eq_getElem_cons hlt2,(List.getElem?_eq_some_iff.1 hi).2]
  obtain ⟨p,h1,h2⟩:=hpar _ _ _ e hx
  obtain ⟨j,hj,e2⟩:=List.mem_iff_getElem.1 h2
  rw [List.length_drop] at hj
  refine ⟨i - 1 - j,p,by omega,?_,h1⟩
  rw [List.getElem?_reverse (by omega),← e2,List.getElem_drop,List.getElem?_eq_getElem (by omega)]
  congr 2
  omega
 have hne:r≠[]:=fun w=>by rw [w] at h0; cases h0
 have hrl:0<r.length:=List.length_pos_iff.2 hne
 have hzero:r.reverse[0]? = some 0:=by
  have hlt:0<r.reverse.length:=by rw [List.length_reverse]; exact hrl
  by_cases e:r.reverse[0]=0
  ·rw [List.getElem?_eq_getElem hlt,e]
  ·obtain ⟨j,_,hj,_⟩:=hp 0 _ (List.getElem?_eq_getElem hlt) e
   omega
 refine ⟨hzero,(List.reverse_perm r).nodup_iff.2 hnd,fun x=>by rw [List.mem_reverse]; exact hmem x,fun i x hi h0i => ?_⟩
 refine hp i x hi fun e => ?_
 subst e
 have hnr:r.reverse.Nodup:=(List.reverse_perm r).nodup_iff.2 hnd
 have hlt:=(List.getElem?_eq_some_iff.1 hi).1
 have:=(List.getElem_inj (h₀:=(List.getElem?_eq_some_iff.1 hzero).1) (h₁:=hlt) hnr).1 (by rw [(List.getElem?_eq_some_iff.1 hzero).2,(List.getElem?_eq_some_iff.1 hi).2])
 omega
theorem DfsI.start (fol:Nat→List Nat) {N:Nat} (h0:0<N):DfsI fol N ((List.replicate N false).set 0 true,[],[(0,0)]):=by
 have hl:0<(List.replicate N false).length:=by rw [List.length_replicate]; exact h0
 have hm:=fun x=>mem_set_true (l:=List.replicate N false) (x:=x) hl
 refine ⟨by simp,fun x => ?_,by simp,rfl,fun A x B e=>by simp at e,fun x hx => ?_,fun x hx=>by simp at hx,fun v hv j hj => ?_,fun v hv => ?_,(hm 0).2 (.inl rfl)⟩
 ·rw [hm]
  constructor
  ·rintro (h | h)
   ·exact .inr (by simp [h])
   ·have:=List.mem_of_getElem? h
    simp at this
  ·rintro (h | h)
   ·cases h
   ·exact .inl (by simpa using h)
 ·have:x=0:=by simpa using hx
  rw [this]; exact .zero
 ·have:v=(0,0):=by simpa using hv
  rw [this] at hj
  exact absurd hj (Nat.not_lt_zero j)
 ·have:v=(0,0):=by simpa using hv
  rw [this]; exact Nat.zero_le _
end Go.Proofs.YthboippafkcoiaaGreatDoor.am
namespace Go.Proofs.YthboippafkcoiaaGreatDoor.am
set_option linter.all false
def IsIdom (fol:Nat→List Nat) (x:Nat) (v:Int):Prop :=
 (v = -1∧(x=0 ∨ ¬ Rch fol (-1) x))∨(x≠0 ∧ ∃ a:Nat,v=a∧a≠x∧Dm fol a x ∧ ∀ c,c≠x→Dm fol c x→Dm fol c a)
theorem not_dm_zero {fol:Nat→List Nat} {a:Nat} (h:a≠0) : ¬ Dm fol a 0:=fun q=>q.2.2.elim (fun w=>h w.symm) (fun w=>w .zero)
theorem dm_zero {fol:Nat→List Nat} {x:Nat} (h:Rch fol (-1) x):Dm fol 0 x:=by
 refine ⟨.zero,h,?_⟩
 by_cases e:x=0
 ·exact .inl e
 ·refine .inr fun q => ?_
  have : ∀ y,Rch fol ((0:Nat):Int) y→y=0:=by
   intro y hy
   induction hy with
   | zero=>rfl
   | step _ h _ ih=>rw [ih] at h; exact absurd rfl h
  exact e (this x q)
theorem dm_refl {fol:Nat→List Nat} {x:Nat} (h:Rch fol (-1) x):Dm fol x x:=⟨h,h,.inl rfl⟩
theorem idom_unique {fol:Nat→List Nat} {x:Nat} {u v:Int} (hu:IsIdom fol x u) (hv:IsIdom fol x v):u=v:=by
 rcases hu with ⟨rfl,h1⟩ | ⟨h0,a,rfl,ha,hd,hm⟩
 ·rcases hv with ⟨rfl,_⟩ | ⟨h0,b,rfl,hb,hd,_⟩
  ·rfl
  ·rcases h1 with h1 | h1
   ·exact absurd h1 h0
   ·exact absurd hd.2.1 h1
 ·rcases hv with ⟨rfl,h1⟩ | ⟨_,b,rfl,hb,hd2,hm2⟩
  ·rcases h1 with h1 | h1
   ·exact absurd h1 h0
   ·exact absurd hd.2.1 h1
  ·rw [Dm.anti (hm2 a ha hd) (hm b hb hd2)]
theorem idom_exists {fol:Nat→List Nat} {N:Nat} (hN:0<N) (hf : ∀ a,∀ b ∈ fol a,b<N) (x:Nat) : ∃ v,IsIdom fol x v:=by
 by_cases h0:x=0
 ·exact ⟨-1,.inl ⟨rfl,.inl h0⟩⟩
 by_cases hr:Rch fol (-1) x
 ·have : ∀ n,(∀ a,a<n → ¬ (a≠x∧Dm fol a x)) ∨ ∃ m,(m≠x∧Dm fol m x) ∧ ∀ a,a<n→a≠x→Dm fol a x→Dm fol a m:=by
   intro n
   induction n with
   | zero=>exact .inl fun a h=>absurd h (Nat.not_lt_zero a)
   | succ n ih =>
    by_cases hS:n≠x∧Dm fol n x
    ·rcases ih with ih | ⟨m,h1,h2⟩
     ·refine .inr ⟨n,hS,fun a ha h1 h2 => ?_⟩
      by_cases e:a=n
      ·rw [e]; exact dm_refl hS.2.1
      ·exact absurd ⟨h1,h2⟩ (ih a (by omega))
     ·by_cases q:Dm fol m n
      ·refine .inr ⟨n,hS,fun a ha g1 g2 => ?_⟩
       by_cases e:a=n
       ·rw [e]; exact dm_refl hS.2.1
       ·exact (h2 a (by omega) g1 g2).trans q
      ·refine .inr ⟨m,h1,fun a ha g1 g2 => ?_⟩
       by_cases e:a=n
       ·rw [e]; exact (Dm.total h1.2 hS.2).resolve_left q
       ·exact h2 a (by omega) g1 g2
    ·rcases ih with ih | ⟨m,h1,h2⟩
     ·refine .inl fun a ha => ?_
      by_cases e:a=n
      ·rw [e]; exact hS
      ·exact ih a (by omega)
     ·refine .inr ⟨m,h1,fun a ha g1 g2 => ?_⟩
      by_cases e:a=n
      ·subst e; exact absurd ⟨g1,g2⟩ hS
      ·exact h2 a (by omega) g1 g2
  rcases this N with h | ⟨m,h1,h2⟩
  ·exact absurd ⟨fun w=>h0 w.symm,dm_zero hr⟩ (h 0 hN)
  ·exact ⟨m,.inr ⟨h0,m,rfl,h1.1,h1.2,fun c g1 g2=>h2 c (g2.1.lt hN hf) g1 g2⟩⟩
 ·exact ⟨-1,.inl ⟨rfl,.inr hr⟩⟩
noncomputable def idomI (fol:Nat→List Nat) (x:Nat):Int:=Classical.epsilon (IsIdom fol x)
theorem idomI_is {fol:Nat→List Nat} {N:Nat} (hN:0<N) (hf : ∀ a,∀ b ∈ fol a,b<N) (x:Nat):IsIdom fol x (idomI fol x):=Classical.epsilon_spec (idom_exists hN hf x)
theorem idomI_eq {fol:Nat→List Nat} {N:Nat} (hN:0<N) (hf : ∀ a,∀ b ∈ fol a,b<N) {x:Nat} {v:Int} (h:IsIdom fol x v):idomI fol x=v:=idom_unique (idomI_is hN hf x) h
noncomputable def idomL (fol:Nat→List Nat) (N:Nat):List Int:=(List.range N).map (idomI fol)
def predP (fol:Nat→List Nat) (ord:List Nat) (i:Nat):List Nat:=(List.range ord.length).filter fun p=>(fol (ord.getD p 0)).contains (ord.getD i 0)
theorem mem_predP {fol:Nat→List Nat} {ord:List Nat} {i p:Nat}:p ∈ predP fol ord i↔p<ord.length∧ord.getD i 0 ∈ fol (ord.getD p 0):=by
 simp [predP]
theorem ord_getD {ord:List Nat} {i x:Nat} (h:ord[i]? = some x):ord.getD i 0=x:=by
 rw [List.getD_eq_getElem?_getD,h]; rfl
theorem OrdOk.inj {fol:Nat→List Nat} {ord:List Nat} (h:OrdOk fol ord) {i j x:Nat} (h1:ord[i]? = some x) (h2:ord[j]? = some x):i=j:=by
 have a:=(List.getElem?_eq_some_iff.1 h1)
 have b:=(List.getElem?_eq_some_iff.1 h2)
 exact (List.getElem_inj (h₀:=a.1) (h₁:=b.1) h.nodup).1 (a.2.trans b.2.symm)
theorem OrdOk.place {fol:Nat→List Nat} {ord:List Nat} (h:OrdOk fol ord) {x:Nat} (hx:Rch fol (-1) x) : ∃ i:Nat,ord[i]? = some x:=by
 obtain ⟨i,hi,e⟩:=List.mem_iff_getElem.1 ((h.mem x).2 hx)
 exact ⟨i,by rw [List.getElem?_eq_getElem hi,e]⟩
theorem OrdOk.rch {fol:Nat→List Nat} {ord:List Nat} (h:OrdOk fol ord) {i x:Nat} (hx:ord[i]? = some x):Rch fol (-1) x:=(h.mem x).1 (List.mem_of_getElem? hx)
theorem av_iff {fol:Nat→List Nat} {ord:List Nat} (h:OrdOk fol ord) {d i x y:Nat} (hd:ord[d]? = some y) (hi:ord[i]? = some x):Av ord.length (predP fol ord) d i↔i≠d∧Rch fol (y:Int) x:=by
 constructor
 ·intro hA
  induction hA generalizing x with
  | zero hd0 =>
   rw [h.zero] at hi
   cases hi
   exact ⟨hd0,.zero⟩
  | @step p i hp hpi hid hil ih =>
   obtain ⟨p1,p2⟩:=mem_predP.1 hpi
   obtain ⟨z,hz⟩ : ∃ z,ord[p]? = some z:=⟨_,List.getElem?_eq_getElem p1⟩
   obtain ⟨q1,q2⟩:=ih hz
   rw [ord_getD hi,ord_getD hz] at p2
   refine ⟨hid,.step q2 (fun w=>q1 ?_) p2⟩
   have:z=y:=by omega
   subst this
   exact h.inj hz hd
 ·rintro ⟨hid,hr⟩
  induction hr generalizing i with
  | zero =>
   have:=h.inj hi h.zero
   subst this
   exact .zero hid
  | @step a b ha hay hab ih =>
   obtain ⟨p,hp⟩:=h.place ha.all
   have hpd:p≠d:=fun w=>by subst w; rw [hp] at hd; cases hd; exact hay rfl
   refine .step (ih hp hpd) (mem_predP.2 ⟨(List.getElem?_eq_some_iff.1 hp).1,by rw [ord_getD hi,ord_getD hp]; exact hab⟩) hid (List.getElem?_eq_some_iff.1 hi).1
theorem dm_iff {fol:Nat→List Nat} {ord:List Nat} (h:OrdOk fol ord) {d i x y:Nat} (hd:ord[d]? = some y) (hi:ord[i]? = some x) : ¬ Av ord.length (predP fol ord) d i↔Dm fol y x:=by
 rw [av_iff h hd hi]
 constructor
 ·intro q
  refine ⟨h.rch hd,h.rch hi,?_⟩
  by_cases e:i=d
  ·subst e; rw [hi] at hd; cases hd; exact .inl rfl
  ·exact .inr fun w=>q ⟨e,w⟩
 ·rintro ⟨_,_,rfl | q⟩ ⟨w1,w2⟩
  ·exact w1 (h.inj hi hd)
  ·exact q w2
def outD (ord:List Nat) (N:Nat) (o:Nat→Option Nat):List Int:=(List.range N).map fun x=>bif ord.contains x then (match o (ord.idxOf x) with | some j=>((ord.getD j 0:Nat):Int) | none => -1) else -1
theorem OrdOk.idx {fol:Nat→List Nat} {ord:List Nat} (h:OrdOk fol ord) {i x:Nat} (hi:ord[i]? = some x):ord.idxOf x=i:=by
 have hm:x ∈ ord:=List.mem_of_getElem? hi
 have hl:=List.idxOf_lt_length_iff.2 hm
 refine h.inj (x:=x) ?_ hi
 rw [List.getElem?_eq_getElem hl,List.getElem_idxOf hl]
theorem outD_at {fol:Nat→List Nat} {ord:List Nat} (h:OrdOk fol ord) {N:Nat} {o:Nat→Option Nat} {i x:Nat} (hi:ord[i]? = some x) (hx:x<N):(outD ord N o)[x]? = some (match o i with | some j=>((ord.getD j 0:Nat):Int) | none => -1):=by
 have hm:ord.contains x=true:=List.contains_iff_mem.2 (List.mem_of_getElem? hi)
 simp only [outD,List.getElem?_map,List.getElem?_range hx,Option.map_some,hm,h.idx hi,cond_true]
theorem outD_no {ord:List Nat} {N:Nat} {o:Nat→Option Nat} {x:Nat} (hi:x ∉ ord) (hx:x<N):(outD ord N o)[x]? = some (-1):=by
 have hm:ord.contains x=false:=by simpa using hi
 simp only [outD,List.getElem?_map,List.getElem?_range hx,Option.map_some,hm,cond_false]
theorem outD_set {fol:Nat→List Nat} {ord:List Nat} (h:OrdOk fol ord) {N:Nat} {o:Nat→Option Nat} {n b x y:Nat} (hn:ord[n]? = some x) (hb:ord[b]? = some y):outD ord N (updO o n b)=(outD ord N o).set x (y:Int):=by
 refine List.ext_getElem? fun k => ?_
 by_cases hk:k<N
 ·by_cases e:k=x
  ·subst e
   rw [List.getElem?_set_self (by simp [outD,hk]),outD_at h hn hk,updO_same]
   simp only [ord_getD hb]
  ·rw [List.getElem?_set_ne (fun w=>e w.symm)]
   by_cases hm:k ∈ ord
   ·obtain ⟨i,hi,e2⟩:=List.mem_iff_getElem.1 hm
    have hi2:ord[i]? = some k:=by rw [List.getElem?_eq_getElem hi,e2]
    have hin:i≠n:=fun w=>by subst w; rw [hi2] at hn; cases hn; exact e rfl
    rw [outD_at h hi2 hk,outD_at h hi2 hk,updO_ne hin]
   ·rw [outD_no hm hk,outD_no hm hk]
 ·rw [List.getElem?_eq_none (by simp [outD]; omega),List.getElem?_eq_none (by simp [outD]; omega)]
def sumO (M:Nat) (o:Nat→Option Nat):Nat:=((List.range M).map fun i=>match o i with | some j=>j | none=>M).sum
theorem sumO_less {M:Nat} {o:Nat→Option Nat} {n b:Nat} (hn:n<M) (hb:b<n) (hc : ∀ c,o n=some c→b≤c) (hne:o n≠some b):sumO M (updO o n b)<sumO M o:=by
 unfold sumO
 have key : ∀ (l:List Nat),l.Nodup→n ∈ l→(∀ i ∈ l,i<M)→(l.map fun i=>match updO o n b i with | some j=>j | none=>M).sum<(l.map fun i=>match o i with | some j=>j | none=>M).sum:=by
  intro l
  induction l with
  | nil=>intro _ h; cases h
  | cons i l ih =>
   intro hnd hm hl
   obtain ⟨h1,h2⟩:=List.nodup_cons.1 hnd
   simp only [List.map_cons,List.sum_cons]
   by_cases e:i=n
   ·subst e
    have hsame:(l.map fun k=>match updO o i b k with | some j=>j | none=>M)=l.map fun k=>match o k with | some j=>j | none=>M:=by
     refine List.map_congr_left fun k hk => ?_
     rw [updO_ne (fun w=>h1 (by rw [← w]; exact hk))]
    rw [hsame,updO_same]
    cases ho:o i with
    | none=>simp only; omega
    | some c =>
     have:=hc c ho
     have:b≠c:=fun w=>hne (by rw [ho,w])
     simp only; omega
   ·rw [updO_ne e]
    have:=ih h2 ((List.mem_cons.1 hm).resolve_left (fun w=>e w.symm)) (fun k hk=>hl k (.tail _ hk))
    omega
 exact key (List.range M) List.nodup_range (List.mem_range.2 hn) (fun i hi=>List.mem_range.1 hi)
theorem outD_idom {fol:Nat→List Nat} {ord:List Nat} {N:Nat} (hN:0<N) (hf : ∀ a,∀ b ∈ fol a,b<N) (h:OrdOk fol ord) {t:Nat→Nat} {o:Nat→Option Nat} (hI:DomI ord.length (predP fol ord) t ord.length o) (hfix : ∀ n b,0<n→n<ord.length→o n=some b→MeetI (predP fol ord) o n b):(outD ord N o).set 0 (-1)=idomL fol N:=by
 have hA:=fun d {x} hx=>anc_dom hI hfix (fun i hi p hp=>(mem_predP.1 hp).1) d (x:=x) hx
 refine List.ext_getElem? fun k => ?_
 by_cases hk:k<N
 ·have hr:(idomL fol N)[k]? = some (idomI fol k):=by simp [idomL,hk]
  rw [hr]
  by_cases e:k=0
  ·subst e
   rw [List.getElem?_set_self (by simp [outD,hk]),idomI_eq hN hf (.inl aut)]
  ·rw [List.getElem?_set_ne (fun w=>e w.symm)]
   by_cases hm:k ∈ ord
   ·obtain ⟨i,hi,e2⟩:=List.mem_iff_getElem.1 hm
    have hi2:ord[i]? = some k:=by rw [List.getElem?_eq_getElem hi,e2]
    have hi0:i≠0:=fun w=>by subst w; rw [h.zero] at hi2; cases hi2; exact e rfl
    obtain ⟨j,hj⟩:=Option.isSome_iff_exists.1 (hI.did i hi)
    have hji:=(hI.up.lt i j (by omega) hj).1
    obtain ⟨y,hy⟩ : ∃ y,ord[j]? = some y:=⟨_,List.getElem?_eq_getElem (by omega)⟩
    rw [outD_at h hi2 hk,hj]
    simp only [ord_getD hy]
    rw [idomI_eq hN hf (v:=(y:Int)) (.inr ⟨e,y,rfl,fun w=>by subst w; have:=h.inj hy hi2; omega,?_,fun c hc1 hc2 => ?_⟩)]
    ·exact (dm_iff h hy hi2).1 ((hA j hi).1 (.up hi0 hj (.refl _)))
    ·obtain ⟨d,hd⟩:=h.place hc2.1
     have:=(hA d hi).2 ((dm_iff h hd hi2).2 hc2)
     rw [anc_up hi0 hj] at this
     rcases this with w | w
     ·subst w; rw [hd] at hi2; cases hi2; exact absurd rfl hc1
     ·exact (dm_iff h hd hy).1 ((hA d (by omega)).1 w)
   ·rw [outD_no hm hk,idomI_eq hN hf (.inl ⟨rfl,.inr fun w=>hm ((h.mem k).2 w)⟩)]
 ·rw [List.getElem?_eq_none (by simp [outD]; omega),List.getElem?_eq_none (by simp [idomL]; omega)]
end Go.Proofs.YthboippafkcoiaaGreatDoor.am
namespace Go.Proofs.YthboippafkcoiaaGreatDoor.am
set_option linter.all false
open Classical in
noncomputable def rchL (fol:Nat→List Nat) (cut:Int) (N:Nat):List Bool:=(List.range N).map fun x=>decide (Rch fol cut x)
theorem rchL_len {fol:Nat→List Nat} {cut:Int} {N:Nat}:(rchL fol cut N).length=N:=by simp [rchL]
theorem rchL_at {fol:Nat→List Nat} {cut:Int} {N x:Nat} (hx:x<N):(rchL fol cut N)[x]? = some true↔Rch fol cut x:=by
 classical
 simp [rchL,hx]
structure SprI (fol:Nat→List Nat) (cut:Int) (N:Nat) (out:List Bool) (pend:List Nat):Prop where
 len:out.length=N
 zero:out[0]? = some true
 rch : ∀ x,out[x]? = some true→Rch fol cut x
 pnd : ∀ x ∈ pend,out[x]? = some true
 clos : ∀ x,out[x]? = some true→x ∈ pend∨(x:Int)=cut ∨ ∀ y ∈ fol x,out[y]? = some true
structure SprJ (fol:Nat→List Nat) (cut:Int) (N:Nat) (out:List Bool) (pend:List Nat) (at_ j:Nat):Prop where
 len:out.length=N
 zero:out[0]? = some true
 rch : ∀ x,out[x]? = some true→Rch fol cut x
 pnd : ∀ x ∈ pend,out[x]? = some true
 clos : ∀ x,out[x]? = some true→x ∈ pend∨(x:Int)=cut∨(∀ y ∈ fol x,out[y]? = some true)∨(x=at_ ∧ ∀ i y,i<j→(fol at_)[i]? = some y→out[y]? = some true)
 cur:out[at_]? = some true
 nc:(at_:Int)≠cut
theorem SprI.start {fol:Nat→List Nat} {cut:Int} {N:Nat} (hN:0<N):SprI fol cut N ((List.replicate N false).set 0 true) [0]:=by
 have hm:=fun x=>mem_set_true (l:=List.replicate N false) (i:=0) (x:=x) (by simpa using hN)
 have h1 : ∀ x,((List.replicate N false).set 0 true)[x]? = some true→x=0:=fun x hx=>by
  rcases (hm x).1 hx with h | h
  ·exact h
  ·have:=List.mem_of_getElem? h
   simp at this
 refine ⟨by simp,(hm 0).2 (.inl rfl),fun x hx => ?_,fun x hx => ?_,fun x hx => .inl ?_⟩
 ·rw [h1 x hx]; exact .zero
 ·have:x=0:=by simpa using hx
  rw [this]; exact (hm 0).2 (.inl rfl)
 ·rw [h1 x hx]; simp
theorem SprI.lt {fol:Nat→List Nat} {cut:Int} {N:Nat} {out:List Bool} {pend:List Nat} (h:SprI fol cut N out pend) {x:Nat} (hx:x ∈ pend):x<N:=by
 have:=(List.getElem?_eq_some_iff.1 (h.pnd x hx)).1
 rw [h.len] at this; exact this
theorem SprI.cut {fol:Nat→List Nat} {cut:Int} {N:Nat} {out:List Bool} {pend rest:List Nat} {at_:Nat} (h:SprI fol cut N out pend) (hp : ∀ x,x ∈ pend↔x=at_∨x ∈ rest) (hc:(at_:Int)=cut):SprI fol cut N out rest :=
 ⟨h.len,h.zero,h.rch,fun x hx=>h.pnd x ((hp x).2 (.inr hx)),fun x hx=>by
  rcases h.clos x hx with q | q
  ·rcases (hp x).1 q with e | q
   ·exact .inr (.inl (by rw [e]; exact hc))
   ·exact .inl q
  ·exact .inr q⟩
theorem SprI.take {fol:Nat→List Nat} {cut:Int} {N:Nat} {out:List Bool} {pend rest:List Nat} {at_:Nat} (h:SprI fol cut N out pend) (hp : ∀ x,x ∈ pend↔x=at_∨x ∈ rest) (hc:(at_:Int)≠cut):SprJ fol cut N out rest at_ 0 :=
 ⟨h.len,h.zero,h.rch,fun x hx=>h.pnd x ((hp x).2 (.inr hx)),fun x hx=>by
  rcases h.clos x hx with q | q | q
  ·rcases (hp x).1 q with e | q
   ·exact .inr (.inr (.inr ⟨e,fun i y hi=>absurd hi (Nat.not_lt_zero i)⟩))
   ·exact .inl q
  ·exact .inr (.inl q)
  ·exact .inr (.inr (.inl q)),h.pnd at_ ((hp at_).2 (.inl rfl)),hc⟩
theorem SprJ.skip {fol:Nat→List Nat} {cut:Int} {N:Nat} {out:List Bool} {pend:List Nat} {at_ j y:Nat} (h:SprJ fol cut N out pend at_ j) (hy:(fol at_)[j]? = some y) (ho:out[y]? = some true):SprJ fol cut N out pend at_ (j+1) :=
 ⟨h.len,h.zero,h.rch,h.pnd,fun x hx=>by
  rcases h.clos x hx with q | q | q | ⟨q,q2⟩
  ·exact .inl q
  ·exact .inr (.inl q)
  ·exact .inr (.inr (.inl q))
  ·refine .inr (.inr (.inr ⟨q,fun i z hi hz => ?_⟩))
   by_cases e:i=j
   ·subst e; rw [hy] at hz; cases hz; exact ho
   ·exact q2 i z (by omega) hz,h.cur,h.nc⟩
theorem SprJ.push {fol:Nat→List Nat} {cut:Int} {N:Nat} {out:List Bool} {pend pend':List Nat} {at_ j y:Nat} (h:SprJ fol cut N out pend at_ j) (hy:(fol at_)[j]? = some y) (ho:out[y]? = some false) (hp : ∀ x,x ∈ pend'↔x=y∨x ∈ pend):SprJ fol cut N (out.set y true) pend' at_ (j+1):=by
 have hyl:=(List.getElem?_eq_some_iff.1 ho).1
 have hm:=fun x=>mem_set_true (l:=out) (i:=y) (x:=x) hyl
 refine ⟨by rw [List.length_set]; exact h.len,(hm 0).2 (.inr h.zero),fun x hx => ?_,fun x hx => ?_,fun x hx => ?_,(hm at_).2 (.inr h.cur),h.nc⟩
 ·rcases (hm x).1 hx with e | q
  ·rw [e]; exact .step (h.rch at_ h.cur) h.nc (List.mem_of_getElem? hy)
  ·exact h.rch x q
 ·rcases (hp x).1 hx with e | q
  ·exact (hm x).2 (.inl e)
  ·exact (hm x).2 (.inr (h.pnd x q))
 ·rcases (hm x).1 hx with e | hx
  ·exact .inl ((hp x).2 (.inl e))
  ·rcases h.clos x hx with q | q | q | ⟨q,q2⟩
   ·exact .inl ((hp x).2 (.inr q))
   ·exact .inr (.inl q)
   ·exact .inr (.inr (.inl fun z hz=>(hm z).2 (.inr (q z hz))))
   ·refine .inr (.inr (.inr ⟨q,fun i z hi hz => ?_⟩))
    by_cases e:i=j
    ·subst e; rw [hy] at hz; cases hz; exact (hm y).2 (.inl rfl)
    ·exact (hm z).2 (.inr (q2 i z (by omega) hz))
theorem SprJ.fin {fol:Nat→List Nat} {cut:Int} {N:Nat} {out:List Bool} {pend:List Nat} {at_ j:Nat} (h:SprJ fol cut N out pend at_ j) (hj:(fol at_).length≤j):SprI fol cut N out pend :=
 ⟨h.len,h.zero,h.rch,h.pnd,fun x hx=>by
  rcases h.clos x hx with q | q | q | ⟨q,q2⟩
  ·exact .inl q
  ·exact .inr (.inl q)
  ·exact .inr (.inr q)
  ·subst q
   refine .inr (.inr fun y hy => ?_)
   obtain ⟨i,hi,e⟩:=List.mem_iff_getElem.1 hy
   exact q2 i y (by omega) (by rw [List.getElem?_eq_getElem hi,e])⟩
theorem SprI.fin {fol:Nat→List Nat} {cut:Int} {N:Nat} {out:List Bool} (h:SprI fol cut N out []):out=rchL fol cut N:=by
 have key : ∀ x,Rch fol cut x→out[x]? = some true:=by
  intro x hx
  induction hx with
  | zero=>exact h.zero
  | @step a b _ hc hb ih =>
   rcases h.clos a ih with q | q | q
   ·cases q
   ·exact absurd q hc
   ·exact q b hb
 refine List.ext_getElem? fun x => ?_
 by_cases hx:x<N
 ·have hl:x<out.length:=by rw [h.len]; exact hx
  have h2:x<(rchL fol cut N).length:=by rw [rchL_len]; exact hx
  rw [List.getElem?_eq_getElem hl,List.getElem?_eq_getElem h2]
  congr 1
  have q1:out[x]=true↔Rch fol cut x:=by
   constructor
   ·intro w; exact h.rch x (by rw [List.getElem?_eq_getElem hl,w])
   ·intro w; have:=key x w; rw [List.getElem?_eq_getElem hl] at this; exact Option.some.inj this
  have q2:(rchL fol cut N)[x]=true↔Rch fol cut x:=by
   rw [← rchL_at hx,List.getElem?_eq_getElem h2]
   constructor
   ·intro w; rw [w]
   ·intro w; exact Option.some.inj w
  cases a:out[x] <;> cases b:(rchL fol cut N)[x]
  ·rfl
  ·rw [q2.1 b |> q1.2] at a; cases a
  ·rw [q1.1 a |> q2.2] at b; cases b
  ·rfl
 ·rw [List.getElem?_eq_none (by rw [h.len]; omega),List.getElem?_eq_none (by rw [rchL_len]; omega)]
def aheadN (fol:Nat→List Nat) (n k:Nat):List Nat:=(List.range n).filter fun i=>(fol i).contains k
def aheadL (fol:Nat→List Nat) (N:Nat):List (List Nat):=(List.range N).map fun k=>aheadN fol N k
theorem aheadN_succ {fol:Nat→List Nat} {n k:Nat}:aheadN fol (n+1) k=aheadN fol n k++(bif (fol n).contains k then [n] else []):=by
 unfold aheadN
 rw [List.range_succ,List.filter_append]
 cases h:(fol n).contains k with
 | true=>simpa using h
 | false=>simpa using h
theorem mem_aheadN {fol:Nat→List Nat} {n k i:Nat}:i ∈ aheadN fol n k↔i<n∧k ∈ fol i:=by
 simp [aheadN]
def aheadJ (fol:Nat→List Nat) (N n j:Nat):List (List Nat):=(List.range N).map fun k=>aheadN fol n k++(bif ((fol n).take j).contains k then [n] else [])
theorem aheadJ_zero {fol:Nat→List Nat} {N:Nat}:aheadJ fol N 0 0=List.replicate N []:=by
 refine List.ext_getElem? fun i => ?_
 by_cases h:i<N
 ·simp [aheadJ,aheadN,h]
 ·rw [List.getElem?_eq_none (by simp [aheadJ]; omega),List.getElem?_eq_none (by simp; omega)]
theorem aheadJ_next {fol:Nat→List Nat} {N n j:Nat} (hj:(fol n).length≤j):aheadJ fol N n j=aheadJ fol N (n+1) 0:=by
 unfold aheadJ
 refine List.map_congr_left fun k _ => ?_
 rw [List.take_of_length_le hj,aheadN_succ]
 simp
theorem aheadJ_fin {fol:Nat→List Nat} {N:Nat}:aheadJ fol N N 0=aheadL fol N:=by
 unfold aheadJ aheadL
 refine List.map_congr_left fun k _ => ?_
 simp
theorem aheadJ_at {fol:Nat→List Nat} {N n j k:Nat} (hk:k<N):(aheadJ fol N n j)[k]? = some (aheadN fol n k++(bif ((fol n).take j).contains k then [n] else [])):=by
 simp [aheadJ,hk]
theorem aheadJ_put {fol:Nat→List Nat} {N n j k:Nat} (hk:(fol n)[j]? = some k) (hkN:k<N) (hnd:(fol n).Nodup):aheadJ fol N n (j+1)=(aheadJ fol N n j).set k (aheadN fol n k++[n])∧(aheadJ fol N n j)[k]? = some (aheadN fol n k):=by
 have htk:(fol n).take (j+1)=(fol n).take j++[k]:=by
  rw [List.take_succ,hk]; rfl
 have hnk:((fol n).take j).contains k=false:=by
  have hk2:=List.getElem?_eq_some_iff.1 hk
  have : ¬ k ∈ (fol n).take j:=fun hm=>by
   obtain ⟨i,hi,e⟩:=List.mem_iff_getElem.1 hm
   rw [List.length_take] at hi
   rw [List.getElem_take] at e
   have:=(List.getElem_inj (h₀:=by omega) (h₁:=hk2.1) hnd).1 (e.trans hk2.2.symm)
   omega
  simpa using this
 refine ⟨List.ext_getElem? fun x => ?_,by rw [aheadJ_at hkN,hnk]; simp⟩
 by_cases hx:x<N
 ·by_cases e:x=k
  ·subst e
   rw [List.getElem?_set_self (by simp [aheadJ,hx]),aheadJ_at hx,htk]
   simp
  ·rw [List.getElem?_set_ne (fun w=>e w.symm),aheadJ_at hx,aheadJ_at hx,htk]
   have:((fol n).take j++[k]).contains x=((fol n).take j).contains x:=by
    simp [e]
   rw [this]
 ·rw [List.getElem?_eq_none (by simp [aheadJ]; omega),List.getElem?_eq_none (by simp [aheadJ]; omega)]
end Go.Proofs.YthboippafkcoiaaGreatDoor.am
namespace Go.Proofs.YthboippafkcoiaaGreatDoor.am
set_option linter.all false
theorem meet_ex {o:Nat→Option Nat} (h:UpOk o) : ∀ (n a b:Nat),a+b≤n→(o a).isSome=true→(o b).isSome=true → ∃ m,(o m).isSome=true ∧ ∀ x,Anc o x m↔(Anc o x a∧Anc o x b)
 | n,a,b,hn,ha,hb=>by
  by_cases e:a=b
  ·subst e; exact ⟨a,ha,fun x=>⟨fun q=>⟨q,q⟩,fun q=>q.1⟩⟩
  ·cases n with
   | zero=>omega
   | succ n =>
    by_cases hlt:b<a
    ·obtain ⟨j,hj⟩:=Option.isSome_iff_exists.1 ha
     obtain ⟨h1,h2⟩:=h.lt a j (by omega) hj
     obtain ⟨m,q1,q2⟩:=meet_ex h n j b (by omega) h2 hb
     exact ⟨m,q1,fun x=>(q2 x).trans (anc_step h hlt hj).symm⟩
    ·obtain ⟨j,hj⟩:=Option.isSome_iff_exists.1 hb
     obtain ⟨h1,h2⟩:=h.lt b j (by omega) hj
     obtain ⟨m,q1,q2⟩:=meet_ex h n a j (by omega) ha h2
     refine ⟨m,q1,fun x=>(q2 x).trans ?_⟩
     have:=anc_step h (a:=b) (b:=a) (x:=x) (by omega) hj
     exact ⟨fun w=>(this.2 ⟨w.2,w.1⟩).symm,fun w=>(this.1 ⟨w.2,w.1⟩).symm⟩
theorem anc_ext {o:Nat→Option Nat} (h:UpOk o) {a b:Nat} (hq : ∀ x,Anc o x a↔Anc o x b):a=b:=by
 have h1:=Anc.le h ((hq a).1 (.refl _))
 have h2:=Anc.le h ((hq b).2 (.refl _))
 omega
def MeetK (o:Nat→Option Nat) (l:List Nat) (b:Option Nat):Prop:=match b with
 | none => ∀ p ∈ l,o p=none
 | some m=>(o m).isSome=true∧(∃ p ∈ l,(o p).isSome=true) ∧ ∀ x,Anc o x m ↔ ∀ p ∈ l,(o p).isSome=true→Anc o x p
theorem MeetK.skip {o:Nat→Option Nat} {l:List Nat} {b:Option Nat} {p:Nat} (h:MeetK o l b) (hp:o p=none):MeetK o (l++[p]) b:=by
 cases b with
 | none =>
  intro q hq
  rcases List.mem_append.1 hq with hq | hq
  ·exact h q hq
  ·rw [List.mem_singleton.1 hq]; exact hp
 | some m =>
  obtain ⟨h1,⟨p0,h2,h3⟩,h4⟩:=h
  refine ⟨h1,⟨p0,by simp [h2],h3⟩,fun x=>(h4 x).trans ⟨fun w q hq hs => ?_,fun w q hq hs=>w q (by simp [hq]) hs⟩⟩
  rcases List.mem_append.1 hq with hq | hq
  ·exact w q hq hs
  ·rw [List.mem_singleton.1 hq,hp] at hs; cases hs
theorem MeetK.first {o:Nat→Option Nat} {l:List Nat} {p:Nat} (h:MeetK o l none) (hp:(o p).isSome=true):MeetK o (l++[p]) (some p):=by
 refine ⟨hp,⟨p,by simp,hp⟩,fun x=>⟨fun w q hq hs => ?_,fun w=>w p (by simp) hp⟩⟩
 rcases List.mem_append.1 hq with hq | hq
 ·rw [h q hq] at hs; cases hs
 ·rw [List.mem_singleton.1 hq]; exact w
theorem MeetK.more {o:Nat→Option Nat} {l:List Nat} {p m k:Nat} (h:MeetK o l (some m)) (hp:(o p).isSome=true) (hk:(o k).isSome=true) (hm : ∀ x,Anc o x k↔(Anc o x m∧Anc o x p)):MeetK o (l++[p]) (some k):=by
 obtain ⟨h1,⟨p0,h2,h3⟩,h4⟩:=h
 refine ⟨hk,⟨p0,by simp [h2],h3⟩,fun x=>(hm x).trans ⟨fun w q hq hs => ?_,fun w=>⟨(h4 x).2 fun q hq hs=>w q (by simp [hq]) hs,w p (by simp) hp⟩⟩⟩
 rcases List.mem_append.1 hq with hq | hq
 ·exact (h4 x).1 w.1 q hq hs
 ·rw [List.mem_singleton.1 hq]; exact w.2
end Go.Proofs.YthboippafkcoiaaGreatDoor.am
namespace Go.Proofs.YthboippafkcoiaaGreatDoor.am
set_option linter.all false
theorem OrdOk.tree {f:Nat→List Nat} {ord:List Nat} (h:OrdOk f ord) : ∃ t:Nat→Nat,∀ i,0<i→i<ord.length→t i ∈ predP f ord i∧t i<i:=by
 have : ∀ i,∃ j,0<i→i<ord.length→j ∈ predP f ord i∧j<i:=fun i=>by
  by_cases hi:0<i∧i<ord.length
  ·obtain ⟨j,p,h1,h2,h3⟩:=h.par i _ (List.getElem?_eq_getElem hi.2) (by omega)
   refine ⟨j,fun _ _=>⟨mem_predP.2 ⟨(List.getElem?_eq_some_iff.1 h2).1,?_⟩,h1⟩⟩
   rw [ord_getD h2,ord_getD (List.getElem?_eq_getElem hi.2)]
   exact h3
  ·exact ⟨0,fun a b=>absurd ⟨a,b⟩ hi⟩
 exact ⟨fun i=>(this i).choose,fun i h1 h2=>(this i).choose_spec h1 h2⟩
def posL (ord:List Nat) (l:List Nat):List Nat:=(l.filter fun p=>ord.contains p).map ord.idxOf
theorem posL_snoc (ord l:List Nat) (p:Nat):posL ord (l++[p])=bif ord.contains p then posL ord l++[ord.idxOf p] else posL ord l:=by
 unfold posL
 rw [List.filter_append]
 cases h:ord.contains p with
 | true=>rw [List.filter_cons_of_pos h,List.map_append]; rfl
 | false=>rw [List.filter_cons_of_neg (by rw [h]; decide),List.filter_nil,List.append_nil]; rfl
theorem posL_pred {f:Nat→List Nat} {ord:List Nat} (h:OrdOk f ord) {N i x:Nat} (hN : ∀ y ∈ ord,y<N) (hi:ord[i]? = some x) (q:Nat):q ∈ posL ord (aheadN f N x)↔q ∈ predP f ord i:=by
 rw [mem_predP,ord_getD hi]
 simp only [posL,List.mem_map,List.mem_filter,mem_aheadN]
 constructor
 ·rintro ⟨p,⟨⟨_,h1⟩,h2⟩,rfl⟩
  have hm:p ∈ ord:=List.contains_iff_mem.1 h2
  have hl:=List.idxOf_lt_length_iff.2 hm
  refine ⟨hl,?_⟩
  rw [ord_getD (x:=p) (by rw [List.getElem?_eq_getElem hl,List.getElem_idxOf hl])]
  exact h1
 ·rintro ⟨h1,h2⟩
  have hq:=List.getElem?_eq_getElem h1
  rw [ord_getD hq] at h2
  have hm:=List.mem_of_getElem? hq
  exact ⟨ord[q],⟨⟨hN _ hm,h2⟩,List.contains_iff_mem.2 hm⟩,h.idx hq⟩
theorem MeetK.fin {f:Nat→List Nat} {ord:List Nat} (h:OrdOk f ord) {N i x:Nat} (hN : ∀ y ∈ ord,y<N) (hi:ord[i]? = some x) {o:Nat→Option Nat} {t:Nat→Nat} (ht:t i ∈ predP f ord i) (hs:(o (t i)).isSome=true) {b:Option Nat} (hm:MeetK o (posL ord (aheadN f N x)) b) : ∃ m,b=some m∧(o m).isSome=true∧MeetI (predP f ord) o i m:=by
 cases b with
 | none =>
  have:=hm (t i) ((posL_pred h hN hi _).2 ht)
  rw [this] at hs; cases hs
 | some m =>
  refine ⟨m,rfl,hm.1,fun z=>(hm.2.2 z).trans ⟨fun w p hp hps=>w p ((posL_pred h hN hi _).2 hp) hps,fun w p hp hps=>w p ((posL_pred h hN hi _).1 hp) hps⟩⟩
theorem updO_id {o:Nat→Option Nat} {n b:Nat} (h:o n=some b):updO o n b=o:=by
 funext i
 by_cases e:i=n
 ·rw [e,updO_same,h]
 ·rw [updO_ne e]
def startO:Nat→Option Nat:=fun i=>if i=0 then some 0 else none
theorem outD_start {f:Nat→List Nat} {ord:List Nat} (h:OrdOk f ord) {N:Nat} (hN:0<N):outD ord N startO=(List.replicate N (-1)).set 0 0:=by
 refine List.ext_getElem? fun k => ?_
 by_cases hk:k<N
 ·by_cases e:k=0
  ·subst e
   rw [List.getElem?_set_self (by simpa using hk),outD_at h h.zero hk]
   show some ((ord.getD 0 0:Nat):Int)=_
   rw [ord_getD h.zero]; rfl
  ·rw [List.getElem?_set_ne (fun w=>e w.symm),List.getElem?_replicate,if_pos hk]
   by_cases hm:k ∈ ord
   ·obtain ⟨i,hi,e2⟩:=List.mem_iff_getElem.1 hm
    have hi2:ord[i]? = some k:=by rw [List.getElem?_eq_getElem hi,e2]
    have hi0:i≠0:=fun w=>by subst w; rw [h.zero] at hi2; cases hi2; exact e rfl
    rw [outD_at h hi2 hk]
    simp [startO,hi0]
   ·rw [outD_no hm hk]
 ·rw [List.getElem?_eq_none (by simp [outD]; omega),List.getElem?_eq_none (by simp; omega)]
def fillI (N i:Nat):List Int:=List.replicate i (-1)++List.replicate (N - i) 0
theorem fillI_set {N i:Nat} (h:i<N):(fillI N i).set i (-1)=fillI N (i+1):=by
 unfold fillI
 rw [List.set_append_right _ _ (by simp),List.length_replicate,Nat.sub_self,show N - i=(N - (i+1))+1 by omega,List.replicate_succ,List.set_cons_zero,List.replicate_succ',List.append_assoc]
 rfl
end Go.Proofs.YthboippafkcoiaaGreatDoor.am
namespace Go.Proofs.YthboippafkcoiaaGreatDoor.am
set_option linter.all false
inductive LoopR (fol:Nat→List Nat) (h:Nat):Nat→Prop
 | back {a:Nat}:Dm fol h a→h ∈ fol a→a≠h→LoopR fol h a
 | pre {n p:Nat}:LoopR fol h n→n ∈ fol p→Rch fol (-1) p→p≠h→LoopR fol h p
def HasBack (fol:Nat→List Nat) (h:Nat):Prop := ∃ a,Dm fol h a∧h ∈ fol a
def InLoop (fol:Nat→List Nat) (h n:Nat):Prop:=HasBack fol h∧(n=h∨LoopR fol h n)
theorem LoopR.ne {fol:Nat→List Nat} {h n:Nat} (hl:LoopR fol h n):n≠h:=by
 cases hl with
 | back _ _ q=>exact q
 | pre _ _ _ q=>exact q
theorem LoopR.rch {fol:Nat→List Nat} {h n:Nat} (hl:LoopR fol h n):Rch fol (-1) n:=by
 cases hl with
 | back q=>exact q.2.1
 | pre _ _ q=>exact q
theorem LoopR.has {fol:Nat→List Nat} {h n:Nat} (hl:LoopR fol h n):HasBack fol h:=by
 induction hl with
 | back a b=>exact ⟨_,a,b⟩
 | pre _ _ _ _ ih=>exact ih
open Classical in
noncomputable def depthN (fol:Nat→List Nat) (i n:Nat):Nat:=((List.range i).filter fun h=>decide (InLoop fol h n)).length
noncomputable def depthI (fol:Nat→List Nat) (N i:Nat):List Nat:=(List.range N).map (depthN fol i)
noncomputable def depthL (fol:Nat→List Nat) (N:Nat):List Nat:=depthI fol N N
open Classical in
theorem depthN_succ (fol:Nat→List Nat) (i n:Nat):depthN fol (i+1) n=depthN fol i n+(if InLoop fol i n then 1 else 0):=by
 unfold depthN
 rw [List.range_succ,List.filter_append,List.length_append]
 congr 1
 by_cases h:InLoop fol i n <;> simp [h]
theorem depthN_le (fol:Nat→List Nat) (i n:Nat):depthN fol i n≤i:=by
 classical
 have:=List.length_filter_le (fun h=>decide (InLoop fol h n)) (List.range i)
 rwa [List.length_range] at this
theorem depthI_len (fol:Nat→List Nat) (N i:Nat):(depthI fol N i).length=N:=by simp [depthI]
theorem depthI_at {fol:Nat→List Nat} {N i n:Nat} (h:n<N):(depthI fol N i)[n]? = some (depthN fol i n):=by simp [depthI,h]
theorem depthI_zero (fol:Nat→List Nat) (N:Nat):depthI fol N 0=List.replicate N 0:=by
 refine List.ext_getElem? fun x => ?_
 by_cases hx:x<N
 ·rw [depthI_at hx]; simp [depthN,hx]
 ·rw [List.getElem?_eq_none (by rw [depthI_len]; omega),List.getElem?_eq_none (by simp; omega)]
theorem depthI_skip {fol:Nat→List Nat} {N i:Nat} (h : ∀ n,¬ InLoop fol i n):depthI fol N (i+1)=depthI fol N i:=by
 classical
 unfold depthI
 refine List.map_congr_left fun n _ => ?_
 rw [depthN_succ,if_neg (h n)]; rfl
structure LoopI (fol:Nat→List Nat) (h:Nat) (S pend:List Nat):Prop where
 nd:S.Nodup
 ok : ∀ x ∈ S,InLoop fol h x
 okp : ∀ x ∈ pend,InLoop fol h x
 clos : ∀ n ∈ S,n≠h → ∀ p,n ∈ fol p→Rch fol (-1) p→p ∈ S∨p ∈ pend
 back : ∀ a,Dm fol h a→h ∈ fol a→a ∈ S∨a ∈ pend
 head:HasBack fol h→h ∈ S
theorem LoopI.rch {fol:Nat→List Nat} {h:Nat} (hr:Rch fol (-1) h) {x:Nat} (hx:InLoop fol h x):Rch fol (-1) x:=by
 rcases hx.2 with rfl | q
 ·exact hr
 ·exact q.rch
theorem LoopI.fin {fol:Nat→List Nat} {h:Nat} {S:List Nat} (hI:LoopI fol h S []) (x:Nat):x ∈ S↔InLoop fol h x:=by
 refine ⟨hI.ok x,fun hx => ?_⟩
 obtain ⟨hb,rfl | hl⟩:=hx
 ·exact hI.head hb
 ·clear hb
  induction hl with
  | back a b _=>exact (hI.back _ a b).resolve_right (by simp)
  | pre hn hp hr _ ih=>exact (hI.clos _ ih hn.ne _ hp hr).resolve_right (by simp)
theorem LoopI.seen {fol:Nat→List Nat} {h:Nat} {S pend rest:List Nat} {n:Nat} (hI:LoopI fol h S pend) (hp : ∀ x,x ∈ pend↔x=n∨x ∈ rest) (hn:n ∈ S):LoopI fol h S rest where
 nd:=hI.nd
 ok:=hI.ok
 okp:=fun x hx=>hI.okp x ((hp x).2 (.inr hx))
 clos:=fun a ha hne p h1 h2=>(hI.clos a ha hne p h1 h2).elim .inl fun q=>((hp p).1 q).elim (fun e => .inl (by rw [e]; exact hn)) .inr
 back:=fun a h1 h2=>(hI.back a h1 h2).elim .inl fun q=>((hp a).1 q).elim (fun e => .inl (by rw [e]; exact hn)) .inr
 head:=hI.head
structure LoopJ (fol:Nat→List Nat) (h:Nat) (S pend:List Nat) (n:Nat) (l:List Nat):Prop where
 nd:S.Nodup
 ok : ∀ x ∈ S,InLoop fol h x
 okp : ∀ x ∈ pend,InLoop fol h x
 clos : ∀ a ∈ S,a≠h→a≠n → ∀ p,a ∈ fol p→Rch fol (-1) p→p ∈ S∨p ∈ pend
 cur : ∀ p ∈ l,Rch fol (-1) p→p ∈ S∨p ∈ pend
 back : ∀ a,Dm fol h a→h ∈ fol a→a ∈ S∨a ∈ pend
 head:h ∈ S
 neh:n≠h
theorem LoopI.take {fol:Nat→List Nat} {h:Nat} {S pend rest:List Nat} {n:Nat} (hI:LoopI fol h S pend) (hp : ∀ x,x ∈ pend↔x=n∨x ∈ rest) (hn:n ∉ S):LoopJ fol h (S++[n]) rest n []:=by
 have hin:=hI.okp n ((hp n).2 (.inl rfl))
 have hh:=hI.head hin.1
 have hne:n≠h:=fun e=>hn (by rw [e]; exact hh)
 have up : ∀ {p},p ∈ S∨p ∈ pend→p ∈ S++[n]∨p ∈ rest:=fun {p} w=>w.elim (fun q => .inl (by simp [q])) fun q=>((hp p).1 q).elim (fun e => .inl (by simp [e])) .inr
 refine ⟨?_,fun x hx => ?_,fun x hx=>hI.okp x ((hp x).2 (.inr hx)),fun a ha h1 h2 p h3 h4 => ?_,fun p hp=>(by cases hp),fun a h1 h2=>up (hI.back a h1 h2),by simp [hh],hne⟩
 ·exact List.nodup_append.2 ⟨hI.nd,by simp,fun a ha b hb=>by rw [List.mem_singleton.1 hb]; exact fun e=>hn (e ▸ ha)⟩
 ·rcases List.mem_append.1 hx with q | q
  ·exact hI.ok x q
  ·rw [List.mem_singleton.1 q]; exact hin
 ·rcases List.mem_append.1 ha with q | q
  ·exact up (hI.clos a q h1 p h3 h4)
  ·exact absurd (List.mem_singleton.1 q) h2
theorem LoopJ.skip {fol:Nat→List Nat} {h:Nat} {S pend l:List Nat} {n p:Nat} (hJ:LoopJ fol h S pend n l) (hp : ¬ Rch fol (-1) p):LoopJ fol h S pend n (l++[p]) :=
 ⟨hJ.nd,hJ.ok,hJ.okp,hJ.clos,fun q hq hr=>by
   rcases List.mem_append.1 hq with w | w
   ·exact hJ.cur q w hr
   ·rw [List.mem_singleton.1 w] at hr; exact absurd hr hp,hJ.back,hJ.head,hJ.neh⟩
theorem LoopJ.push {fol:Nat→List Nat} {h:Nat} {S pend pend' l:List Nat} {n p:Nat} (hJ:LoopJ fol h S pend n l) (hnS:n ∈ S) (hp:Rch fol (-1) p) (hnp:n ∈ fol p) (hm : ∀ x,x ∈ pend'↔x=p∨x ∈ pend):LoopJ fol h S pend' n (l++[p]):=by
 have up : ∀ {q},q ∈ S∨q ∈ pend→q ∈ S∨q ∈ pend':=fun {q} w=>w.imp id fun e=>(hm q).2 (.inr e)
 refine ⟨hJ.nd,hJ.ok,fun x hx => ?_,fun a ha h1 h2 q h3 h4=>up (hJ.clos a ha h1 h2 q h3 h4),fun q hq hr => ?_,fun a h1 h2=>up (hJ.back a h1 h2),hJ.head,hJ.neh⟩
 ·rcases (hm x).1 hx with rfl | q
  ·have hin:=hJ.ok n hnS
   have hl:=hin.2.resolve_left hJ.neh
   by_cases e:x=h
   ·exact ⟨hin.1,.inl e⟩
   ·exact ⟨hin.1,.inr (.pre hl hnp hp e)⟩
  ·exact hJ.okp x q
 ·rcases List.mem_append.1 hq with w | w
  ·exact up (hJ.cur q w hr)
  ·exact .inr ((hm q).2 (.inl (List.mem_singleton.1 w)))
theorem LoopJ.fin {fol:Nat→List Nat} {N h:Nat} {S pend:List Nat} {n:Nat} (hf : ∀ a,∀ b ∈ fol a,b<N) (hfd : ∀ a,N≤a→fol a=[]) (hJ:LoopJ fol h S pend n (aheadN fol N n)):LoopI fol h S pend:=by
 refine ⟨hJ.nd,hJ.ok,hJ.okp,fun a ha h1 p h2 h3 => ?_,hJ.back,fun _=>hJ.head⟩
 by_cases e:a=n
 ·subst e
  refine hJ.cur p (mem_aheadN.2 ⟨?_,h2⟩) h3
  refine Classical.byContradiction fun w => ?_
  rw [hfd p (by omega)] at h2
  cases h2
 ·exact hJ.clos a ha h1 e p h2 h3
structure LoopB (fol:Nat→List Nat) (h:Nat) (S pend l:List Nat):Prop where
 s:S=[]∧pend=[]∨S=[h]∧pend≠[]
 ok : ∀ x ∈ pend,Dm fol h x∧h ∈ fol x
 all : ∀ a ∈ l,Dm fol h a→a ∈ pend
theorem LoopB.start (fol:Nat→List Nat) (h:Nat):LoopB fol h [] [] []:=⟨.inl ⟨rfl,rfl⟩,fun _ h=>(by cases h),fun _ h=>(by cases h)⟩
theorem LoopB.skip {fol:Nat→List Nat} {h:Nat} {S pend l:List Nat} {p:Nat} (hB:LoopB fol h S pend l) (hp : ¬ Dm fol h p):LoopB fol h S pend (l++[p]) :=
 ⟨hB.s,hB.ok,fun a ha hd=>by
   rcases List.mem_append.1 ha with q | q
   ·exact hB.all a q hd
   ·rw [List.mem_singleton.1 q] at hd; exact absurd hd hp⟩
theorem LoopB.push {fol:Nat→List Nat} {h:Nat} {S pend l:List Nat} {p:Nat} (hB:LoopB fol h S pend l) (hp:Dm fol h p) (hh:h ∈ fol p):LoopB fol h [h] (pend++[p]) (l++[p]):=by
 refine ⟨.inr ⟨rfl,by simp⟩,fun x hx => ?_,fun a ha hd => ?_⟩
 ·rcases List.mem_append.1 hx with q | q
  ·exact hB.ok x q
  ·rw [List.mem_singleton.1 q]; exact ⟨hp,hh⟩
 ·rcases List.mem_append.1 ha with q | q
  ·simp [hB.all a q hd]
  ·simp [List.mem_singleton.1 q]
theorem LoopB.fin {fol:Nat→List Nat} {N h:Nat} {S pend:List Nat} (hfd : ∀ a,N≤a→fol a=[]) (hB:LoopB fol h S pend (aheadN fol N h)):LoopI fol h S pend:=by
 have hall : ∀ a,Dm fol h a→h ∈ fol a→a ∈ pend:=fun a h1 h2=>by
  have hlt:a<N:=by
   refine Classical.byContradiction fun w => ?_
   rw [hfd a (by omega)] at h2
   cases h2
  exact hB.all a (mem_aheadN.2 ⟨hlt,h2⟩) h1
 rcases hB.s with ⟨rfl,rfl⟩ | ⟨rfl,hb⟩
 ·refine ⟨by simp,fun _ h=>(by cases h),fun _ h=>(by cases h),fun _ h=>(by cases h),fun a h1 h2 => .inr (hall a h1 h2),fun ⟨a,h1,h2⟩=>(by cases hall a h1 h2)⟩
 ·obtain ⟨a,ha⟩:=List.exists_mem_of_ne_nil pend hb
  have hbk:HasBack fol h:=⟨a,hB.ok a ha⟩
  refine ⟨by simp,fun x hx=>⟨hbk,.inl (List.mem_singleton.1 hx)⟩,fun x hx=>⟨hbk,?_⟩,fun a ha hne=>absurd (List.mem_singleton.1 ha) hne,fun a h1 h2 => .inr (hall a h1 h2),fun _=>by simp⟩
  by_cases e:x=h
  ·exact .inl e
  ·exact .inr (.back (hB.ok x hx).1 (hB.ok x hx).2 e)
theorem filter_lt {α:Type} {p q:α→Bool} : ∀ {l:List α},(∀ x ∈ l,p x=true→q x=true)→(∃ x ∈ l,q x=true∧p x=false)→(l.filter p).length<(l.filter q).length
 | [],_,h=>by obtain ⟨x,hx,_⟩:=h; cases hx
 | x::l,h,he=>by
  have hle:(l.filter p).length≤(l.filter q).length:=by
   have : ∀ l:List α,(∀ x ∈ l,p x=true→q x=true)→(l.filter p).length≤(l.filter q).length:=by
    intro l
    induction l with
    | nil=>intro _; exact Nat.le_refl _
    | cons y l ih =>
     intro h
     have:=ih fun x hx=>h x (.tail _ hx)
     have h2:=h y (.head _)
     cases hp:p y <;> cases hq:q y <;> simp [hp,hq] at h2 ⊢ <;> omega
   exact this l fun x hx=>h x (.tail _ hx)
  have h2:=h x (.head _)
  obtain ⟨y,hy,h3,h4⟩:=he
  rcases List.mem_cons.1 hy with rfl | hy
  ·simp [h3,h4]; omega
  ·have:=filter_lt (p:=p) (q:=q) (l:=l) (fun x hx=>h x (.tail _ hx)) ⟨y,hy,h3,h4⟩
   cases hp:p x <;> cases hq:q x <;> simp [hp,hq] at h2 ⊢ <;> omega
open Classical in
noncomputable def rankD (fol:Nat→List Nat) (N n:Nat):Nat:=((List.range N).filter fun a=>decide (Dm fol a n)).length
theorem rank_lt {fol:Nat→List Nat} {N n a:Nat} (hn:n<N) (ha:a≠n) (h:Dm fol a n):rankD fol N a<rankD fol N n:=by
 classical
 refine filter_lt (fun x _ hx=>decide_eq_true ((of_decide_eq_true hx).trans h)) ⟨n,List.mem_range.2 hn,decide_eq_true (dm_refl h.2.1),decide_eq_false fun q=>ha (Dm.anti h q)⟩
theorem idom_up {fol:Nat→List Nat} {n:Nat} {v:Int} (hv:IsIdom fol n v) (hr:Rch fol (-1) n):(v = -1 ∧ ∀ h,Dm fol h n↔h=n) ∨ ∃ a:Nat,v=a∧a≠n∧Dm fol a n ∧ ∀ h,Dm fol h n↔h=n∨Dm fol h a:=by
 rcases hv with ⟨rfl,h | h⟩ | ⟨h0,a,rfl,ha,hd,hm⟩
 ·subst h
  refine .inl ⟨rfl,fun h=>⟨fun q=>Classical.byContradiction fun w=>not_dm_zero w q,fun e => ?_⟩⟩
  rw [e]; exact dm_refl hr
 ·exact absurd hr h
 ·refine .inr ⟨a,rfl,ha,hd,fun h=>⟨fun q => ?_,fun q => ?_⟩⟩
  ·by_cases e:h=n
   ·exact .inl e
   ·exact .inr (hm h e q)
  ·rcases q with rfl | q
   ·exact dm_refl hr
   ·exact q.trans hd
end Go.Proofs.YthboippafkcoiaaGreatDoor.am
namespace Go.Proofs.YthboippafkcoiaaGreatDoor.am
set_option linter.all false
def outS (D:Nat→Nat) (S seen:List Nat) (N:Nat):List Nat:=(List.range N).map fun n=>D n+(seen.any fun i=>S[i]? == some n).toNat
theorem outS_len (D:Nat→Nat) (S seen:List Nat) (N:Nat):(outS D S seen N).length=N:=by simp [outS]
theorem outS_at {D:Nat→Nat} {S seen:List Nat} {N n:Nat} (h:n<N):(outS D S seen N)[n]? = some (D n+(seen.any fun i=>S[i]? == some n).toNat):=by simp [outS,h]
theorem outS_nil (D:Nat→Nat) (S:List Nat) (N:Nat):outS D S [] N=(List.range N).map D:=by simp [outS]
theorem nodup_at2 {S:List Nat} (h:S.Nodup) {i j x:Nat} (h1:S[i]? = some x) (h2:S[j]? = some x):i=j:=by
 have a:=List.getElem?_eq_some_iff.1 h1
 have b:=List.getElem?_eq_some_iff.1 h2
 exact (List.getElem_inj (h₀:=a.1) (h₁:=b.1) h).1 (a.2.trans b.2.symm)
theorem outS_step {D:Nat→Nat} {S seen:List Nat} {N i x:Nat} (hnd:S.Nodup) (hi:S[i]? = some x) (hx:x<N) (hns:i ∉ seen):(outS D S seen N)[x]? = some (D x)∧outS D S (seen++[i]) N=(outS D S seen N).set x (D x+1):=by
 have hno:(seen.any fun k=>S[k]? == some x)=false:=by
  rw [List.any_eq_false]
  intro k hk w
  have hk2:S[k]? = some x:=by simpa using w
  exact hns (nodup_at2 hnd hk2 hi ▸ hk)
 refine ⟨by rw [outS_at hx,hno]; rfl,List.ext_getElem? fun n => ?_⟩
 by_cases hn:n<N
 ·rw [outS_at hn]
  by_cases e:n=x
  ·subst e
   rw [List.getElem?_set_self (by rw [outS_len]; exact hn),List.any_append,hno,List.any_cons,List.any_nil,hi]
   simp
  ·rw [List.getElem?_set_ne (fun w=>e w.symm),outS_at hn,List.any_append]
   have:(List.any [i] fun k=>S[k]? == some n)=false:=by
    rw [List.any_cons,List.any_nil,hi,Bool.or_false]
    simpa using fun w=>e w.symm
   rw [this,Bool.or_false]
 ·rw [List.getElem?_eq_none (by rw [outS_len]; omega),List.getElem?_eq_none (by rw [List.length_set,outS_len]; omega)]
theorem outS_fin {fol:Nat→List Nat} {h N:Nat} {S seen:List Nat} (hS : ∀ x,x ∈ S↔InLoop fol h x) (hall : ∀ i,i<S.length→i ∈ seen):outS (depthN fol h) S seen N=depthI fol N (h+1):=by
 classical
 unfold outS depthI
 refine List.map_congr_left fun n _ => ?_
 rw [depthN_succ]
 congr 1
 by_cases hn:InLoop fol h n
 ·rw [if_pos hn]
  obtain ⟨i,hi,e⟩:=List.mem_iff_getElem.1 ((hS n).2 hn)
  have:(seen.any fun k=>S[k]? == some n)=true:=by
   rw [List.any_eq_true]
   exact ⟨i,hall i hi,by rw [List.getElem?_eq_getElem hi,e]; simp⟩
  rw [this]; rfl
 ·rw [if_neg hn]
  have:(seen.any fun k=>S[k]? == some n)=false:=by
   rw [List.any_eq_false]
   intro k _ w
   have hk:S[k]? = some n:=by simpa using w
   exact hn ((hS n).1 (List.mem_of_getElem? hk))
  rw [this]; rfl
theorem not_loop {fol:Nat→List Nat} {h:Nat} (hr : ¬ Rch fol (-1) h) (n:Nat) : ¬ InLoop fol h n:=fun q=>by
 obtain ⟨⟨a,h1,_⟩,_⟩:=q
 exact hr h1.1
end Go.Proofs.YthboippafkcoiaaGreatDoor.am
