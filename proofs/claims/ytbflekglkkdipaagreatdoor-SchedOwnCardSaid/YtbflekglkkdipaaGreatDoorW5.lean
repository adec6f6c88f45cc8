/- The abstract machine over states that stand as lists: its values are reckoned at once, so terms stay small. The abstract machine: calls in full. -/
import Derived.Test.YtbflekglkkdipaaGreatDoorW4
import Derived.LoopN
import Derived.Test.YtbflekglkkdipaaGreatDoorW1
import Derived.WalkKit
set_option linter.all false
namespace Go.Proofs.YtbflekglkkdipaaGreatDoor.am
open Go
set_option linter.unusedSimpArgs false
structure LS where
 tl:List (Nat × AV)
 bl:List (Nat × Option Blk)
 nx:Nat
def lkM (bl:List (Nat × Option Blk)):Mem:=fun h=>(lk bl h).join
def LS.st (s:LS):AS:=⟨lk s.tl,lkM s.bl,s.nx⟩
def fV (x:Value) (K:Value→Prop):Prop:=match x with
 | .int k n=>K (.int k n)
 | .bool b=>K (.bool b)
 | .string s=>K (.string s)
 | x=>K x
theorem fV_eq (x:Value) (K:Value→Prop):fV x K=K x:=by cases x <;> rfl
def fTr (t:Tr) (K:Tr→Prop):Prop:=match t with
 | .v x=>fV x fun x=>K (.v x)
 | .lst n B rows=>K (.lst n B rows)
theorem fTr_eq (t:Tr) (K:Tr→Prop):fTr t K=K t:=by
 cases t with
 | v x=>exact fV_eq x fun x=>K (.v x)
 | lst n B rows=>rfl
def fA1 (a:AV) (K:AV→Prop):Prop:=match a with
 | .tr t=>fTr t fun t=>K (.tr t)
 | a=>K a
theorem fA1_eq (a:AV) (K:AV→Prop):fA1 a K=K a:=by
 cases a with
 | tr t=>exact fTr_eq t fun t=>K (.tr t)
 | _=>rfl
def fL:List AV→(List AV→Prop)→Prop
 | [],K=>K []
 | a::l,K=>fL l fun l=>fA1 a fun a=>K (a::l)
theorem fL_eq : ∀ (l:List AV) (K:List AV→Prop),fL l K=K l
 | [],K=>rfl
 | a::l,K=>by unfold fL; rw [fL_eq l,fA1_eq]
def fA (a:AV) (K:AV→Prop):Prop:=match a with
 | .tr t=>fTr t fun t=>K (.tr t)
 | .agg l=>fL l fun l=>K (.agg l)
 | .tup l=>fL l fun l=>K (.tup l)
 | a=>K a
theorem fA_eq (a:AV) (K:AV→Prop):fA a K=K a:=by
 cases a with
 | tr t=>exact fTr_eq t fun t=>K (.tr t)
 | agg l=>exact fL_eq l fun l=>K (.agg l)
 | tup l=>exact fL_eq l fun l=>K (.tup l)
 | _=>rfl
def fB (b:Option Blk) (K:Option Blk→Prop):Prop:=match b with
 | none=>K none
 | some (.cells t l)=>fL l fun l=>K (some (.cells t l))
 | some b=>K (some b)
theorem fB_eq (b:Option Blk) (K:Option Blk→Prop):fB b K=K b:=by
 rcases b with _ | b
 ·rfl
 ·cases b with
  | cells t l=>exact fL_eq l fun l=>K (some (.cells t l))
  | _=>rfl
def fN (n:Nat) (K:Nat→Prop):Prop:=match n with
 | 0=>K 0
 | k+1=>K (k+1)
theorem fN_eq (n:Nat) (K:Nat→Prop):fN n K=K n:=by cases n <;> rfl
def putL (tl:List (Nat × AV)) (dst:Option Nat) (a:AV) (K:List (Nat × AV)→Prop):Prop:=match dst with
 | some d=>fA a fun a=>K ((d,a)::tl)
 | none=>K tl
def putLs (tl:List (Nat × AV)) (dst:Option Nat) (a:AV):List (Nat × AV):=match dst with
 | some d=>(d,a)::tl
 | none=>tl
theorem putL_eq (tl:List (Nat × AV)) (dst:Option Nat) (a:AV) (K:List (Nat × AV)→Prop):putL tl dst a K=K (putLs tl dst a):=by
 cases dst with
 | none=>rfl
 | some d=>exact fA_eq a fun a=>K ((d,a)::tl)
theorem beq_comm' (a b:Nat):Nat.beq a b=Nat.beq b a:=by
 cases h:Nat.beq a b with
 | true=>rw [Nat.eq_of_beq_eq_true h,Nat.beq_refl]
 | false=>cases h':Nat.beq b a with
  | false=>rfl
  | true=>rw [Nat.eq_of_beq_eq_true h',Nat.beq_refl] at h; cases h
theorem putLs_lk (tl:List (Nat × AV)) (dst:Option Nat) (a:AV):lk (putLs tl dst a)=putA (lk tl) dst a:=by
 cases dst with
 | none=>rfl
 | some d=>funext i; show (bif Nat.beq d i then some a else lk tl i)=_; rw [beq_comm']; rfl
def putM:List (Nat × Option Blk)→List (Nat × Option Blk)→(List (Nat × Option Blk)→Prop)→Prop
 | [],bl,K=>K bl
 | (h,b)::r,bl,K=>putM r bl fun bl=>fB b fun b=>K ((h,b)::bl)
theorem putM_eq : ∀ (up bl:List (Nat × Option Blk)) (K:List (Nat × Option Blk)→Prop),putM up bl K=K (up++bl)
 | [],bl,K=>rfl
 | (h,b)::r,bl,K=>by unfold putM; rw [putM_eq r,fB_eq]; rfl
theorem lk_app2 {α:Type} : ∀ (l r:List (Nat × α)) (h:Nat),lk (l++r) h=match lk l h with | some x=>some x | none=>lk r h
 | [],r,h=>rfl
 | (k,x)::l,r,h=>by
   show (bif Nat.beq k h then some x else lk (l++r) h)=_
   rw [lk_app2 l r h,lk_cons]
   cases Nat.beq k h <;> rfl
theorem lkM_append (up bl:List (Nat × Option Blk)):lkM (up++bl)=updM (lkM bl) up:=by
 funext h
 unfold lkM updM
 rw [lk_app2]
 cases lk up h <;> rfl
def knowL (ops:Array Oper) (tl:List (Nat × AV)) (j:Nat) (b:Bool):List (Nat × AV):=match ops[j]? with | some o=>(match o.dst with | some d=>(d,.tr (.v (.bool b)))::tl | none=>tl) | none=>tl
theorem knowL_lk (ops:Array Oper) (tl:List (Nat × AV)) (j:Nat) (b:Bool):lk (knowL ops tl j b)=gknow ops (lk tl) j b:=by
 unfold knowL gknow
 cases ops[j]? with
 | none=>rfl
 | some o=>cases hd:o.dst with
  | none=>simp only [hd]
  | some d=>simp only [hd]; exact putLs_lk tl (some d) _
def fLt (l:List (Nat × AV)) (K:List (Nat × AV)→Prop):Prop:=match l with
 | []=>K []
 | p::r=>K (p::r)
theorem fLt_eq (l:List (Nat × AV)) (K:List (Nat × AV)→Prop):fLt l K=K l:=by cases l <;> rfl
abbrev QL:=AX→LS→Prop
abbrev RL:=Nat→List (Nat × AV)→List (Nat × Option Blk)→Prop
def aopL (P:Program) (T:Ty) (N:Nat) (ops:Array Oper) (nh:Nat) (Q:QL) (o:Oper) (rest:RL):RL:=fun i tl bl =>
 bif dstOk N o.dst then
   (match o.guard with
   | none=>astep P T true o (nh+i) (evA (lk tl)) (lkM bl) (fun a _ up=>putL tl o.dst a fun tl=>putM up bl fun bl=>rest (i+1) tl bl) (fun a _ up=>putM up bl fun bl=>Q (.pan a) ⟨tl,bl,nh+i+1⟩)
   | some (j,want)=>match gval ops (lk tl) j with
    | some .und=>putL tl o.dst .und fun tl=>rest (i+1) tl bl
    | some (.tr (.v (.bool y)))=>cond y
      (fLt (knowL ops tl j true) fun tl=>gdo want (astep P T true o (nh+i) (evA (lk tl)) (lkM bl) (fun a _ up=>putL tl o.dst a fun tl=>putM up bl fun bl=>rest (i+1) tl bl) (fun a _ up=>putM up bl fun bl=>Q (.pan a) ⟨tl,bl,nh+i+1⟩))
       (putL tl o.dst .und fun tl=>rest (i+1) tl bl))
      (fLt (knowL ops tl j false) fun tl=>gdo (!want) (astep P T true o (nh+i) (evA (lk tl)) (lkM bl) (fun a _ up=>putL tl o.dst a fun tl=>putM up bl fun bl=>rest (i+1) tl bl) (fun a _ up=>putM up bl fun bl=>Q (.pan a) ⟨tl,bl,nh+i+1⟩))
       (putL tl o.dst .und fun tl=>rest (i+1) tl bl))
    | _=>False) else False
noncomputable def aopsL (P:Program) (T:Ty) (N:Nat) (ops:Array Oper) (nh:Nat) (Q:QL) (l:List Oper):RL :=
 List.rec (motive:=fun _=>RL) (fun i tl bl=>fN (nh+i) fun n=>Q .normal ⟨tl,bl,n⟩) (fun o _ ih=>aopL P T N ops nh Q o ih) l
theorem aopsL_nil (P:Program) (T:Ty) (N:Nat) (ops:Array Oper) (nh:Nat) (Q:QL) (i:Nat) (tl:List (Nat × AV)) (bl:List (Nat × Option Blk)):aopsL P T N ops nh Q [] i tl bl=fN (nh+i) fun n=>Q .normal ⟨tl,bl,n⟩:=rfl
theorem aopsL_cons (P:Program) (T:Ty) (N:Nat) (ops:Array Oper) (nh:Nat) (Q:QL) (o:Oper) (l:List Oper) (i:Nat) (tl:List (Nat × AV)) (bl:List (Nat × Option Blk)):aopsL P T N ops nh Q (o::l) i tl bl=aopL P T N ops nh Q o (aopsL P T N ops nh Q l) i tl bl:=rfl
def Ql (Q:QL):AX→AS→Prop:=fun x s => ∃ l:LS,l.st=s∧Q x l
section
variable {X:Gh→World→Prop} {P:Program} {T:Ty} {k N:Nat} {ops:Array Oper} {g0:Gh} {w0:World}
theorem aopsL_sound (hT:TOk P T) (nh:Nat) (Q:QL) : ∀ (l:List Oper) (i:Nat) (tl:List (Nat × AV)) (bl:List (Nat × Option Blk)) (g:Gh) (act:Act) (w:World),nh+(i+l.length)≤HMod→aopsL P T N ops nh Q l i tl bl→StR g0 w0 N (nh+i) g act w (lk tl) (lkM bl)→wpList P ops (Post g0 w0 N (Ql Q)) l act w:=by
 intro l
 induction l with
 | nil =>
  intro i tl bl g act w _ h hs
  rw [aopsL_nil,fN_eq] at h
  exact ⟨.normal,_,g,⟨_,rfl,h⟩,⟨hs.size,hs.defers,hs.fr,hs.mem,hs.un,hs.grow⟩,trivial⟩
 | cons o r ih =>
  intro i tl bl g act w hb h hs
  rw [List.length_cons] at hb
  have hnb:nh+i<HMod:=by omega
  rw [aopsL_cons] at h
  unfold aopL at h
  cases hd:dstOk N o.dst with
  | false=>rw [hd] at h; exact h.elim
  | true =>
  rw [hd,cond_true] at h
  simp only [putL_eq,putM_eq,fLt_eq] at h
  have run : ∀ (tl:List (Nat × AV)),(∀ i a,lk tl i=some a→i<N∧Rep g w (act.tmps.getD i undef) a)→astep P T true o (nh+i) (evA (lk tl)) (lkM bl) (fun a _ up=>aopsL P T N ops nh Q r (i+1) (putLs tl o.dst a) (up++bl)) (fun a _ up=>Q (.pan a) ⟨tl,up++bl,nh+i+1⟩)→o.wp P act w (wpList P ops (Post g0 w0 N (Ql Q)) r) (Post g0 w0 N (Ql Q)):=by
   intro tl hf h
   rcases astep_ok hnb hT h with ⟨a,rd,up,hK,hru,hw⟩ | ⟨a,rd,up,hK,hru,hw⟩
   ·refine hw g w (lkM bl) act _ _ hs.mem (fun k hk=>hs.un k (Nat.le_of_eq hk.symm)) hru.1 (evA_ok hf) (fun _ v w' g' e1 e2 e3 e4 => ?_) (fun h=>by cases h)
    obtain ⟨p1,p2⟩:=put_ok (dst:=o.dst) hs.size hf e3 hd e1
    refine ih (i+1) (putLs tl o.dst a) (up++bl) g' _ w' (by omega) (hK fun _=>⟨g',w',v,e1⟩) ⟨p1,(put_defers ..).trans hs.defers,?_,?_,fun h hh=>e4 h (by omega) (hs.un h (by omega)),hs.grow.trans e3⟩
    ·rw [putLs_lk]; exact p2
    ·rw [lkM_append]; exact e2
   ·refine hw g w (lkM bl) act _ _ hs.mem (fun k hk=>hs.un k (Nat.le_of_eq hk.symm)) hru.1 (evA_ok hf) (fun h=>by cases h) (fun _ v w' g' e1 e2 e3 e4 => ?_)
    exact ⟨.pan a,_,g',⟨_,rfl,hK fun _=>⟨g',w',v,e1⟩⟩,⟨hs.size,hs.defers,fun i b hb=>⟨(hf i b hb).1,((hf i b hb).2).grow e3⟩,by show MSt g' w' (lkM (up++bl)); rw [lkM_append]; exact e2,fun h (hh:nh+i+1≤h % HMod)=>e4 h (by omega) (hs.un h (by omega)),hs.grow.trans e3⟩,v,rfl,e1⟩
  have skip : ∀ (tl:List (Nat × AV)),(∀ i a,lk tl i=some a→i<N∧Rep g w (act.tmps.getD i undef) a)→aopsL P T N ops nh Q r (i+1) (putLs tl o.dst .und) bl→wpList P ops (Post g0 w0 N (Ql Q)) r (act.put o.dst undef) w:=by
   intro tl hf h
   obtain ⟨p1,p2⟩:=put_ok (dst:=o.dst) (v:=undef) (a := .und) hs.size hf (Grow.refl g w) hd .und
   refine ih (i+1) (putLs tl o.dst .und) bl g _ w (by omega) h ⟨p1,(put_defers ..).trans hs.defers,?_,hs.mem,fun h hh=>hs.un h (by omega),hs.grow⟩
   rw [putLs_lk]; exact p2
  unfold wpList
  split at h
  ·rename_i hg
   rw [if_pos (by simp [Region.wanted,hg])]
   exact .inl (run tl hs.fr h)
  ·rename_i j want hg
   split at h
   ·rename_i hv
    have:=(yielded_ok hs.size hs.fr hv).1 rfl
    rw [if_neg (by simp [Region.wanted,hg,this])]
    exact skip tl hs.fr h
   ·rename_i y hv
    have hy:=(yielded_ok hs.size hs.fr hv).2 y rfl
    have hk:=gknow_ok hs.fr hv
    rw [← knowL_lk] at hk
    cases y <;> cases want <;> simp only [cond_true,cond_false,Bool.not_true,Bool.not_false,gdo] at h
    ·rw [if_pos (by simp [Region.wanted,hg,hy])]; exact .inl (run _ hk h)
    ·rw [if_neg (by simp [Region.wanted,hg,hy])]; exact skip _ hk h
    ·rw [if_neg (by simp [Region.wanted,hg,hy])]; exact skip _ hk h
    ·rw [if_pos (by simp [Region.wanted,hg,hy])]; exact .inl (run _ hk h)
   ·exact h.elim
abbrev RF:=Nat→List (Nat × AV)→List (Nat × Option Blk)→List Ft→Prop
def lastOk (ops:Array Oper):Bool:=(List.range (ops.size - 1)).all fun j=>bef ops ops.size (ops.size - 1) j
def adrwL (P:Program) (T:Ty) (N:Nat) (ops:Array Oper) (nh:Nat) (QP:QL) (o:Oper) (last:Bool) (rest:RF):RF:=fun i tl bl acc =>
 bif dstOk N o.dst then
   (match o.guard with
   | none=>astep P T false o (nh+i) (evR ops o (lk tl)) (lkM bl) (fun a rd up=>putL tl o.dst a fun tl=>putM up bl fun bl=>rest (i+1) tl bl (acc++[⟨rd.map (·.1),up.map (·.1)⟩]))
     (fun a rd up=>gdo last (lastOk ops=true∧drawOk ops (acc++[⟨rd.map (·.1),up.map (·.1)⟩])=true∧putM up bl fun bl=>QP (.pan a) ⟨tl,bl,nh+i+1⟩) False)
   | some (j,want)=>match gval ops (lk tl) j with
    | some .und=>putL tl o.dst .und fun tl=>rest (i+1) tl bl (acc++[⟨[],[]⟩])
    | some (.tr (.v (.bool y)))=>cond y (gdo want (astep P T false o (nh+i) (evR ops o (lk tl)) (lkM bl) (fun a rd up=>putL tl o.dst a fun tl=>putM up bl fun bl=>rest (i+1) tl bl (acc++[⟨rd.map (·.1),up.map (·.1)⟩])) (fun _ _ _=>False)) (putL tl o.dst .und fun tl=>rest (i+1) tl bl (acc++[⟨[],[]⟩])))
      (gdo (!want) (astep P T false o (nh+i) (evR ops o (lk tl)) (lkM bl) (fun a rd up=>putL tl o.dst a fun tl=>putM up bl fun bl=>rest (i+1) tl bl (acc++[⟨rd.map (·.1),up.map (·.1)⟩])) (fun _ _ _=>False)) (putL tl o.dst .und fun tl=>rest (i+1) tl bl (acc++[⟨[],[]⟩])))
    | _=>False) else False
noncomputable def adrawsL (P:Program) (T:Ty) (N:Nat) (ops:Array Oper) (nh:Nat) (Q:LS→Prop) (QP:QL) (l:List Oper):RF :=
 List.rec (motive:=fun _=>RF) (fun i tl bl acc=>drawOk ops acc=true∧fN (nh+i) fun n=>Q ⟨tl,bl,n⟩) (fun o r ih=>adrwL P T N ops nh QP o r.isEmpty ih) l
theorem adrawsL_nil (P:Program) (T:Ty) (N:Nat) (ops:Array Oper) (nh:Nat) (Q:LS→Prop) (QP:QL) (i:Nat) (tl:List (Nat × AV)) (bl:List (Nat × Option Blk)) (acc:List Ft):adrawsL P T N ops nh Q QP [] i tl bl acc=(drawOk ops acc=true∧fN (nh+i) fun n=>Q ⟨tl,bl,n⟩):=rfl
theorem adrawsL_cons (P:Program) (T:Ty) (N:Nat) (ops:Array Oper) (nh:Nat) (Q:LS→Prop) (QP:QL) (o:Oper) (l:List Oper) (i:Nat) (tl:List (Nat × AV)) (bl:List (Nat × Option Blk)) (acc:List Ft):adrawsL P T N ops nh Q QP (o::l) i tl bl acc=adrwL P T N ops nh QP o l.isEmpty (adrawsL P T N ops nh Q QP l) i tl bl acc:=rfl
theorem st_put (tl:List (Nat × AV)) (bl:List (Nat × Option Blk)) (n:Nat) (dst:Option Nat) (a:AV) (up:List (Nat × Option Blk)):(LS.st ⟨putLs tl dst a,up++bl,n⟩)=(LS.st ⟨tl,bl,n⟩).put dst a up:=by
 unfold LS.st AS.put
 simp only [putLs_lk,lkM_append]
def DrEnd (P:Program) (N:Nat) (ops:Array Oper) (nh:Nat) (Q:LS→Prop) (QP:QL) (l:List Oper) (i:Nat) (s:AS) (acc:List Ft):Prop :=
 (∃ cs sf,Recs P N ops nh l i s cs sf∧drawOk ops (acc++cs.map Rc.ft)=true ∧ ∃ ls:LS,ls.st = { sf with nx:=nh+(i+l.length) }∧Q ls) ∨
 ∃ pre o cs c sf,l=pre++[o]∧Recs P N ops nh pre i s cs sf∧dstOk N o.dst=true∧wants ops sf.t o true∧RdUp sf.m (nh+(i+pre.length)) c.rd c.up ∧
  WStep P o (nh+(i+pre.length)) (evR ops o sf.t) c.rd c.up c.a true∧c.run=true∧lastOk ops=true∧drawOk ops (acc++(cs++[c]).map Rc.ft)=true ∧
  ∃ ls:LS,ls.st=⟨sf.t,updM sf.m c.up,nh+(i+pre.length)+1⟩∧QP (.pan c.a) ls
theorem DrEnd.cons {nh:Nat} {Q:LS→Prop} {QP:QL} {o:Oper} {r:List Oper} {i:Nat} {s:AS} {acc:List Ft} {c:Rc} (h:DrEnd P N ops nh Q QP r (i+1) (s.put o.dst c.a c.up) (acc++[c.ft]))
  (hd:dstOk N o.dst=true) (hw:wants ops s.t o c.run) (hru:RdUp s.m (nh+i) c.rd c.up) (h1:c.run=true→WStep P o (nh+i) (evR ops o s.t) c.rd c.up c.a false) (h2:c.run=false→c.a = .und∧c.up=[]) :
  DrEnd P N ops nh Q QP (o::r) i s acc:=by
 rcases h with ⟨cs,sf,q1,q2,ls,q3,q4⟩ | ⟨pre,o',cs,c',sf,rfl,q1,q2,q3,q4,q5,q6,q7,q8,ls,q9,q10⟩
 ·refine .inl ⟨c::cs,sf,⟨hd,hw,hru,h1,h2,q1⟩,by simpa using q2,ls,?_,q4⟩
  rw [q3,List.length_cons,show i+1+r.length=i+(r.length+1) by omega]
 ·have e:i+1+pre.length=i+(o::pre).length:=by rw [List.length_cons]; omega
  rw [e] at q4 q5 q9
  exact .inr ⟨o::pre,o',c::cs,c',sf,rfl,⟨hd,hw,hru,h1,h2,q1⟩,q2,q3,q4,q5,q6,q7,by simpa using q8,ls,q9,q10⟩
theorem adrawsL_recs (hT:TOk P T) (nh:Nat) (Q:LS→Prop) (QP:QL) (n:Nat) : ∀ (l:List Oper) (i:Nat) (tl:List (Nat × AV)) (bl:List (Nat × Option Blk)) (acc:List Ft),nh+(i+l.length)≤HMod→adrawsL P T N ops nh Q QP l i tl bl acc→DrEnd P N ops nh Q QP l i (LS.st ⟨tl,bl,n⟩) acc:=by
 intro l
 induction l with
 | nil =>
  intro i tl bl acc _ h
  rw [adrawsL_nil,fN_eq] at h
  exact .inl ⟨[],_,rfl,by simpa using h.1,_,rfl,h.2⟩
 | cons o r ih =>
  intro i tl bl acc hb h
  rw [List.length_cons] at hb
  have hnb:nh+i<HMod:=by omega
  rw [adrawsL_cons] at h
  unfold adrwL at h
  cases hd:dstOk N o.dst with
  | false=>rw [hd] at h; exact h.elim
  | true =>
  rw [hd,cond_true] at h
  simp only [putL_eq,putM_eq] at h
  have run : ∀ (Pn:KK),(∀ a rd up,Pn a rd up→r=[]∧lastOk ops=true∧drawOk ops (acc++[⟨rd.map (·.1),up.map (·.1)⟩])=true∧QP (.pan a) ⟨tl,up++bl,nh+i+1⟩) →
    astep P T false o (nh+i) (evR ops o (lk tl)) (lkM bl) (fun a rd up=>adrawsL P T N ops nh Q QP r (i+1) (putLs tl o.dst a) (up++bl) (acc++[⟨rd.map (·.1),up.map (·.1)⟩])) Pn→wants ops (lk tl) o true →
    DrEnd P N ops nh Q QP (o::r) i (LS.st ⟨tl,bl,n⟩) acc:=by
   intro Pn hPn h hw
   rcases astep_ok hnb hT h with ⟨a,rd,up,hK,hru,hws⟩ | ⟨a,rd,up,hK,hru,hws⟩
   ·have h1:=ih (i+1) _ _ _ (by omega) (hK (fun h=>by cases h))
    rw [st_put] at h1
    exact DrEnd.cons (c:=⟨a,rd,up,true⟩) h1 hd hw hru (fun _=>hws) (fun h=>by cases h)
   ·obtain ⟨rfl,h1,h2,h3⟩:=hPn _ _ _ (hK (fun h=>by cases h))
    refine .inr ⟨[],o,[],⟨a,rd,up,true⟩,_,rfl,rfl,hd,hw,hru,hws,rfl,h1,h2,_,?_,h3⟩
    show (⟨lk tl,lkM (up++bl),nh+i+1⟩:AS)=⟨lk tl,updM (lkM bl) up,nh+(i+0)+1⟩
    rw [lkM_append]; rfl
  have skip:adrawsL P T N ops nh Q QP r (i+1) (putLs tl o.dst .und) bl (acc++[⟨[],[]⟩])→wants ops (lk tl) o false→DrEnd P N ops nh Q QP (o::r) i (LS.st ⟨tl,bl,n⟩) acc:=by
   intro h hw
   have h1:=ih (i+1) _ _ _ (by omega) h
   rw [show LS.st ⟨putLs tl o.dst .und,bl,n⟩=(LS.st ⟨tl,bl,n⟩).put o.dst .und [] from st_put tl bl n o.dst .und []] at h1
   exact DrEnd.cons (c:=⟨.und,[],[],false⟩) h1 hd hw ⟨by simp,by simp⟩ (fun h=>by cases h) (fun _=>⟨rfl,rfl⟩)
  split at h
  ·rename_i hg
   refine run _ (fun a rd up hp => ?_) h (by simp [wants,hg])
   cases r with
   | nil=>exact ⟨rfl,hp⟩
   | cons=>exact hp.elim
  ·rename_i j want hg
   split at h
   ·rename_i hv
    exact skip h (by simp [wants,hg,hv])
   ·rename_i y hv
    cases y <;> cases want <;> simp only [cond_true,cond_false,Bool.not_true,Bool.not_false,gdo] at h
    ·exact run _ (fun _ _ _ h=>h.elim) h (by simp [wants,hg,hv])
    ·exact skip h (by simp [wants,hg,hv])
    ·exact skip h (by simp [wants,hg,hv])
    ·exact run _ (fun _ _ _ h=>h.elim) h (by simp [wants,hg,hv])
   ·exact h.elim
noncomputable def adrawL (P:Program) (T:Ty) (N:Nat) (ops:Array Oper) (Q:QL) (s:LS):Prop :=
 adrawsL P T N ops s.nx (fun s'=>SOk s'.st→Q .normal s') Q ops.toList 0 s.tl s.bl []
theorem adrawL_sound (hT:TOk P T) (hmix:P.follows .mixedOrders=true) {Q:QL} {s:LS} (hb:s.nx+ops.size≤HMod) (h:adrawL P T N ops Q s) {g:Gh} {w:World} {act:Act} (hs:St g0 w0 N g act w s.st) {id:Nat}:(Code.region id ops true).wp P (Post g0 w0 N (Ql Q)) act w:=by
 have hInv : ∀ (R:Nat→Rc),Inv g0 w0 N ops s.nx R s.st (fun i=>(Array.replicate ops.size false).getD i true) act { w with drawn:=w.drawn+1 }:=by
  intro R
  refine ⟨hs.size,hs.defers,g,?_⟩
  have e:(List.range ops.size).filter (fun i=>(Array.replicate ops.size false).getD i true)=[]:=by
   rw [List.filter_eq_nil_iff]
   intro k hk
   have:=List.mem_range.1 hk
   simp [Array.getD,this]
  rw [e]
  have hg:Grow g w g { w with drawn:=w.drawn+1 }:=⟨rfl,rfl,rfl,Nat.le_refl _,fun _ _=>rfl,fun _ _=>rfl,rfl,fun _ h=>h,fun _ _ h => .inl h,fun h b e => .inl ⟨h,e⟩⟩
  refine ⟨fun i a ha=>⟨(hs.fr i a ha).1,((hs.fr i a ha).2).grow hg⟩,⟨fun k b hb => ?_,hs.mem.inj,hs.mem.lt,hs.mem.xlt,hs.mem.xl,hs.mem.gl.grow hg⟩,fun h hh _=>hs.un h hh,hs.grow.trans hg⟩
  obtain ⟨l,e1,e2⟩:=hs.mem.blk k b hb
  exact ⟨l,e1,e2.grow hg fun _ _=>rfl⟩
 have hli : ∀ i,i<ops.size→(Array.replicate ops.size false).getD i true=true → ∀ d ∈ deps ops i,(Array.replicate ops.size false).getD d true=true:=fun i hi hl=>by simp [Array.getD,hi] at hl
 refine wp_region_any hmix ?_
 rcases adrawsL_recs hT _ _ _ s.nx _ _ _ _ _ (by simpa using hb) h with ⟨cs,sf,h1,h2,ls,h3,h4⟩ | ⟨pre,o,cs,c,sf,hl,h1,hd,hw,hru,hws,hrun,hlast,h2,ls,h3,h4⟩
 ·obtain ⟨q1,q2,q3⟩:=Recs.at (R:=recAt cs) (s0:=s.st) ops.toList 0 s.st cs sf h1 (fun j=>by simp) (fun j _=>by simp) rfl
  simp only [Nat.zero_add,Array.length_toList] at q1 q2 q3 h3
  refine draw_any (nh:=s.nx) (s0:=s.st) (g0:=g0) (w0:=w0) (N:=N) (by simpa using h2) rfl (fun i o ho=>q3 i o (by simpa using ho)) (fun act w g hst => ?_) ops.size _ act _ (by simp) (Nat.le_trans List.countP_le_length (by simp)) hli (hInv _)
  rw [← q1] at hst
  rw [← h3] at hst
  exact ⟨.normal,_,g,⟨ls,rfl,h4 hst.ok⟩,hst,trivial⟩
 ·have hsz:ops.size=pre.length+1:=by rw [← Array.length_toList,hl]; simp
  have hget : ∀ j:Nat,ops[j]? = (pre++[o])[j]? := fun j=>by
   have e:ops[j]? = ops.toList[j]? := by simp
   rw [e,hl]
  have hcl:cs.length=pre.length:=(Recs.at2 (R:=recAt cs) (s0:=s.st) pre 0 s.st cs sf h1 (fun j o' ho'=>by rw [Nat.zero_add,hget,List.getElem?_append_left (List.getElem?_eq_some_iff.1 ho').1]; exact ho') (fun j _=>by rw [Nat.zero_add]) rfl).2.1
  have hR1 : ∀ j,j<pre.length→recAt (cs++[c]) j=recAt cs j:=fun j hj=>by unfold recAt; rw [List.getD_eq_getElem?_getD,List.getD_eq_getElem?_getD,List.getElem?_append_left (by omega)]
  have hR2:recAt (cs++[c]) pre.length=c:=by unfold recAt; rw [List.getD_eq_getElem?_getD,List.getElem?_append_right (by omega),hcl,Nat.sub_self]; rfl
  obtain ⟨q1,q2,q3⟩:=Recs.at2 (R:=recAt (cs++[c])) (s0:=s.st) pre 0 s.st cs sf h1 (fun j o' ho'=>by rw [Nat.zero_add,hget,List.getElem?_append_left (List.getElem?_eq_some_iff.1 ho').1]; exact ho') (fun j hj=>by rw [Nat.zero_add]; exact hR1 j hj) rfl
  simp only [Nat.zero_add] at q1 q3 hru hws h3
  have hz1:ops.size - 1=pre.length:=by omega
  refine draw_any2 (pz:=true) (nh:=s.nx) (s0:=s.st) (g0:=g0) (w0:=w0) (N:=N) (cs:=cs++[c]) (by simpa using h2) rfl (fun i o' ho' => ?_) (fun _ j hj => ?_) (fun _ act w g a1 a2 a3 a4 a5 a6 v w' g' b1 b2 b3 b4 => ?_) (fun _=>⟨by omega,by rw [hz1,hR2]; exact hrun⟩) (fun _ _ _ h=>by cases h)
   ops.size _ act _ (by simp) (Nat.le_trans List.countP_le_length (by simp)) hli (fun _=>by rw [Array.getD,dif_pos (by simp; omega)]; simp) (hInv _)
  ·rw [hget] at ho'
   by_cases hi:i<pre.length
   ·rw [List.getElem?_append_left hi] at ho'
    have:=q3 i o' ho'
    rw [show (true && Nat.beq (i+1) ops.size)=false by rw [Bool.true_and]; exact beq_ne (by omega)]
    exact this
   ·have hi':i=pre.length:=by
     have:=(List.getElem?_eq_some_iff.1 ho').1
     simp at this
     omega
    subst hi'
    rw [List.getElem?_append_right (Nat.le_refl _),Nat.sub_self] at ho'
    cases ho'
    rw [show (true && Nat.beq (pre.length+1) ops.size)=true by rw [Bool.true_and,hsz,Nat.beq_refl],hR2,← q1]
    exact ⟨hd,by rw [hrun]; exact hw,hru,fun _=>hws,fun h=>by rw [hrun] at h; cases h⟩
  ·unfold lastOk at hlast
   exact List.all_eq_true.1 hlast j (List.mem_range.2 (by omega))
  ·rw [hz1] at a3 a4 a5 b1 b2 b4
   rw [hR2] at b1 b2
   rw [← q1] at a3 a4 b2
   refine ⟨.pan c.a,ls.st,g',⟨ls,rfl,h4⟩,?_,v,rfl,b1⟩
   rw [h3]
   exact ⟨a1,a2,fun i b hb=>⟨(a3 i b hb).1,((a3 i b hb).2).grow b3⟩,b2,fun h (hh:s.nx+pre.length+1≤h % HMod)=>b4 h (by omega) (a5 h (by omega)),a6.trans b3⟩
structure LJ where
 tl:List (Nat × AV)
 bl:List (Nat × Blk)
 nx:Nat
def thnL (next:LS→Prop) (Q:QL):QL
 | .normal,s=>next s
 | x,s=>Q x s
def blkL (id:Nat) (Q:QL):QL
 | .exit i,s=>(i=id→Q .normal s)∧(i≠id→Q (.exit i) s)
 | x,s=>Q x s
def mkL (tl:List (Nat × AV)) (bl:List (Nat × Blk)) (nx:Nat):LS:=⟨tl,bl.map fun p=>(p.1,some p.2),nx⟩
theorem mkL_st (tl:List (Nat × AV)) (bl:List (Nat × Blk)) (nx:Nat):(mkL tl bl nx).st=mkS tl bl nx:=by
 unfold mkL LS.st mkS
 congr 1
 funext h
 unfold lkM
 simp only
 induction bl with
 | nil=>rfl
 | cons p r ih =>
  obtain ⟨k,x⟩:=p
  rw [List.map_cons,lk_cons,lk_cons]
  cases Nat.beq k h with
  | true=>rfl
  | false=>exact ih
noncomputable def LoopU (body:QL→LS→Prop) (Q:QL) (n:Nat):LS→Prop:=Nat.rec (motive:=fun _=>LS→Prop) (fun _=>False) (fun _ ih s=>body (thnL ih Q) s) n
def LoopL (k:Nat) (body:QL→LS→Prop) (Q:QL) (s:LS):Prop :=
 (∃ n,LoopU body Q n s) ∨ ∃ (σ:Type) (J:σ→LJ) (I:σ→Prop) (μ:σ→Nat) (x0:σ) (ρ nl:List Nat),Sub k ρ nl s.st (mkS (J x0).tl (J x0).bl (J x0).nx)∧I x0 ∧
  ∀ x,I x→SOk (mkS (J x).tl (J x).bl (J x).nx)→body (thnL (fun s' => ∃ x' ρ nl,Sub k ρ nl s'.st (mkS (J x').tl (J x').bl (J x').nx)∧I x'∧μ x'<μ x) Q) (mkL (J x).tl (J x).bl (J x).nx)
theorem LoopL.by {k:Nat} {body:QL→LS→Prop} {Q:QL} {s:LS} {σ:Type} (J:σ→LJ) (I:σ→Prop) (μ:σ→Nat) (x0:σ) (ρ nl:List Nat) (h0:Sub k ρ nl s.st (mkS (J x0).tl (J x0).bl (J x0).nx)) (hI:I x0)
  (h : ∀ x,I x→SOk (mkS (J x).tl (J x).bl (J x).nx)→fN (J x).nx fun n=>body (thnL (fun s' => ∃ x' ρ nl,Sub k ρ nl s'.st (mkS (J x').tl (J x').bl (J x').nx)∧I x'∧μ x'<μ x) Q) (mkL (J x).tl (J x).bl n)):LoopL k body Q s := .inr ⟨σ,J,I,μ,x0,ρ,nl,h0,hI,fun x hI hok=>(fN_eq _ _).mp (h x hI hok)⟩
theorem LoopL.un {k:Nat} {body:QL→LS→Prop} {Q:QL} {s:LS} (n:Nat) (h:LoopU body Q n s):LoopL k body Q s := .inl ⟨n,h⟩
abbrev WL:=QL→LS→Prop
noncomputable def regL (P:Program) (T:Ty) (N:Nat) (ops:Array Oper) (draw:Bool):WL:=fun Q s=>match draw with
 | true=>match s with
  | ⟨tl,bl,nx⟩=>bif Nat.ble (nx+ops.size) HMod then adrawsL P T N ops nx (fun s'=>SOk s'.st→Q .normal s') Q ops.toList 0 tl bl [] else False
 | false=>match s with
  | ⟨tl,bl,nx⟩=>bif Nat.ble (nx+ops.size) HMod then aopsL P T N ops nx Q ops.toList 0 tl bl else False
noncomputable def regX (X:Gh→World→Prop) (P:Program) (T:Ty) (k N:Nat) (x:Bool) (id:Nat) (ops:Array Oper) (draw:Bool):WL:=match x with
 | true=>fun Q s=>Wp X P k N (.region id ops draw) (Ql Q) s.st
 | false=>regL P T N ops draw
def CutL (k:Nat) (a b:WL) (Q:QL) (s:LS):Prop :=
 ∃ (σ:Type) (J:σ→LJ) (I:σ→Prop),a (thnL (fun s' => ∃ x ρ nl,Sub k ρ nl s'.st (mkS (J x).tl (J x).bl (J x).nx)∧I x) Q) s ∧
  ∀ x,I x→SOk (mkS (J x).tl (J x).bl (J x).nx)→b Q (mkL (J x).tl (J x).bl (J x).nx)
theorem CutL.by {k:Nat} {a b:WL} {Q:QL} {s:LS} {σ:Type} (J:σ→LJ) (I:σ→Prop) (h1:a (thnL (fun s' => ∃ x ρ nl,Sub k ρ nl s'.st (mkS (J x).tl (J x).bl (J x).nx)∧I x) Q) s)
  (h2 : ∀ x,I x→SOk (mkS (J x).tl (J x).bl (J x).nx)→fN (J x).nx fun n=>b Q (mkL (J x).tl (J x).bl n)):CutL k a b Q s:=⟨σ,J,I,h1,fun x hI hok=>(fN_eq _ _).mp (h2 x hI hok)⟩
noncomputable def firstId (c:Code):Nat:=Code.rec (motive:=fun _=>Nat) 0 (fun id _ _=>id) (fun _ _ a _=>a) (fun _ _ _ i _=>1000000+i) (fun _ _ c=>c) (fun _ c=>c) (fun _ _ _ _ _ _=>0) (fun _=>0) (fun _ _=>0) (fun _=>0) (fun _=>0) 0 (fun _=>0) c
def seqL (k:Nat) (cut:Bool) (a b:WL):WL:=fun Q s=>match cut with
 | true=>CutL k a b Q s
 | false=>a (thnL (b Q) Q) s
def condL (c:Operand) (a b:WL):WL:=fun Q s=>acond (evA (lk s.tl) c) (a Q s) (b Q s)
noncomputable def awpL (X:Gh→World→Prop) (P:Program) (T:Ty) (k N:Nat) (cuts:List Nat) (c:Code):WL :=
 Code.rec (motive:=fun _=>WL) (fun Q s=>Q .normal s) (fun id ops draw=>regX X P T k N (has cuts (2000000+id)) id ops draw) (fun _ cb a b=>seqL k (has cuts (firstId cb)) a b) (fun c _ _ a b=>condL c a b)
  (fun id _ c=>fun Q s=>c (blkL id Q) s) (fun _ c=>fun Q s=>LoopL k c Q s) (fun _ _ _ _ _ _=>fun _ _=>False) (fun id=>fun Q s=>Q (.exit id) s)
  (fun _ _=>fun _ _=>False) (fun _=>fun _ _=>False) (fun _=>fun _ _=>False) (fun Q s=>Q .ret s) (fun _=>fun _ _=>False) c
theorem regL_sound (hT:TOk P T) (hmix:P.follows .mixedOrders=true) (id:Nat) (ops:Array Oper) : ∀ (draw:Bool) (Q:QL) (s:LS),regL P T N ops draw Q s→Wp X P k N (.region id ops draw) (Ql Q) s.st
 | false,Q,⟨tl,bl,nx⟩,h=>fun g0 g w0 w act hk hs=>by
   have h:(bif Nat.ble (nx+ops.size) HMod then aopsL P T N ops nx Q ops.toList 0 tl bl else False):=h
   cases hb:Nat.ble (nx+ops.size) HMod with
   | false=>rw [hb] at h; exact h.elim
   | true =>
    rw [hb,cond_true] at h
    exact wp_region_list (aopsL_sound hT nx Q ops.toList 0 tl bl g act w (by simpa using Nat.le_of_ble_eq_true hb) h ⟨hs.size,hs.defers,hs.fr,hs.mem,hs.un,hs.grow⟩)
 | true,Q,⟨tl,bl,nx⟩,h=>fun g0 g w0 w act hk hs=>by
   have h:(bif Nat.ble (nx+ops.size) HMod then adrawL P T N ops Q ⟨tl,bl,nx⟩ else False):=h
   cases hb:Nat.ble (nx+ops.size) HMod with
   | false=>rw [hb] at h; exact h.elim
   | true =>
    rw [hb,cond_true] at h
    exact adrawL_sound hT hmix (Nat.le_of_ble_eq_true hb) h hs
theorem awpL_sound {cuts:List Nat} (hT:TOk P T) (hmix:P.follows .mixedOrders=true) : ∀ (c:Code) (Q:QL) (s:LS),awpL X P T k N cuts c Q s→Wp X P k N c (Ql Q) s.st
 | .skip,Q,s,h=>fun g0 g w0 w act hk hs=>wp_skip ⟨.normal,s.st,g,⟨s,rfl,h⟩,hs,trivial⟩
 | .region id ops draw,Q,s,h=>by
   have h:regX X P T k N (has cuts (2000000+id)) id ops draw Q s:=h
   cases hx:has cuts (2000000+id) with
   | true=>rw [hx] at h; exact h
   | false=>rw [hx] at h; exact regL_sound hT hmix id ops draw Q s h
 | .seq a b,Q,s,h=>by
   have h:seqL k (has cuts (firstId b)) (awpL X P T k N cuts a) (awpL X P T k N cuts b) Q s:=h
   unfold seqL at h
   split at h
   ·obtain ⟨σ,J,I,h1,h2⟩:=h
    refine Wp.seq ((awpL_sound hT hmix a _ s h1).mono fun x s' hx => ?_)
    obtain ⟨ls,rfl,hx⟩:=hx
    cases x with
    | normal =>
     obtain ⟨x,ρ,nl,hsub,hI⟩:=hx
     intro g0 g w0 w act hk hs
     obtain ⟨g',hst⟩:=hsub.st hk.2 hs
     have:=awpL_sound hT hmix b Q _ (h2 x hI hst.ok)
     rw [mkL_st] at this
     exact this g0 _ w0 w act hk hst
    | _=>exact ⟨ls,rfl,hx⟩
   ·refine Wp.seq ((awpL_sound hT hmix a _ s h).mono fun x s' hx => ?_)
    obtain ⟨ls,rfl,hx⟩:=hx
    cases x with
    | normal=>exact awpL_sound hT hmix b Q ls hx
    | _=>exact ⟨ls,rfl,hx⟩
 | .cond c a b,Q,s,h=>fun g0 g w0 w act hk hs=>by
   change acond (evA (lk s.tl) c) (awpL X P T k N cuts a Q s) (awpL X P T k N cuts b Q s) at h
   unfold acond at h
   split at h
   ·rename_i y hy
    obtain ⟨e,_⟩:=val_inv (evA_ok hs.fr _ _ hy)
    exact wp_cond_split e (fun ht=>awpL_sound hT hmix a Q s (by rw [ht] at h; exact h) g0 g w0 w act hk hs) (fun hf=>awpL_sound hT hmix b Q s (by rw [hf] at h; exact h) g0 g w0 w act hk hs)
   ·exact h.elim
 | .block id c,Q,s,h=>Wp.block ((awpL_sound hT hmix c _ s h).mono fun x s' hx=>by
   obtain ⟨ls,rfl,hx⟩:=hx
   cases x with
   | exit i=>exact ⟨fun e=>⟨ls,rfl,hx.1 e⟩,fun e=>⟨ls,rfl,hx.2 e⟩⟩
   | _=>exact ⟨ls,rfl,hx⟩)
 | .loop c,Q,s,h=>by
   rcases h with ⟨n,h⟩ | ⟨σ,J,I,μ,x0,ρ,nl,h0,hI,hr⟩
   ·intro g0 g w0 w act hk hs
    refine wp_loop_rounds n ?_
    revert s g w act
    induction n with
    | zero=>intro s h; exact h.elim
    | succ n ih =>
     intro s h g w act hs
     have h:awpL X P T k N cuts c (thnL (LoopU (awpL X P T k N cuts c) Q n) Q) s:=h
     refine Go.wp_mono (awpL_sound hT hmix c _ s h g0 g w0 w act hk hs) ?_
     rintro e act' w' ⟨x,s',g',h1,h2,h3⟩
     obtain ⟨ls,rfl,h1⟩:=h1
     cases x with
     | normal =>
      cases e with
      | normal=>exact ih ls h1 g' w' act' h2
      | _=>exact h3.elim
     | _=>cases e <;> first | exact h3.elim | exact ⟨_,ls.st,g',⟨ls,rfl,h1⟩,h2,h3⟩
   refine Wp.loop (fun x=>mkS (J x).tl (J x).bl (J x).nx) I μ x0 h0 hI fun x hI hok => ?_
   have:=awpL_sound hT hmix c _ _ (hr x hI hok)
   rw [mkL_st] at this
   refine this.mono fun y s' hy => ?_
   obtain ⟨ls,rfl,hy⟩:=hy
   cases y with
   | normal=>exact hy
   | _=>exact ⟨ls,rfl,hy⟩
 | .exit id,Q,s,h=>fun g0 g w0 w act hk hs=>wp_exit ⟨.exit id,s.st,g,⟨s,rfl,h⟩,hs,rfl⟩
 | .ret,Q,s,h=>fun g0 g w0 w act hk hs=>wp_ret ⟨.ret,s.st,g,⟨s,rfl,h⟩,hs,trivial⟩
 | .rangeFunc ..,_,_,h=>h.elim
 | .scope _,_,_,h=>h.elim
 | .label _,_,_,h=>h.elim
 | .goto _,_,_,h=>h.elim
 | .refuse _,_,_,h=>h.elim
end
def numL:Nat→List AV→List (Nat × AV)
 | _,[]=>[]
 | i,a::l=>(i,a)::numL (i+1) l
def numB:Nat→List Blk→List (Nat × Option Blk)
 | _,[]=>[]
 | i,a::l=>(i,some a)::numB (i+1) l
theorem numL_lk : ∀ (l:List AV) (i j:Nat),lk (numL i l) j=if i≤j then l[j - i]? else none
 | [],i,j=>by simp [numL,lk]
 | a::l,i,j=>by
   unfold numL
   rw [lk_cons,numL_lk l (i+1) j]
   by_cases h:i=j
   ·subst h; simp
   ·rw [beq_ne h,cond_false]
    by_cases h2:i≤j
    ·rw [if_pos (by omega),if_pos h2,show j - i=(j - (i+1))+1 by omega]; rfl
    ·rw [if_neg (by omega),if_neg h2]
theorem numB_lk : ∀ (l:List Blk) (i j:Nat),lkM (numB i l) j=if i≤j then l[j - i]? else none
 | [],i,j=>by simp [numB,lkM,lk]
 | a::l,i,j=>by
   have ih:=numB_lk l (i+1) j
   unfold lkM at ih ⊢
   unfold numB
   rw [lk_cons]
   by_cases h:i=j
   ·subst h; simp
   ·rw [beq_ne h,cond_false,ih]
    by_cases h2:i≤j
    ·rw [if_pos (by omega),if_pos h2,show j - i=(j - (i+1))+1 by omega]; rfl
    ·rw [if_neg (by omega),if_neg h2]
def initL (args:List AV) (bin:List Blk):LS:=⟨numL 0 args,numB 0 bin,bin.length⟩
theorem initL_st (args:List AV) (bin:List Blk):(initL args bin).st=AS.init args bin:=by
 unfold initL LS.st AS.init
 congr 1
 ·funext i; exact (numL_lk args 0 i).trans (by simp)
 ·funext i; exact (numB_lk bin 0 i).trans (by simp [ofL])
theorem Ctr.cut (cuts:List Nat) {P:Program} {T:Ty} (hT:TOk P T) (hmix:P.follows .mixedOrders=true) {f:Nat} {fn:Func} {c:Code} (hf:P.funcs[f]? = some fn) (hb:fn.body=some c) (hcall:Callable P f) {args:List AV} {bin:List Blk} {res:AE} {bout:List (Option Blk)}
  (hN:Nat.ble args.length fn.ntmps=true) (h:SOk (AS.init args bin)→awpL XT P T bin.length fn.ntmps cuts c (fun x s=>afin T bin.length fn.results.toList res bout x s.st) (initL args bin)) (hbo:Nat.beq bout.length bin.length=true:=by rfl):Ctr P f args bin res bout :=
 Ctr.intro (hbo:=hbo) hT hf hb hcall hN fun hok=>by
  have:=awpL_sound hT hmix c _ _ (h hok)
  rw [initL_st] at this
  exact this.mono fun x s hx=>by obtain ⟨ls,rfl,hx⟩:=hx; exact hx
theorem Ctr.of {P:Program} {T:Ty} (hT:TOk P T) (hmix:P.follows .mixedOrders=true) {f:Nat} {fn:Func} {c:Code} (hf:P.funcs[f]? = some fn) (hb:fn.body=some c) (hcall:Callable P f) {args:List AV} {bin:List Blk} {res:AE} {bout:List (Option Blk)}
  (hN:Nat.ble args.length fn.ntmps=true) (h:SOk (AS.init args bin)→awpL XT P T bin.length fn.ntmps [] c (fun x s=>afin T bin.length fn.results.toList res bout x s.st) (initL args bin)) (hbo:Nat.beq bout.length bin.length=true:=by rfl):Ctr P f args bin res bout :=
 Ctr.cut (hbo:=hbo) [] hT hmix hf hb hcall hN h
theorem Ctr.new (cuts:List Nat) {P:Program} {T:Ty} (hT:TOk P T) (hmix:P.follows .mixedOrders=true) {f:Nat} {fn:Func} {c:Code} (hf:P.funcs[f]? = some fn) (hb:fn.body=some c) (hcall:Callable P f) {args:List AV} {bin:List Blk} {res:AE} {bout:List (Option Blk)}
  (hN:Nat.ble args.length fn.ntmps=true) (h:SOk (AS.init args bin)→awpL XT P T bin.length fn.ntmps cuts c (fun x s => ∃ ρ,rhoOk bin.length ρ=true∧ρ.length=bout.length∧afinR T ρ fn.results.toList res bout x s.st) (initL args bin)):Ctr P f args bin res bout :=
 Ctr.introR hT hf hb hcall hN fun hok=>by
  have:=awpL_sound hT hmix c _ _ (h hok)
  rw [initL_st] at this
  exact this.mono fun x s hx=>by obtain ⟨ls,rfl,hx⟩:=hx; exact hx
theorem Ctr.pk (cuts:List Nat) {P:Program} {T:Ty} (hT:TOk P T) (hmix:P.follows .mixedOrders=true) {f:Nat} {fn:Func} {c:Code} (hf:P.funcs[f]? = some fn) (hb:fn.body=some c) (hcall:Callable P f) {args:List AV} {bin:List Blk} {res:AE} {bout:List (Option Blk)}
  (hN:Nat.ble args.length fn.ntmps=true) (h:SOk (AS.init args bin)→awpL XT P T bin.length fn.ntmps cuts c (fun x s => ∃ hs,apacks hs s.st.m fun m => ∃ ρ,rhoOk bin.length ρ=true∧ρ.length=bout.length∧afinR T ρ fn.results.toList res bout x ⟨s.st.t,m,s.st.nx⟩) (initL args bin)):Ctr P f args bin res bout :=
 Ctr.introP hT hf hb hcall hN fun hok=>by
  have:=awpL_sound hT hmix c _ _ (h hok)
  rw [initL_st] at this
  exact this.mono fun x s hx=>by obtain ⟨ls,rfl,hx⟩:=hx; exact hx
end Go.Proofs.YtbflekglkkdipaaGreatDoor.am
namespace Go.Proofs.YtbflekglkkdipaaGreatDoor.am
open Go
theorem acall.gen {P:Program} {m:Mem} {nh f:Nat} {xs:List AV} {K:EE} (ρ sn:List Nat) (as:List AV) (bin:List Blk) (res:AE) (bout:List (Option Blk)) (h:Ctr P f as bin res bout)
  (h1:decide ρ.Nodup=true) (h2:Nat.beq ρ.length bin.length=true) (h3:Nat.beq bout.length bin.length=true) (h4:boutOk ρ.length bout=true) (h5:cvL m ρ [] (seenS ρ sn) xs as)
  (h6:cvO m ρ (seenS ρ sn) 0 (bin.map some)) (h7:(ρ++sn).all (fun k=>(m k).isSome)=true) (h8:res.lowH ρ.length=true)
  (hK:K (res.out ρ) (rdOf m (ρ++sn)) (callUp ρ sn res bout)):acall P m nh f xs K:=by
 refine ⟨ρ,ρ,sn,as,bin,res,bout,⟨h,of_decide_eq_true h1,Nat.eq_of_beq_eq_true h2,by rw [Nat.sub_self]; simp [fresh],(Nat.eq_of_beq_eq_true h3).trans (Nat.eq_of_beq_eq_true h2).symm,h4,h5,?_,fun k hk => ?_,h8⟩,hK⟩
 ·have:=cvO_ok h6
  have e:ofLO (bin.map some)=ofL bin:=by
   funext i
   unfold ofLO ofL
   rw [List.getElem?_map]
   cases bin[i]? <;> rfl
  rw [e] at this
  exact this
 ·exact Option.isSome_iff_exists.1 (List.all_eq_true.1 h7 k hk)
theorem acall.au {P:Program} {m:Mem} {nh f:Nat} {xs:List AV} {K:EE} (ρ sn:List Nat) {as:List AV} {bin:List Blk} {res:AE} {bout:List (Option Blk)} (h:Ctr P f as bin res bout)
  (hK:K (res.out ρ) (rdOf m (ρ++sn)) (callUp ρ sn res bout))
  (h5:cvL m ρ [] (seenS ρ sn) xs as:=by repeat' (first | exact trivial | exact Or.inl (ti_succ (by assumption) (by assumption)) | exact Or.inl rfl | exact rfl | exact Nat.le_refl _ | apply And.intro))
  (h6:cvO m ρ (seenS ρ sn) 0 (bin.map some):=by repeat' (first | exact trivial | exact Or.inl (ti_succ (by assumption) (by assumption)) | exact Or.inl rfl | exact rfl | exact Nat.le_refl _ | apply And.intro))
  (h1:decide ρ.Nodup=true:=by exact rfl) (h2:Nat.beq ρ.length bin.length=true:=by exact rfl) (h3:Nat.beq bout.length bin.length=true:=by exact rfl) (h4:boutOk ρ.length bout=true:=by exact rfl)
  (h7:(ρ++sn).all (fun k=>(m k).isSome)=true:=by exact rfl) (h8:res.lowH ρ.length=true:=by exact rfl):acall P m nh f xs K:=acall.gen ρ sn as bin res bout h h1 h2 h3 h4 h5 h6 h7 h8 hK
def fNs:List Nat→(List Nat→Prop)→Prop
 | [],K=>K []
 | a::l,K=>fN a fun a=>fNs l fun l=>K (a::l)
theorem fNs_eq : ∀ (l:List Nat) (K:List Nat→Prop),fNs l K=K l
 | [],_=>rfl
 | a::l,K=>by unfold fNs; rw [fN_eq,fNs_eq l]
theorem acall.new {P:Program} {m:Mem} {nh f:Nat} {xs:List AV} {K:EE} (ρ sn:List Nat) (as:List AV) (bin:List Blk) (res:AE) (bout:List (Option Blk)) (h:Ctr P f as bin res bout)
  (h1:decide ρ.Nodup=true) (h2:Nat.beq ρ.length bin.length=true) (h3:Nat.ble ρ.length bout.length=true) (h4:boutOk bout.length bout=true) (h5:cvL m ρ [] (seenS ρ sn) xs as)
  (h6:cvO m ρ (seenS ρ sn) 0 (bin.map some)) (h7:(ρ++sn).all (fun k=>(m k).isSome)=true) (h8:res.lowH bout.length=true)
  (hK:fNs (ρ++fresh nh (bout.length - ρ.length)) fun ro=>K (res.out ro) (rdOf m (ρ++sn)) (callUp ro sn res bout)):acall P m nh f xs K:=by
 rw [fNs_eq] at hK
 have hle:=Nat.le_of_ble_eq_true h3
 have hl:(ρ++fresh nh (bout.length - ρ.length)).length=bout.length:=by rw [List.length_append,fresh_len]; omega
 refine ⟨ρ,ρ++fresh nh (bout.length - ρ.length),sn,as,bin,res,bout,⟨h,of_decide_eq_true h1,Nat.eq_of_beq_eq_true h2,by rw [hl],hl.symm,by rw [hl]; exact h4,h5,?_,fun k hk => ?_,by rw [hl]; exact h8⟩,hK⟩
 ·have:=cvO_ok h6
  have e:ofLO (bin.map some)=ofL bin:=by
   funext i
   unfold ofLO ofL
   rw [List.getElem?_map]
   cases bin[i]? <;> rfl
  rw [e] at this
  exact this
 ·exact Option.isSome_iff_exists.1 (List.all_eq_true.1 h7 k hk)
end Go.Proofs.YtbflekglkkdipaaGreatDoor.am
namespace Go.Proofs.YtbflekglkkdipaaGreatDoor.am
open Go
structure Decl where
 name:ByteArray
 word:Int
 at_:Int
inductive Expr where
 | mk (kind op:Int) (word:Int) (name:ByteArray) (kids:List Expr) (at_:Int)
inductive Stmt where
 | mk (kind:Int) (name other:ByteArray) (e:List Expr) (body els:List Stmt) (at_:Int)
structure Thread where
 name:ByteArray
 locals:List Decl
 body:List Stmt
 at_:Int
structure Prg where
 shared:List Decl
 locks:List Decl
 threads:List Thread
structure Flt where
 at_:Int
 rule:Int
def Decl.cells (d:Decl):List Tr:=[ts d.name,ti d.word,ti d.at_]
abbrev declsT (l:List Decl):Tr := .lst 3 32 (l.map Decl.cells)
mutual
def Expr.cells:Expr→List Tr
 | .mk kind op word name kids at_=>[tu kind,tu op,ti word,ts name,.lst 6 64 (Expr.rows kids),ti at_]
def Expr.rows:List Expr→List (List Tr)
 | []=>[]
 | e::l=>Expr.cells e::Expr.rows l
end
mutual
def Stmt.cells:Stmt→List Tr
 | .mk kind name other e body els at_=>[tu kind,ts name,ts other,.lst 6 64 (Expr.rows e),.lst 7 120 (Stmt.rows body),.lst 7 120 (Stmt.rows els),ti at_]
def Stmt.rows:List Stmt→List (List Tr)
 | []=>[]
 | s::l=>Stmt.cells s::Stmt.rows l
end
abbrev stmtsT (l:List Stmt):Tr := .lst 7 120 (Stmt.rows l)
def Thread.cells (t:Thread):List Tr:=[ts t.name,declsT t.locals,stmtsT t.body,ti t.at_]
abbrev threadsT (l:List Thread):Tr := .lst 4 72 (l.map Thread.cells)
def Prg.av (p:Prg):AV := .agg [.tr (declsT p.shared),.tr (declsT p.locks),.tr (threadsT p.threads)]
def Decl.av (d:Decl):AV := .agg (d.cells.map .tr)
def Thread.av (t:Thread):AV := .agg (t.cells.map .tr)
def Expr.av (e:Expr):AV := .agg (e.cells.map .tr)
def Stmt.av (s:Stmt):AV := .agg (s.cells.map .tr)
def Flt.av (f:Flt):AV := .agg [.tr (ti f.at_),.tr (ti f.rule)]
theorem map_get {α β:Type} {f:α→β} {l:List α} {i:Nat} {y:β} (h:(l.map f)[i]? = some y) : ∃ x,l[i]? = some x∧f x=y:=by simpa using h
theorem drop_cons {α:Type} {l:List α} {i:Nat} {x:α} (h:l[i]? = some x):l.drop i=x::l.drop (i+1):=by
 have:=(List.getElem?_eq_some_iff.1 h)
 obtain ⟨h1,rfl⟩:=this
 exact List.drop_eq_getElem_cons h1
theorem take_snoc {α:Type} {l:List α} {i:Nat} {x:α} (h:l[i]? = some x):l.take (i+1)=l.take i++[x]:=by
 rw [List.take_add_one,h]; rfl
abbrev seq (a b:ByteArray):Bool:=a.toList == b.toList
def findI:List Decl→ByteArray→Nat→Int
 | [],_,_ => -1
 | d::l,s,k=>if seq d.name s then k else findI l s (k+1)
def threadI:List Thread→ByteArray→Nat→Int
 | [],_,_ => -1
 | d::l,s,k=>if seq d.name s then k else threadI l s (k+1)
def localI (p:Prg) (t:Int) (name:ByteArray):Int :=
 if t<0 then -1 else match p.threads[t.toNat]? with
  | some th=>findI th.locals name 0
  | none => -1
end Go.Proofs.YtbflekglkkdipaaGreatDoor.am
namespace Go.Proofs.YtbflekglkkdipaaGreatDoor.am
open Go
def variableI (p:Prg) (t:Int) (name:ByteArray) (shared:Bool):Int :=
 bif decide (localI p t name ≥ 0) then (bif shared then 6 else 0)
 else bif decide (findI p.shared name 0 ≥ 0) then 0
 else bif decide (findI p.locks name 0 ≥ 0) || decide (threadI p.threads name 0 ≥ 0) then 6 else 5
def lockI (p:Prg) (t:Int) (name:ByteArray):Int :=
 bif decide (localI p t name ≥ 0) then 6
 else bif decide (findI p.locks name 0 ≥ 0) then 0
 else bif decide (findI p.shared name 0 ≥ 0) || decide (threadI p.threads name 0 ≥ 0) then 6 else 5
def leastI (a b:Int):Int:=bif (a == 0) || (decide (b > 0) && decide (b<a)) then b else a
def noS (s:ByteArray):Bool:=seq s ⟨#[]⟩
def two (op:Int):Bool:=decide (op ≥ 1) && decide (op≤16)
def partsB:Expr→Bool
 | .mk kind op word name kids _ =>
  bif kind == 1 then op == 0 && noS name && ((Expr.rows kids).length:Int) == 0 && decide (word ≥ 0)
  else bif kind == 2 then op == 0 && word == 0 && ((Expr.rows kids).length:Int) == 0
  else bif kind == 3 then word == 0 && noS name && ((Expr.rows kids).length:Int) == 1 && (op == 17 || op == 18)
  else bif kind == 4 then word == 0 && noS name && ((Expr.rows kids).length:Int) == 2 && two op
  else false
def fieldsB:Stmt→Bool
 | .mk kind name other e body els _ =>
  bif kind == 1 then noS other && ((Expr.rows e).length:Int) == 1 && !decide (((Stmt.rows body).length:Int) > 0) && !decide (((Stmt.rows els).length:Int) > 0)
  else bif kind == 2 then ((Expr.rows e).length:Int) == 1 && !decide (((Stmt.rows body).length:Int) > 0) && !decide (((Stmt.rows els).length:Int) > 0)
  else bif kind == 3 then noS name && noS other && ((Expr.rows e).length:Int) == 1
  else bif kind == 4 then noS name && noS other && ((Expr.rows e).length:Int) == 1 && !decide (((Stmt.rows els).length:Int) > 0)
  else bif kind == 5 then noS other && ((Expr.rows e).length:Int) == 0 && !decide (((Stmt.rows els).length:Int) > 0)
  else bif kind == 6 then noS name && noS other && ((Expr.rows e).length:Int) == 1 && !decide (((Stmt.rows body).length:Int) > 0) && !decide (((Stmt.rows els).length:Int) > 0)
  else bif kind == 7 then noS name && noS other && ((Expr.rows e).length:Int) == 0 && !decide (((Stmt.rows body).length:Int) > 0) && !decide (((Stmt.rows els).length:Int) > 0)
  else false
def deepI (r deep:Int):Int:=bif (r == 0) && decide (deep > 64) then 7 else r
mutual
def exprF (p:Prg) (t:Int):Expr→Int→Flt
 | .mk kind op word name kids at_,deep =>
  bif !partsB (.mk kind op word name kids at_) then ⟨at_,4⟩
  else bif deepI (bif kind == 2 then variableI p t name false else 0) deep != 0 then ⟨at_,deepI (bif kind == 2 then variableI p t name false else 0) deep⟩
  else exprsF p t kids (deep+1)
def exprsF (p:Prg) (t:Int):List Expr→Int→Flt
 | [],_=>⟨0,0⟩
 | e::l,deep=>bif (exprF p t e deep).rule != 0 then exprF p t e deep else exprsF p t l deep
end
def namesI (p:Prg) (t:Int) (kind:Int) (name other:ByteArray):Int :=
 bif kind == 1 then variableI p t name false
 else bif kind == 2 then leastI (variableI p t name false) (variableI p t other true)
 else bif kind == 5 then lockI p t name else 0
mutual
def stmtF (p:Prg) (t:Int):Stmt→Int→Flt
 | .mk kind name other e body els at_,deep =>
  bif !fieldsB (.mk kind name other e body els at_) then ⟨at_,4⟩
  else bif deepI (namesI p t kind name other) deep != 0 then ⟨at_,deepI (namesI p t kind name other) deep⟩
  else bif (exprsF p t e 1).rule != 0 then exprsF p t e 1
  else bif (stmtsF p t body (deep+1)).rule != 0 then stmtsF p t body (deep+1)
  else stmtsF p t els (deep+1)
def stmtsF (p:Prg) (t:Int):List Stmt→Int→Flt
 | [],_=>⟨0,0⟩
 | e::l,deep=>bif (stmtF p t e deep).rule != 0 then stmtF p t e deep else stmtsF p t l deep
end
end Go.Proofs.YtbflekglkkdipaaGreatDoor.am
namespace Go.Proofs.YtbflekglkkdipaaGreatDoor.am
open Go
def chI (s:ByteArray) (i:Nat):Int:=match s[i]? with
 | some b=>b.toNat
 | none=>0
def digB (c:Int):Bool:=decide (c ≥ 48) && decide (c≤57)
def letB (c:Int):Bool:=(decide (c ≥ 97) && decide (c≤122)) || (decide (c ≥ 65) && decide (c≤90)) || c == 95
def wordB (s:ByteArray):Bool:=seq s ⟨#[115,104,97,114,101,100]⟩ || seq s ⟨#[108,111,99,107]⟩ || seq s ⟨#[116,104,114,101,97,100]⟩ || seq s ⟨#[108,111,99,97,108]⟩ || seq s ⟨#[105,102]⟩
 || seq s ⟨#[101,108,115,101]⟩ || seq s ⟨#[119,104,105,108,101]⟩ || seq s ⟨#[112,114,105,110,116]⟩ || seq s ⟨#[115,107,105,112]⟩ || seq s ⟨#[115,119,97,112]⟩
def charsB (s:ByteArray):Nat→Bool
 | 0=>true
 | n+1=>bif !letB (chI s (s.size - (n+1))) && !digB (chI s (s.size - (n+1))) then false else charsB s n
def nameB (s:ByteArray):Bool:=bif decide ((s.size:Int)<1) || decide ((s.size:Int) > 32) || digB (chI s 0) || wordB s then false else charsB s s.size
theorem charsB_at {s:ByteArray} {i:Nat} {b:UInt8} (h:s[i]? = some b) (hi:i<s.size):charsB s (s.size - i)=bif !letB b.toNat && !digB b.toNat then false else charsB s (s.size - (i+1)):=by
 have hc:chI s i=b.toNat:=by unfold chI; rw [h]
 have e:s.size - i=(s.size - (i+1))+1:=by omega
 rw [e]
 show (bif !letB (chI s (s.size - (s.size - (i+1)+1))) && !digB (chI s (s.size - (s.size - (i+1)+1))) then false else charsB s (s.size - (i+1)))=_
 rw [show s.size - (s.size - (i+1)+1)=i by omega,hc]
theorem loop_len (bs:ByteArray) : ∀ (n i:Nat) (r:List UInt8),bs.size - i=n→(ByteArray.toList.loop bs i r).length=r.length+n:=by
 intro n
 induction n with
 | zero=>intro i r h; unfold ByteArray.toList.loop; rw [if_neg (by omega)]; simp
 | succ n ih=>intro i r h; unfold ByteArray.toList.loop; rw [if_pos (by omega),ih (i+1) _ (by omega)]; simp; omega
theorem toList_len (a:ByteArray):a.toList.length=a.size:=by
 unfold ByteArray.toList; rw [loop_len a a.size 0 [] rfl]; simp
theorem noS_size (s:ByteArray):noS s=decide ((s.size:Int)<1):=by
 unfold noS seq
 have h0:(⟨#[]⟩:ByteArray).toList=[]:=by have:=toList_len ⟨#[]⟩; exact List.eq_nil_of_length_eq_zero this
 rw [h0]
 have h1:=toList_len s
 cases h:s.toList with
 | nil=>rw [h] at h1; simp at h1; simp [← h1]
 | cons a l=>rw [h] at h1; simp at h1; simp; omega
end Go.Proofs.YtbflekglkkdipaaGreatDoor.am
namespace Go.Proofs.YtbflekglkkdipaaGreatDoor.hp
set_option linter.all false
section
variable {α:Type}
def swp (d:α) (l:List α) (i j:Nat):List α:=(l.set i (l.getD j d)).set j (l.getD i d)
theorem swp_len (d:α) (l:List α) (i j:Nat):(swp d l i j).length=l.length:=by unfold swp; simp
theorem getD_set (d:α) (l:List α) (i:Nat) (x:α) (k:Nat) (h:i<l.length):(l.set i x).getD k d=if k=i then x else l.getD k d:=by
 rw [List.getD_eq_getElem?_getD,List.getD_eq_getElem?_getD,List.getElem?_set]
 by_cases e:k=i
 ·subst e; simp [h]
 ·rw [if_neg e,if_neg (fun e'=>e e'.symm)]
theorem swp_get (d:α) (l:List α) {i j:Nat} (hi:i<l.length) (hj:j<l.length) (k:Nat):(swp d l i j).getD k d=if k=j then l.getD i d else if k=i then l.getD j d else l.getD k d:=by
 unfold swp
 rw [getD_set d _ j _ k (by rw [List.length_set]; exact hj),getD_set d l i _ k hi]
theorem set_perm (d:α) : ∀ (l:List α) (i:Nat) (x:α),i<l.length→(l.getD i d::l.set i x).Perm (x::l)
 | [],_,_,h=>by cases h
 | a::l,0,x,_=>by
  show (a::x::l).Perm (x::a::l)
  exact List.Perm.swap ..
 | a::l,i+1,x,h=>by
  have ih:=set_perm d l i x (by simpa using h)
  show (l.getD i d::a::l.set i x).Perm (x::a::l)
  exact (List.Perm.swap ..).trans ((ih.cons a).trans (List.Perm.swap ..))
theorem swp_perm (d:α) (l:List α) {i j:Nat} (hi:i<l.length) (hj:j<l.length):(swp d l i j).Perm l:=by
 have h1:=set_perm d l i (l.getD j d) hi
 have h2:=set_perm d (l.set i (l.getD j d)) j (l.getD i d) (by rw [List.length_set]; exact hj)
 have e:(l.set i (l.getD j d)).getD j d=l.getD j d:=by
  rw [getD_set d l i _ j hi]
  by_cases h:j=i
  ·rw [if_pos h]
  ·rw [if_neg h]
 rw [e] at h2
 exact (List.Perm.cons_inv (h2.trans (h1.trans (List.Perm.refl _))))
def upH (d:α) (lt:α→α→Bool):Nat→List α→Nat→List α
 | 0,l,_=>l
 | f+1,l,j=>bif ((j - 1) / 2 == j) || !lt (l.getD j d) (l.getD ((j - 1) / 2) d) then l else upH d lt f (swp d l ((j - 1) / 2) j) ((j - 1) / 2)
def chH (d:α) (lt:α→α→Bool) (l:List α) (i n:Nat):Nat:=bif decide (2*i+2<n) && lt (l.getD (2*i+2) d) (l.getD (2*i+1) d) then 2*i+2 else 2*i+1
def downH (d:α) (lt:α→α→Bool) (n:Nat):Nat→List α→Nat→List α
 | 0,l,_=>l
 | f+1,l,i=>bif decide (2*i+1 ≥ n) || !lt (l.getD (chH d lt l i n) d) (l.getD i d) then l else downH d lt n f (swp d l i (chH d lt l i n)) (chH d lt l i n)
structure Ord (lt:α→α→Bool):Prop where
 asym : ∀ a b,lt a b=true→lt b a=false
 trans : ∀ a b c,lt b a=false→lt c b=false→lt c a=false
def Heap (d:α) (lt:α→α→Bool) (l:List α):Prop := ∀ k,0<k→k<l.length→lt (l.getD k d) (l.getD ((k - 1) / 2) d)=false
theorem heap_least {d:α} {lt:α→α→Bool} (ho:Ord lt) {l:List α} (h:Heap d lt l) : ∀ k,k<l.length→lt (l.getD k d) (l.getD 0 d)=false:=by
 intro k
 induction k using Nat.strongRecOn with
 | _ k ih =>
  intro hk
  by_cases e:k=0
  ·subst e
   cases hb:lt (l.getD 0 d) (l.getD 0 d) with
   | false=>rfl
   | true=>have:=ho.asym _ _ hb; rw [hb] at this; cases this
  ·exact ho.trans _ _ _ (ih ((k - 1) / 2) (by omega) (by omega)) (h k (by omega) hk)
theorem upH_perm (d:α) (lt:α→α→Bool) : ∀ (f:Nat) (l:List α) (j:Nat),j<l.length→(upH d lt f l j).Perm l
 | 0,l,_,_=>List.Perm.refl _
 | f+1,l,j,h=>by
  unfold upH
  cases ((j - 1) / 2 == j) || !lt (l.getD j d) (l.getD ((j - 1) / 2) d) with
  | true=>exact List.Perm.refl _
  | false =>
   have hp:(j - 1) / 2<l.length:=by omega
   exact (upH_perm d lt f (swp d l ((j - 1) / 2) j) ((j - 1) / 2) (by rw [swp_len]; exact hp)).trans (swp_perm d l hp h)
theorem upH_heap {d:α} {lt:α→α→Bool} (ho:Ord lt) : ∀ (f:Nat) (l:List α) (j:Nat),j<f→j<l.length →
  (∀ k,0<k→k<l.length→k≠j→lt (l.getD k d) (l.getD ((k - 1) / 2) d)=false)→(∀ k,0<k→k<l.length→(k - 1) / 2=j→0<j→lt (l.getD k d) (l.getD ((j - 1) / 2) d)=false)→Heap d lt (upH d lt f l j)
 | 0,_,_,h,_,_,_=>by omega
 | f+1,l,j,hf,hj,h1,h2=>by
  unfold upH
  have hp:(j - 1) / 2<l.length:=by omega
  cases hb:((j - 1) / 2 == j) || !lt (l.getD j d) (l.getD ((j - 1) / 2) d) with
  | true =>
   rw [cond_true]
   intro k hk hkl
   by_cases e:k=j
   ·subst e
    rw [Bool.or_eq_true] at hb
    rcases hb with hb | hb
    ·have:(k - 1) / 2=k:=by simpa using hb
     omega
    ·simpa using hb
   ·exact h1 k hk hkl e
  | false =>
   rw [cond_false]
   rw [Bool.or_eq_false_iff] at hb
   have hne:(j - 1) / 2≠j:=by simpa using hb.1
   have hlt:lt (l.getD j d) (l.getD ((j - 1) / 2) d)=true:=by simpa using hb.2
   have hj0:0<j:=by omega
   refine upH_heap ho f (swp d l ((j - 1) / 2) j) ((j - 1) / 2) (by omega) (by rw [swp_len]; exact hp) (fun k hk hkl hkp => ?_) (fun k hk hkl hkp hp0 => ?_)
   ·rw [swp_len] at hkl
    rw [swp_get d l hp hj,swp_get d l hp hj]
    by_cases e:k=j
    ·subst e
     rw [if_pos rfl,if_neg hne,if_pos rfl]
     exact ho.asym _ _ hlt
    ·rw [if_neg e,if_neg hkp]
     by_cases e2:(k - 1) / 2=j
     ·rw [if_pos e2]
      exact h2 k hk hkl e2 hj0
     ·rw [if_neg e2]
      by_cases e3:(k - 1) / 2=(j - 1) / 2
      ·rw [if_pos e3]
       have h4:=h1 k hk hkl e
       rw [e3] at h4
       exact ho.trans _ _ _ (ho.asym _ _ hlt) h4
      ·rw [if_neg e3]
       exact h1 k hk hkl e
   ·rw [swp_len] at hkl
    rw [swp_get d l hp hj,swp_get d l hp hj]
    have ep:((j - 1) / 2 - 1) / 2≠j:=by omega
    have ep2:((j - 1) / 2 - 1) / 2≠(j - 1) / 2:=by omega
    rw [if_neg ep,if_neg ep2]
    have hpp:=h1 ((j - 1) / 2) hp0 hp (by omega)
    by_cases e:k=j
    ·rw [if_pos e]; exact hpp
    ·rw [if_neg e,if_neg (by omega)]
     have h4:=h1 k hk hkl e
     rw [hkp] at h4
     exact ho.trans _ _ _ hpp h4
theorem chH_cases (d:α) (lt:α→α→Bool) (l:List α) (i n:Nat):(chH d lt l i n=2*i+2∧2*i+2<n∧lt (l.getD (2*i+2) d) (l.getD (2*i+1) d)=true)∨(chH d lt l i n=2*i+1∧(2*i+2<n→lt (l.getD (2*i+2) d) (l.getD (2*i+1) d)=false)):=by
 unfold chH
 cases hb:decide (2*i+2<n) && lt (l.getD (2*i+2) d) (l.getD (2*i+1) d) with
 | true =>
  rw [Bool.and_eq_true] at hb
  exact .inl ⟨rfl,of_decide_eq_true hb.1,hb.2⟩
 | false =>
  refine .inr ⟨rfl,fun h => ?_⟩
  rw [decide_eq_true h] at hb
  exact hb
theorem downH_perm (d:α) (lt:α→α→Bool) (n:Nat) : ∀ (f:Nat) (l:List α) (i:Nat),n≤l.length→i<l.length→(downH d lt n f l i).Perm l
 | 0,l,_,_,_=>List.Perm.refl _
 | f+1,l,i,hn,hi=>by
  unfold downH
  cases hb:decide (2*i+1 ≥ n) || !lt (l.getD (chH d lt l i n) d) (l.getD i d) with
  | true=>exact List.Perm.refl _
  | false =>
   rw [Bool.or_eq_false_iff] at hb
   have h1:=of_decide_eq_false hb.1
   have hc:chH d lt l i n<l.length:=by rcases chH_cases d lt l i n with ⟨e,h,_⟩ | ⟨e,_⟩ <;> omega
   exact (downH_perm d lt n f _ _ (by rw [swp_len]; exact hn) (by rw [swp_len]; exact hc)).trans (swp_perm d l hi hc)
theorem downH_len (d:α) (lt:α→α→Bool) (n:Nat) : ∀ (f:Nat) (l:List α) (i:Nat),(downH d lt n f l i).length=l.length
 | 0,l,_=>rfl
 | f+1,l,i=>by
  unfold downH
  cases decide (2*i+1 ≥ n) || !lt (l.getD (chH d lt l i n) d) (l.getD i d) with
  | true=>rfl
  | false=>exact (downH_len d lt n f _ _).trans (swp_len ..)
theorem upH_len (d:α) (lt:α→α→Bool) : ∀ (f:Nat) (l:List α) (j:Nat),(upH d lt f l j).length=l.length
 | 0,l,_=>rfl
 | f+1,l,j=>by
  unfold upH
  cases ((j - 1) / 2 == j) || !lt (l.getD j d) (l.getD ((j - 1) / 2) d) with
  | true=>rfl
  | false=>exact (upH_len d lt f _ _).trans (swp_len ..)
theorem downH_keep (d:α) (lt:α→α→Bool) (n:Nat) : ∀ (f:Nat) (l:List α) (i:Nat),n≤l.length→i<n → ∀ k,n≤k→(downH d lt n f l i).getD k d=l.getD k d
 | 0,l,_,_,_,_,_=>rfl
 | f+1,l,i,hn,hi,k,hk=>by
  unfold downH
  cases hb:decide (2*i+1 ≥ n) || !lt (l.getD (chH d lt l i n) d) (l.getD i d) with
  | true=>rfl
  | false =>
   rw [Bool.or_eq_false_iff] at hb
   have h1:=of_decide_eq_false hb.1
   have hc:chH d lt l i n<n:=by rcases chH_cases d lt l i n with ⟨e,h,_⟩ | ⟨e,_⟩ <;> omega
   rw [cond_false,downH_keep d lt n f _ _ (by rw [swp_len]; exact hn) hc k hk,swp_get d l (by omega) (by omega),if_neg (by omega),if_neg (by omega)]
theorem downH_heap {d:α} {lt:α→α→Bool} (ho:Ord lt) (n:Nat) : ∀ (f:Nat) (l:List α) (i:Nat),n<f+i→n≤l.length→i<n →
  (∀ k,0<k→k<n→(k - 1) / 2≠i→lt (l.getD k d) (l.getD ((k - 1) / 2) d)=false)→(∀ k,0<k→k<n→(k - 1) / 2=i→0<i→lt (l.getD k d) (l.getD ((i - 1) / 2) d)=false) →
  ∀ k,0<k→k<n→lt ((downH d lt n f l i).getD k d) ((downH d lt n f l i).getD ((k - 1) / 2) d)=false
 | 0,_,_,hf,_,hi,_,_=>by omega
 | f+1,l,i,hf,hn,hi,h1,h2=>by
  unfold downH
  have hch:=chH_cases d lt l i n
  generalize chH d lt l i n=c at hch
  cases hb:decide (2*i+1 ≥ n) || !lt (l.getD c d) (l.getD i d) with
  | true =>
   rw [cond_true]
   intro k hk hkn
   by_cases e:(k - 1) / 2=i
   ·rw [Bool.or_eq_true] at hb
    rcases hb with hb | hb
    ·have:=of_decide_eq_true hb; omega
    ·have hb:lt (l.getD c d) (l.getD i d)=false:=by simpa using hb
     rw [e]
     have hkc:k=2*i+1∨k=2*i+2:=by omega
     rcases hch with ⟨rfl,q1,q2⟩ | ⟨rfl,q⟩
     ·rcases hkc with rfl | rfl
      ·exact ho.trans _ _ _ hb (ho.asym _ _ q2)
      ·exact hb
     ·rcases hkc with rfl | rfl
      ·exact hb
      ·exact ho.trans _ _ _ hb (q hkn)
   ·exact h1 k hk hkn e
  | false =>
   rw [cond_false]
   rw [Bool.or_eq_false_iff] at hb
   have hn1:=of_decide_eq_false hb.1
   have hlt:lt (l.getD c d) (l.getD i d)=true:=by simpa using hb.2
   have hc:c<n∧i<c∧(c - 1) / 2=i:=by rcases hch with ⟨e,h,_⟩ | ⟨e,_⟩ <;> omega
   have hil:i<l.length:=by omega
   have hcl:c<l.length:=by omega
   refine downH_heap ho n f (swp d l i c) c (by omega) (by rw [swp_len]; exact hn) hc.1 (fun k hk hkn hkp => ?_) (fun k hk hkn hkp _ => ?_)
   ·rw [swp_get d l hil hcl,swp_get d l hil hcl,if_neg hkp]
    by_cases e:k=c
    ·subst e
     rw [if_pos rfl,hc.2.2,if_pos rfl]
     exact ho.asym _ _ hlt
    ·rw [if_neg e]
     by_cases e2:(k - 1) / 2=i
     ·rw [if_pos e2,if_neg (by omega)]
      have hkc:k=2*i+1∨k=2*i+2:=by omega
      rcases hch with ⟨rfl,q1,q2⟩ | ⟨rfl,q⟩
      ·rcases hkc with rfl | rfl
       ·exact ho.asym _ _ q2
       ·exact absurd rfl e
      ·rcases hkc with rfl | rfl
       ·exact absurd rfl e
       ·exact q hkn
     ·rw [if_neg e2]
      by_cases e3:k=i
      ·subst e3
       rw [if_pos rfl]
       exact h2 c (by omega) hc.1 hc.2.2 hk
      ·rw [if_neg e3]
       exact h1 k hk hkn e2
   ·rw [swp_get d l hil hcl,swp_get d l hil hcl,hc.2.2,if_neg (by omega),if_neg (by omega),if_neg (by omega),if_pos rfl]
    have:=h1 k hk hkn (by omega)
    rw [hkp] at this
    exact this
def pushH (d:α) (lt:α→α→Bool) (l:List α) (x:α):List α:=upH d lt (l.length+1) (l++[x]) l.length
theorem pushH_perm (d:α) (lt:α→α→Bool) (l:List α) (x:α):(pushH d lt l x).Perm (x::l) :=
 (upH_perm d lt _ _ _ (by simp)).trans (List.perm_append_singleton ..)
theorem getD_app (d:α) (l:List α) (x:α) {k:Nat} (h:k<l.length):(l++[x]).getD k d=l.getD k d:=by
 rw [List.getD_eq_getElem?_getD,List.getD_eq_getElem?_getD,List.getElem?_append_left h]
theorem pushH_heap {d:α} {lt:α→α→Bool} (ho:Ord lt) {l:List α} (h:Heap d lt l) (x:α):Heap d lt (pushH d lt l x):=by
 refine upH_heap ho _ _ _ (by omega) (by simp) (fun k hk hkl hkp => ?_) (fun k hk hkl hkp hp0 => ?_)
 ·simp only [List.length_append,List.length_singleton] at hkl
  rw [getD_app d l x (by omega),getD_app d l x (by omega)]
  exact h k hk (by omega)
 ·simp only [List.length_append,List.length_singleton] at hkl
  omega
def popH (d:α) (lt:α→α→Bool) (l:List α):List α:=downH d lt (l.length - 1) l.length (swp d l 0 (l.length - 1)) 0
theorem take_get (d:α) (l:List α) {n k:Nat} (h:k<n):(l.take n).getD k d=l.getD k d:=by
 rw [List.getD_eq_getElem?_getD,List.getD_eq_getElem?_getD,List.getElem?_take,if_pos h]
theorem popH_len (d:α) (lt:α→α→Bool) (l:List α):(popH d lt l).length=l.length:=(downH_len ..).trans (swp_len ..)
theorem popH_last (d:α) (lt:α→α→Bool) {l:List α} (h:0<l.length):(popH d lt l).getD (l.length - 1) d=l.getD 0 d:=by
 unfold popH
 by_cases e:l.length=1
 ·have h0:l.length - 1=0:=by omega
  rw [h0,e]
  unfold downH
  rw [show decide (2*0+1 ≥ 0)=true from rfl,Bool.true_or,cond_true,swp_get d l h h,if_pos rfl]
 ·rw [downH_keep d lt _ _ _ _ (by rw [swp_len]; omega) (by omega) _ (Nat.le_refl _),swp_get d l h (by omega),if_pos rfl]
theorem popH_heap {d:α} {lt:α→α→Bool} (ho:Ord lt) {l:List α} (h:Heap d lt l) (hl:0<l.length):Heap d lt ((popH d lt l).take (l.length - 1)):=by
 intro k hk hkl
 rw [List.length_take,popH_len] at hkl
 have hkl:k<l.length - 1:=by omega
 rw [take_get d _ hkl,take_get d _ (by omega)]
 unfold popH
 refine downH_heap ho _ _ _ _ (by omega) (by rw [swp_len]; omega) (by omega) (fun k hk hkn hkp => ?_) (fun k hk hkn hkp h0=>by omega) k hk hkl
 rw [swp_get d l hl (by omega),swp_get d l hl (by omega),if_neg (by omega),if_neg (by omega),if_neg (by omega),if_neg hkp]
 exact h k hk (by omega)
theorem popH_perm (d:α) (lt:α→α→Bool) {l:List α} (hl:0<l.length):(l.getD 0 d::(popH d lt l).take (l.length - 1)).Perm l:=by
 have hp:(popH d lt l).Perm l:=(downH_perm d lt _ _ _ _ (by rw [swp_len]; omega) (by rw [swp_len]; exact hl)).trans (swp_perm d l hl (by omega))
 refine List.Perm.trans ?_ hp
 have hlast:=popH_last d lt hl
 have hlen:=popH_len d lt l
 generalize popH d lt l=q at hlast hlen
 have e:q=q.take (l.length - 1)++[l.getD 0 d]:=by
  have h2:=List.take_append_drop (l.length - 1) q
  have h3:q.drop (l.length - 1)=[l.getD 0 d]:=by
   rw [List.drop_eq_getElem_cons (by omega),List.drop_of_length_le (by omega)]
   rw [← hlast,List.getD_eq_getElem?_getD,List.getElem?_eq_getElem (by omega)]
   rfl
  rw [h3] at h2
  exact h2.symm
 conv=>rhs; rw [e]
 exact (List.perm_append_singleton ..).symm
end
end Go.Proofs.YtbflekglkkdipaaGreatDoor.hp
namespace Go.Proofs.YtbflekglkkdipaaGreatDoor.ws
open Go Go.RowKit
theorem ret_int {k:IntKind} {a b:Int} (h:a=b):Ending.returned (.int k a) = .returned (.int k b):=by rw [h]
theorem ret_bool {a b:Bool} (h:a=b):Ending.returned (.bool a) = .returned (.bool b):=by rw [h]
theorem ret_str {a b:ByteArray} (h:a=b):Ending.returned (.string a) = .returned (.string b):=by rw [h]
def shN (b:Int):Nat:=(b % 64).toNat
def band (a b:Int):Int:=IntKind.i64.wrap ((BitVec.ofInt 64 a &&& BitVec.ofInt 64 b).toNat)
def bor (a b:Int):Int:=IntKind.i64.wrap ((BitVec.ofInt 64 a ||| BitVec.ofInt 64 b).toNat)
def bxor (a b:Int):Int:=IntKind.i64.wrap ((BitVec.ofInt 64 a ^^^ BitVec.ofInt 64 b).toNat)
def quo (a b:Int):Int:=if b=0 then 0 else wrap64 (a.tdiv b)
def tr (c:Bool):Int:=if c then 1 else 0
def rem (a b:Int):Int:=if b=0 then a else wrap64 (a - wrap64 (quo a b*b))
def doV (op:Nat) (a b:Int):Int :=
 match op with
 | 1=>wrap64 (a+b) | 2=>wrap64 (a - b) | 3=>wrap64 (a*b) | 4=>quo a b | 5=>rem a b
 | 6=>band a b | 7=>bor a b | 8=>bxor a b
 | 9=>wrap64 (a*2 ^ shN b) | 10=>a / 2 ^ shN b
 | 11=>tr (a == b) | 12=>tr (a != b) | 13=>tr (decide (a<b)) | 14=>tr (decide (a≤b))
 | 15=>tr (decide (b<a)) | 16=>tr (decide (b≤a)) | _=>0
def oneV (op:Nat) (a:Int):Int :=
 match op with
 | 17=>wrap64 (-a) | 18=>tr (a == 0) | _=>0
theorem and63_nat (b:Int):(BitVec.ofInt 64 b &&& BitVec.ofInt 64 63).toNat=shN b:=by
 have e:(BitVec.ofInt 64 63).toNat=2 ^ 6 - 1:=by decide
 rw [BitVec.toNat_and,e,Nat.and_two_pow_sub_one_eq_mod,BitVec.toNat_ofInt]
 unfold shN
 omega
theorem shN_lt (b:Int):shN b<64:=by unfold shN; omega
theorem shN_u64 (b:Int):shN (IntKind.u64.wrap b)=shN b:=by unfold shN; rw [IntKind.wrap_u64]; omega
theorem bits_and63 (b:Int):bits BinOp.and IntKind.u64 (IntKind.u64.wrap b) 63=((shN b:Nat):Int):=by
 have h:=shN_lt b
 show IntKind.u64.wrap ((BitVec.ofInt 64 (IntKind.u64.wrap b) &&& BitVec.ofInt 64 63).toNat:Nat)=_
 rw [and63_nat,shN_u64,IntKind.wrap_u64]; omega
theorem bits_and63' (b:Int):bits BinOp.and IntKind.i64 b 63=((shN b:Nat):Int):=by
 have h:=shN_lt b
 show IntKind.i64.wrap ((BitVec.ofInt 64 b &&& BitVec.ofInt 64 63).toNat:Nat)=_
 rw [and63_nat,IntKind.wrap_i64]; omega
theorem bits_band (a b:Int):bits BinOp.and IntKind.i64 a b=band a b:=rfl
theorem bits_bor (a b:Int):bits BinOp.or IntKind.i64 a b=bor a b:=rfl
theorem bits_bxor (a b:Int):bits BinOp.xor IntKind.i64 a b=bxor a b:=rfl
end Go.Proofs.YtbflekglkkdipaaGreatDoor.ws
namespace Go.Proofs.YtbflekglkkdipaaGreatDoor.ws
open Go Go.RowKit
def most (neg:Bool):Nat:=if neg then 9223372036854775808 else 9223372036854775807
theorem most_le (neg:Bool):most neg≤9223372036854775808:=by unfold most; split <;> omega
theorem most_ge (neg:Bool):9223372036854775807≤most neg:=by unfold most; split <;> omega
def bad (neg:Bool) (at_ i n c:Nat):Bool:=decide (c<48∨57<c∨(at_<i∧n=0)∨(neg=true∧i=at_∧c=48)∨most neg<10*n+(c - 48))
def okV (neg:Bool) (n:Nat):Int:=if neg then -n else n
def pgo (neg:Bool) (at_:Nat):List UInt8→Nat→Nat→Int × Int × Int
 | [],i,n=>if i=at_ then (0,10,(i:Int)) else (okV neg n,0,0)
 | c::r,i,n=>if bad neg at_ i n c.toNat then (0,10,(i:Int)) else pgo neg at_ r (i+1) (10*n+(c.toNat - 48))
def isNeg (l:List UInt8):Bool:=l.head? == some 45
def prs (l:List UInt8):Int × Int × Int :=
 if isNeg l then pgo true 1 (l.drop 1) 1 0 else pgo false 0 l 0 0
theorem pgo_bad {neg:Bool} {at_ i n:Nat} {c:UInt8} {r:List UInt8} (h:bad neg at_ i n c.toNat=true):pgo neg at_ (c::r) i n=(0,10,(i:Int)):=by simp [pgo,h]
theorem pgo_go {neg:Bool} {at_ i n:Nat} {c:UInt8} {r:List UInt8} (h:bad neg at_ i n c.toNat=false):pgo neg at_ (c::r) i n=pgo neg at_ r (i+1) (10*n+(c.toNat - 48)):=by simp [pgo,h]
theorem drop_at (s:ByteArray) (i:Nat) (h:i<s.size):s.data.toList.drop i=s[i]::s.data.toList.drop (i+1):=by
 rw [List.drop_eq_getElem_cons (by simpa using h)]; rfl
theorem drop_end (s:ByteArray) (i:Nat) (h:s.size≤i):s.data.toList.drop i=[]:=List.drop_of_length_le (by simpa using h)
theorem toList_data (s:ByteArray):s.toList=s.data.toList:=ByteArray.toList_eq s
theorem ne_empty {s:ByteArray} (h:0<s.size):s.toList.isEmpty=false:=by
 rw [toList_data]
 cases hq:s.data.toList with
 | nil =>
          have:s.data.toList.length=s.size:=by simp
          rw [hq] at this; simp at this; omega
 | cons _ _=>rfl
theorem is_empty {s:ByteArray} (h:s.size=0):s.toList=[]:=by
 rw [toList_data]
 exact List.length_eq_zero_iff.1 (by simpa using h)
theorem head_at (s:ByteArray) (h:0<s.size):s.data.toList.head? = some (s[0]'h):=by
 have:=drop_at s 0 h
 rw [List.drop_zero] at this
 rw [this]; rfl
theorem prs_pos {s:ByteArray} (h:0<s.size) (h0:(s[0]'h).toNat≠45):prs s.data.toList=pgo false 0 (s.data.toList.drop 0) 0 0:=by
 have e:isNeg s.data.toList=false:=by
  unfold isNeg
  rw [head_at s h]
  cases hq:(some (s[0]'h) == some (45:UInt8))
  ·rfl
  ·exact absurd (by rw [show s[0]'h=45 from by simpa using hq]; rfl) h0
 simp [prs,e]
theorem prs_neg {s:ByteArray} (h:0<s.size) (h0:(s[0]'h).toNat=45):prs s.data.toList=pgo true 1 (s.data.toList.drop 1) 1 0:=by
 have e:isNeg s.data.toList=true:=by
  unfold isNeg
  rw [head_at s h,show s[0]'h=45 from UInt8.toNat_inj.1 h0]
  rfl
 simp [prs,e]
theorem prs_none {s:ByteArray} (h:s.size=0):prs s.data.toList=(0,10,0):=by
 have:s.data.toList=[]:=List.length_eq_zero_iff.1 (by simpa using h)
 rw [this]; rfl
theorem big_iff (neg:Bool) {n d:Nat} (hn:n≤most neg) (hd:d≤9) :
  n*10 / 18446744073709551616+(n*10 % 18446744073709551616+d) / 18446744073709551616=0∧(n*10 % 18446744073709551616+d) % 18446744073709551616≤most neg↔10*n+d≤most neg:=by
 have:=most_le neg
 omega
def dch (d:Nat):UInt8:=UInt8.ofNat (48+d)
theorem dch_toNat {d:Nat} (h:d<10):(dch d).toNat=48+d:=by unfold dch; rw [UInt8.toNat_ofNat']; omega
def dig (n:Nat):List UInt8:=if n<10 then [dch n] else dig (n / 10)++[dch (n % 10)]
 termination_by n
 decreasing_by omega
theorem dig_small {n:Nat} (h:n<10):dig n=[dch n]:=by rw [dig,if_pos h]
theorem dig_big {n:Nat} (h : ¬ n<10):dig n=dig (n / 10)++[dch (n % 10)]:=by rw [dig,if_neg h]
theorem dig_len : ∀ (k n:Nat),n<10 ^ (k+1)→(dig n).length≤k+1
 | 0,n,h=>by rw [dig_small (by simpa using h)]; simp
 | k+1,n,h=>by
  by_cases hn:n<10
  ·rw [dig_small hn]; simp
  ·rw [dig_big hn]
   have:=dig_len k (n / 10) (by rw [Nat.pow_succ] at h; omega)
   simp; omega
theorem dig_len64 {n:Nat} (h:n<18446744073709551616):(dig n).length≤20 :=
 dig_len 19 n (Nat.lt_trans h (by decide))
def prn (w:Int):List UInt8:=if w<0 then 45::dig (-w).toNat else dig w.toNat
end Go.Proofs.YtbflekglkkdipaaGreatDoor.ws
namespace Go.Proofs.YtbflekglkkdipaaGreatDoor.ws
open Go Go.RowKit
theorem dig_pos (n:Nat):0<(dig n).length:=by
 by_cases h:n<10
 ·rw [dig_small h]; simp
 ·rw [dig_big h]; simp
theorem okV_lo (neg:Bool):okV neg 0=0:=by cases neg <;> rfl
theorem pgo_dig (neg:Bool) (at_:Nat) : ∀ (k n:Nat) (r:List UInt8),n<10 ^ (k+1)→n≤most neg→(neg=true→0<n)→pgo neg at_ (dig n++r) at_ 0=pgo neg at_ r (at_+(dig n).length) n
 | 0,n,r,h,hm,hn=>by
  have hs:n<10:=by simpa using h
  rw [dig_small hs]
  have hc:=dch_toNat hs
  show pgo neg at_ (dch n::r) at_ 0=_
  rw [pgo_go (decide_eq_false ?_),hc]
  ·simp
  ·rw [hc]
   rintro (h | h | h | ⟨h,_,h3⟩ | h)
   ·omega
   ·omega
   ·omega
   ·have:=hn h; omega
   ·omega
 | k+1,n,r,h,hm,hn=>by
  by_cases hs:n<10
  ·exact pgo_dig neg at_ 0 n r (by simpa using hs) hm hn
  ·rw [dig_big hs,List.append_assoc,pgo_dig neg at_ k (n / 10) _ (by rw [Nat.pow_succ] at h; omega) (by omega) (fun _=>by omega)]
   have hc:=dch_toNat (d:=n % 10) (by omega)
   have hp:=dig_pos (n / 10)
   show pgo neg at_ (dch (n % 10)::r) _ _=_
   rw [pgo_go (decide_eq_false ?_),hc]
   ·rw [show 10*(n / 10)+(48+n % 10 - 48)=n by omega]
    simp [Nat.add_assoc]
   ·rw [hc]
    rintro (h | h | h | ⟨_,h,_⟩ | h)
    ·omega
    ·omega
    ·omega
    ·omega
    ·omega
theorem dig_pow {n:Nat} (h:n≤9223372036854775808):n<10 ^ (18+1):=Nat.lt_of_le_of_lt h (by decide)
theorem pgo_all (neg:Bool) (at_ n:Nat) (hm:n≤most neg) (hn:neg=true→0<n):pgo neg at_ (dig n) at_ 0=(okV neg n,0,0):=by
 have h:=pgo_dig neg at_ 18 n [] (dig_pow (Nat.le_trans hm (most_le neg))) hm hn
 rw [List.append_nil] at h
 have:=dig_pos n
 rw [h]
 unfold pgo
 rw [if_neg (by omega)]
theorem dig_head (n:Nat):(dig n).head? ≠ some 45:=by
 suffices h : ∀ k n,n<10 ^ (k+1)→(dig n).head? ≠ some 45 by
  exact h n n (Nat.lt_of_lt_of_le (Nat.lt_pow_self (by decide)) (Nat.pow_le_pow_right (by decide) (by omega)))
 intro k
 induction k with
 | zero =>
  intro n h
  have hs:n<10:=by simpa using h
  rw [dig_small hs]
  intro hc
  have e:dch n=45:=by simpa using hc
  have:=dch_toNat hs
  rw [e] at this
  have:(45:UInt8).toNat=45:=rfl
  omega
 | succ k ih =>
  intro n h
  by_cases hs:n<10
  ·rw [dig_small hs]
   intro hc
   have e:dch n=45:=by simpa using hc
   have:=dch_toNat hs
   rw [e] at this
   have:(45:UInt8).toNat=45:=rfl
   omega
  ·rw [dig_big hs]
   have hp:=dig_pos (n / 10)
   cases hd:dig (n / 10) with
   | nil=>rw [hd] at hp; simp at hp
   | cons a l =>
    have:=ih (n / 10) (by rw [Nat.pow_succ] at h; omega)
    rw [hd] at this
    exact this
theorem prs_prn {v:Int} (h1 : -9223372036854775808≤v) (h2:v≤9223372036854775807):prs (prn v)=(v,0,0):=by
 unfold prn
 by_cases h:v<0
 ·rw [if_pos h]
  have e:prs (45::dig (-v).toNat)=pgo true 1 (dig (-v).toNat) 1 0:=by simp [prs,isNeg]
  rw [e,pgo_all true 1 _ (by unfold most; simp; omega) (fun _=>by omega)]
  simp [okV]; omega
 ·rw [if_neg h]
  have hd:=dig_head v.toNat
  have e0:isNeg (dig v.toNat)=false:=by
   unfold isNeg
   simpa using hd
  have e:prs (dig v.toNat)=pgo false 0 (dig v.toNat) 0 0:=by simp [prs,e0]
  rw [e,pgo_all false 0 _ (by unfold most; simp; omega) (fun h=>by cases h)]
  simp [okV]; omega
theorem pgo_back (neg:Bool) (at_:Nat) : ∀ (l:List UInt8) (i n:Nat),at_<i→n≤most neg →
  (∃ p:Nat,pgo neg at_ l i n=(0,10,(p:Int))∧p≤i+l.length)∨(∃ m:Nat,pgo neg at_ l i n=(okV neg m,0,0)∧dig m=dig n++l∧n≤m∧m≤most neg)
 | [],i,n,hi,hm => .inr ⟨n,by unfold pgo; rw [if_neg (by omega)],by simp,Nat.le_refl _,hm⟩
 | c::r,i,n,hi,hm=>by
  cases hb:bad neg at_ i n c.toNat
  ·have hb':=of_decide_eq_false hb
   rw [pgo_go hb]
   have hn:n≠0:=fun h=>hb' (.inr (.inr (.inl ⟨hi,h⟩)))
   have h1 : ¬ c.toNat<48:=fun h=>hb' (.inl h)
   have h2 : ¬ 57<c.toNat:=fun h=>hb' (.inr (.inl h))
   have h3 : ¬ most neg<10*n+(c.toNat - 48):=fun h=>hb' (.inr (.inr (.inr (.inr h))))
   rcases pgo_back neg at_ r (i+1) (10*n+(c.toNat - 48)) (by omega) (by omega) with ⟨p,hp,hl⟩ | ⟨m,hp,hd,hle,hmm⟩
   ·exact .inl ⟨p,hp,by simp; omega⟩
   ·refine .inr ⟨m,hp,?_,by omega,hmm⟩
    rw [hd,dig_big (by omega),List.append_assoc]
    have e1:(10*n+(c.toNat - 48)) / 10=n:=by omega
    have e2:(10*n+(c.toNat - 48)) % 10=c.toNat - 48:=by omega
    rw [e1,e2]
    have e3:dch (c.toNat - 48)=c:=by
     apply UInt8.toNat_inj.1
     rw [dch_toNat (by omega)]; omega
    rw [e3]; rfl
  ·rw [pgo_bad hb]
   exact .inl ⟨i,rfl,by simp⟩
theorem pgo_begin (neg:Bool) (at_:Nat) (l:List UInt8) :
  (∃ p:Nat,pgo neg at_ l at_ 0=(0,10,(p:Int))∧p≤at_+l.length)∨(∃ m:Nat,pgo neg at_ l at_ 0=(okV neg m,0,0)∧dig m=l∧(neg=true→0<m)∧m≤most neg):=by
 cases l with
 | nil=>exact .inl ⟨at_,by unfold pgo; rw [if_pos rfl],by simp⟩
 | cons c r =>
  cases hb:bad neg at_ at_ 0 c.toNat
  ·have hb':=of_decide_eq_false hb
   rw [pgo_go hb]
   have h1 : ¬ c.toNat<48:=fun h=>hb' (.inl h)
   have h2 : ¬ 57<c.toNat:=fun h=>hb' (.inr (.inl h))
   have h3 : ¬ most neg<10*0+(c.toNat - 48):=fun h=>hb' (.inr (.inr (.inr (.inr h))))
   have h4:neg=true→c.toNat≠48:=fun hn hc=>hb' (.inr (.inr (.inr (.inl ⟨hn,rfl,hc⟩))))
   rcases pgo_back neg at_ r (at_+1) (10*0+(c.toNat - 48)) (by omega) (by omega) with ⟨p,hp,hl⟩ | ⟨m,hp,hd,hle,hmm⟩
   ·exact .inl ⟨p,hp,by simp; omega⟩
   ·refine .inr ⟨m,hp,?_,fun hn=>by have:=h4 hn; omega,hmm⟩
    rw [hd,dig_small (by omega)]
    have e3:dch (10*0+(c.toNat - 48))=c:=by
     apply UInt8.toNat_inj.1
     rw [dch_toNat (by omega)]; omega
    rw [e3]; rfl
  ·rw [pgo_bad hb]
   exact .inl ⟨at_,rfl,by simp⟩
theorem prs_back (l:List UInt8):(∃ p:Nat,prs l=(0,10,(p:Int))∧p≤l.length)∨(∃ v:Int,prs l=(v,0,0)∧prn v=l ∧ -9223372036854775808≤v∧v≤9223372036854775807):=by
 cases hn:isNeg l
 ·have e:prs l=pgo false 0 l 0 0:=by simp [prs,hn]
  rw [e]
  rcases pgo_begin false 0 l with ⟨p,hp,hl⟩ | ⟨m,hp,hd,_,hm⟩
  ·exact .inl ⟨p,hp,by omega⟩
  ·have hm':m≤9223372036854775807:=hm
   refine .inr ⟨m,hp,?_,by omega,by omega⟩
   unfold prn; rw [if_neg (by omega),← hd]; rfl
 ·obtain ⟨r,rfl⟩ : ∃ r,l=45::r:=by
   cases l with
   | nil=>simp [isNeg] at hn
   | cons c r=>exact ⟨r,by simp [isNeg] at hn; rw [hn]⟩
  have e:prs (45::r)=pgo true 1 r 1 0:=by simp [prs,hn]
  rw [e]
  rcases pgo_begin true 1 r with ⟨p,hp,hl⟩ | ⟨m,hp,hd,h0,hm⟩
  ·exact .inl ⟨p,hp,by simp; omega⟩
  ·have hm':m≤9223372036854775808:=hm
   have:=h0 rfl
   refine .inr ⟨-(m:Int),hp,?_,by omega,by omega⟩
   unfold prn; rw [if_pos (by omega),Int.neg_neg,← hd]; rfl
end Go.Proofs.YtbflekglkkdipaaGreatDoor.ws
namespace Go.Proofs.YtbflekglkkdipaaGreatDoor.am
open Go
set_option linter.unusedSimpArgs false
def mvOk (k nx:Nat) (ρ:List Nat):Bool:=Nat.beq ρ.length k && decide ρ.Nodup && Nat.ble k nx && Nat.ble nx HMod && (List.range k).all fun i=>match ρ[i]? with | some h=>(Nat.beq h i || Nat.ble k h) && Nat.blt h nx | none=>false
def zipB (ρ:List Nat):List Nat→List Blk→List (Nat × Option Blk)
 | h::r,b::l=>(h,some (b.out ρ))::zipB ρ r l
 | _,_=>[]
def mvL (ρ:List Nat) (nx:Nat) (args:List AV) (bin:List Blk):LS:=⟨numL 0 (outL ρ args),zipB ρ ρ bin,nx⟩
def gmv (g:Gh) (k:Nat) (ρ:List Nat):Gh:=⟨fun h=>match idx ρ h with | some i=>g i | none=>if h<k then (match g h with | .un => .un | _ => .dead) else g h,g.X,g.D,fun h b=>match idx ρ h with | some i=>g.F i b | none=>g.F h b⟩
theorem zipB_lk (ρ0:List Nat) : ∀ (ρ:List Nat) (bin:List Blk),ρ.length=bin.length → ∀ h,lkM (zipB ρ0 ρ bin) h=match idx ρ h with | some i=>(bin[i]?).map (Blk.out ρ0) | none=>none
 | [],[],_,h=>rfl
 | k::r,b::l,hl,h=>by
  have ih:=zipB_lk ρ0 r l (by simpa using hl) h
  unfold lkM at ih ⊢
  unfold zipB
  rw [lk_cons]
  unfold idx
  cases hb:Nat.beq k h with
  | true=>rfl
  | false =>
   rw [cond_false,cond_false,ih]
   cases idx r h with
   | none=>rfl
   | some i=>simp
 | [],_::_,hl,_=>by simp at hl
 | _::_,[],hl,_=>by simp at hl
section
variable {X:Gh→World→Prop} {P:Program} {N:Nat} {c:Code} {Q:AX→AS→Prop} {args:List AV} {bin:List Blk} {ρ:List Nat} {nx:Nat}
theorem Wp.mv (hρ:mvOk bin.length nx ρ=true) (ha:belowL bin.length args=true) (hb:bin.all (Blk.lowH bin.length)=true) (h:Wp X P bin.length N c Q (mvL ρ nx args bin).st):Wp X P bin.length N c Q (AS.init args bin):=by
 intro g0 g w0 w act hk hs
 refine h g0 (gmv g bin.length ρ) w0 w act hk ?_
 unfold mvOk at hρ
 simp only [Bool.and_eq_true,decide_eq_true_eq] at hρ
 obtain ⟨⟨⟨⟨q1,q2⟩,q3⟩,q4⟩,q5⟩:=hρ
 have q1:=Nat.eq_of_beq_eq_true q1
 have q3:=Nat.le_of_ble_eq_true q3
 have q4:=Nat.le_of_ble_eq_true q4
 have hr : ∀ i h,ρ[i]? = some h→(h=i∨bin.length≤h)∧h<nx:=fun i h hi=>by
  have hlt:=(List.getElem?_eq_some_iff.1 hi).1
  have:=List.all_eq_true.1 q5 i (List.mem_range.2 (by omega))
  rw [hi] at this
  simp only [Bool.and_eq_true,Bool.or_eq_true] at this
  exact ⟨this.1.imp Nat.eq_of_beq_eq_true Nat.le_of_ble_eq_true,Nat.le_of_ble_eq_true this.2⟩
 have hun : ∀ h,bin.length≤h % HMod→g h = .un:=hs.un
 have hnew : ∀ i h,idx ρ h=some i→h=i∨(bin.length≤h∧g h = .un):=fun i h hi=>by
  obtain ⟨e1,e2⟩:=hr i h (idx_some hi)
  rcases e1 with e1 | e1
  ·exact .inl e1
  ·exact .inr ⟨e1,hun h (by rw [Nat.mod_eq_of_lt (by omega)]; exact e1)⟩
 have hlt : ∀ i h,idx ρ h=some i→i<bin.length:=fun i h hi=>by
  have:=(List.getElem?_eq_some_iff.1 (idx_some hi)).1; omega
 have hget : ∀ i h,idx ρ h=some i→gmv g bin.length ρ h=g i:=fun i h hi=>by
  show (match idx ρ h with | some i=>g i | none=>_)=_
  rw [hi]
 have hnone : ∀ h,idx ρ h=none→bin.length≤h→gmv g bin.length ρ h=g h:=fun h hi hk=>by
  show (match idx ρ h with | some i=>g i | none=>if h<bin.length then _ else g h)=_
  rw [hi]
  exact if_neg (by omega)
 have hdead : ∀ h,idx ρ h=none→h<bin.length → ∀ l,gmv g bin.length ρ h ≠ .live l:=fun h hi hk l e=>by
  have e2:(match idx ρ h with | some i=>g i | none=>if h<bin.length then (match g h with | .un => .un | _ => .dead) else g h) = .live l:=e
  rw [hi] at e2
  simp only [if_pos hk] at e2
  cases hg:g h <;> rw [hg] at e2 <;> cases e2
 have hF : ∀ i h,idx ρ h=some i→(gmv g bin.length ρ).F h=g.F i:=fun i h hi=>by
  funext b
  show (match idx ρ h with | some i=>g.F i b | none=>g.F h b)=_
  rw [hi]
 have owns : ∀ h b,Owns (gmv g bin.length ρ) h b→(∃ i,idx ρ h=some i∧Owns g i b)∨(idx ρ h=none∧bin.length≤h∧Owns g h b):=fun h b ho=>by
  obtain ⟨l,e1,e2⟩:=ho
  cases hi:idx ρ h with
  | some i =>
   refine .inl ⟨i,rfl,l,(hget i h hi).symm.trans e1,?_⟩
   rw [hF i h hi] at e2
   exact e2
  | none =>
   rcases Nat.lt_or_ge h bin.length with q | q
   ·exact absurd e1 (hdead h hi q l)
   ·refine .inr ⟨rfl,q,l,(hnone h hi q).symm.trans e1,?_⟩
    have e3:l.b=some b∨(match idx ρ h with | some i=>g.F i b | none=>g.F h b):=e2
    rw [hi] at e3
    exact e3
 have owns2 : ∀ h b,Owns (gmv g bin.length ρ) h b → ∃ i,Owns g i b:=fun h b ho=>(owns h b ho).elim (fun ⟨i,_,e⟩=>⟨i,e⟩) fun ⟨_,_,e⟩=>⟨h,e⟩
 have hok : ∀ b,okB g w b→okB (gmv g bin.length ρ) w b:=fun b hb=>⟨hb.1,hb.2.1,fun h ho=>by obtain ⟨i,e⟩:=owns2 h b ho; exact hb.2.2 i e⟩
 have hh : ∀ i h,ρ[i]? = some h→gmv g bin.length ρ h=g i:=fun i h hi=>hget i h (idx_of q2 hi)
 have hm:=hs.mem
 have hmem : ∀ h b',(mvL ρ nx args bin).st.m h=some b' → ∃ i b,idx ρ h=some i∧bin[i]? = some b∧b'=b.out ρ:=fun h b' hb'=>by
  have e:lkM (zipB ρ ρ bin) h=some b':=hb'
  rw [zipB_lk ρ ρ bin q1] at e
  cases hi:idx ρ h with
  | none=>rw [hi] at e; cases e
  | some i =>
   rw [hi] at e
   simp only [Option.map_eq_some_iff] at e
   obtain ⟨b,e1,e2⟩:=e
   exact ⟨i,b,rfl,e1,e2.symm⟩
 refine ⟨hs.size,hs.defers,fun i a hi => ?_,⟨fun h b' hb' => ?_,fun h h' b e1 e2 => ?_,fun h b e => ?_,hm.xlt,fun h b e => ?_,fun b Q hq => ?_⟩,fun h hh2 => ?_,?_⟩
 ·have e:lk (numL 0 (outL ρ args)) i=some a:=hi
  rw [numL_lk,if_pos (Nat.zero_le _),Nat.sub_zero,outL_get,Option.map_eq_some_iff] at e
  obtain ⟨a0,e1,rfl⟩:=e
  obtain ⟨e2,e3⟩:=hs.fr i a0 e1
  exact ⟨e2,e3.out q1.symm hok hh (belowL_get ha e1)⟩
 ·obtain ⟨i,b,e1,e2,rfl⟩:=hmem h b' hb'
  obtain ⟨l,e3,e4⟩:=hm.blk i b e2
  refine ⟨l,(hget i h e1).trans e3,?_⟩
  rw [hF i h e1]
  exact e4.out q1.symm hok hh (List.all_eq_true.1 hb b (List.mem_of_getElem? e2))
 ·rcases owns h b e1 with ⟨i,a1,a2⟩ | ⟨a1,a2,a3⟩ <;> rcases owns h' b e2 with ⟨i',b1,b2⟩ | ⟨b1,b2,b3⟩
  ·have:=hm.inj i i' b a2 b2
   subst this
   have c1:=idx_some a1
   rw [idx_some b1] at c1
   exact (Option.some.inj c1).symm
  ·have:=hm.inj i h' b a2 b3
   have:=hlt i h a1
   omega
  ·have:=hm.inj h i' b a3 b2
   have:=hlt i' h' b1
   omega
  ·exact hm.inj h h' b a3 b3
 ·obtain ⟨i,e⟩:=owns2 h b e
  exact hm.lt i b e
 ·obtain ⟨i,e⟩:=owns2 h b e
  exact hm.xl i b e
 ·exact ⟨⟨(hm.gl b Q hq).1.1,fun h ho=>by obtain ⟨i,e⟩:=owns2 h b ho; exact (hm.gl b Q hq).1.2 i e⟩,(hm.gl b Q hq).2⟩
 ·have hh3:nx≤h % HMod:=hh2
  have hle:=Nat.mod_le h HMod
  have hi:idx ρ h=none:=by
   cases hi:idx ρ h with
   | none=>rfl
   | some i=>have:=(hr i h (idx_some hi)).2; omega
  rw [hnone h hi (by omega)]
  exact hun h (by omega)
 ·refine hs.grow.trans ⟨rfl,rfl,rfl,Nat.le_refl _,fun _ _=>rfl,fun _ _=>rfl,rfl,fun h hh2 => ?_,fun h l e => ?_,fun h b e => .inl (owns2 h b e)⟩
  ·cases hi:idx ρ h with
   | some i =>
    rw [hget i h hi]
    rcases hnew i h hi with rfl | ⟨_,e⟩
    ·exact hh2
    ·exact absurd e hh2
   | none =>
    rcases Nat.lt_or_ge h bin.length with q | q
    ·intro e
     have e2:(match idx ρ h with | some i=>g i | none=>if h<bin.length then (match g h with | .un => .un | _ => .dead) else g h) = .un:=e
     rw [hi] at e2
     simp only [if_pos q] at e2
     cases hg:g h <;> first | exact hh2 hg | (rw [hg] at e2; cases e2) | (simp [hg] at e2)
    ·rw [hnone h hi q]; exact hh2
  ·cases hi:idx ρ h with
   | some i =>
    rw [hget i h hi] at e
    rcases hnew i h hi with rfl | ⟨_,e2⟩
    ·exact .inl e
    ·exact .inr e2
   | none =>
    rcases Nat.lt_or_ge h bin.length with q | q
    ·exact absurd e (hdead h hi q l)
    ·rw [hnone h hi q] at e; exact .inl e
end
theorem Ctr.mv (cuts ρ0:List Nat) (nx:Nat) {P:Program} {T:Ty} (hT:TOk P T) (hmix:P.follows .mixedOrders=true) {f:Nat} {fn:Func} {c:Code} (hf:P.funcs[f]? = some fn) (hb:fn.body=some c) (hcall:Callable P f) {args:List AV} {bin:List Blk} {res:AE} {bout:List (Option Blk)}
  (hN:Nat.ble args.length fn.ntmps=true) (h:SOk (AS.init args bin)→awpL XT P T bin.length fn.ntmps cuts c (fun x s => ∃ ρ,rhoOk bin.length ρ=true∧ρ.length=bout.length∧afinR T ρ fn.results.toList res bout x s.st) (mvL ρ0 nx args bin))
  (h1:mvOk bin.length nx ρ0=true:=by exact rfl) (h2:belowL bin.length args=true:=by exact rfl) (h3:bin.all (Blk.lowH bin.length)=true:=by exact rfl):Ctr P f args bin res bout :=
 Ctr.introR hT hf hb hcall hN fun hok=>Wp.mv h1 h2 h3 (by
  refine (awpL_sound hT hmix c _ _ (h hok)).mono fun x s hx => ?_
  obtain ⟨ls,rfl,hx⟩:=hx
  exact hx)
end Go.Proofs.YtbflekglkkdipaaGreatDoor.am
