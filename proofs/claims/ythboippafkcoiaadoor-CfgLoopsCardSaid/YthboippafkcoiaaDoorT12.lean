/- Plain: the unit of a program that Check lets pass is right. Plain: what check's OK gives the lowering. Contract: the law's parts (how many nodes -/
import Derived.Test.YthboippafkcoiaaDoorT11
import Derived.Test.YthboippafkcoiaaDoorT10
import Derived.Test.YthboippafkcoiaaDoorT8
import Derived.Test.YthboippafkcoiaaDoorProg
import Derived.WalkLawsBesides
import Derived.Deep.WholeRow
import Derived.Lib.Hide
import Derived.Below
import Derived.Test.YthboippafkcoiaaDoorT6
import Derived.Lib.Mul64
import Derived.Laws.Bits64b
import Derived.ShutString
import Derived.Test.YthboippafkcoiaaDoorT9
set_option linter.all false
namespace Go.Proofs.YthboippafkcoiaaDoor.am
open Go Go.Proofs
set_option linter.all false
theorem lowTs_some (p:Prg) : ∀ (l:List Thread) (i:Nat) (gs:List Gr),(∀ th ∈ l,th.locals.length≤64)→lowTs p i l=some gs→gs.length=l.length ∧ ∀ j th,l[j]? = some th→gs[j]? = some (thrG p (i+j) th)∧szB (thrC p (i+j) th) th.body<4096
 | [],i,gs,_,h=>by cases h; exact ⟨rfl,fun j th e=>by cases e⟩
 | x::r,i,gs,hl,h=>by
  unfold lowTs at h
  cases ho:(endS (blockS (thrC p i x) x.body (low0 x))).over with
  | true=>rw [ho] at h; cases h
  | false =>
   rw [ho,cond_false] at h
   cases hr:lowTs p (i+1) r with
   | none=>rw [hr] at h; cases h
   | some q =>
    rw [hr] at h
    cases h
    obtain ⟨e1,e2⟩:=thr_lw p i x (hl x (.head _)) ho
    obtain ⟨e3,e4⟩:=lowTs_some p r (i+1) q (fun th hm=>hl th (.tail _ hm)) hr
    refine ⟨by rw [List.length_cons,List.length_cons,e3],fun j th e => ?_⟩
    cases j with
    | zero =>
     cases e
     exact ⟨congrArg some e1,e2⟩
    | succ j =>
     have:=e4 j th e
     rwa [show i+1+j=i+(j+1) by omega] at this
theorem localI_lt {p:Prg} {t:Nat} {th:Thread} (ht:p.threads[t]? = some th) (name:ByteArray):localI p t name<(locN th:Nat):=by
 unfold localI
 rw [if_neg (by omega),Int.toNat_natCast,ht]
 have:=findI_lt th.locals name 0
 rw [Nat.zero_add] at this
 unfold locN
 rw [List.length_map]
 exact this
theorem thr_right {p:Prg} (hp:PrgOk p) {t:Nat} {th:Thread} (ht:p.threads[t]? = some th) (hz:szB (thrC p t th) th.body<4096) (gs:List Gr) : ∀ n ∈ (thrG p t th).nodes,rightB ⟨p.shared,p.locks,gs⟩ (thrG p t th) n=true:=by
 have hlen:=thr_len p t th
 have hc:RCtx (thrC p t th) ⟨p.shared,p.locks,gs⟩ (thrG p t th) (locN th+slB (thrC p t th) th.body) (szB (thrC p t th) th.body+1):=⟨rfl,hlen,by omega,rfl,rfl,fun name=>by have:=localI_lt ht name; show localI p t name<_; omega⟩
 have hk:=stmtsF_ok (thrC p t th) th.body 1 (hp.threads t th ht).body
 exact mem_app (block_right hc th.body 0 (locN th) _ hk (by omega) (Nat.le_refl _) (by omega)) (mem_cons2 (right_end hc.slots hc.nodes (by omega)) mem_nil)
theorem thr_bad {p:Prg} (hp:PrgOk p) {t:Nat} {th:Thread} (ht:p.threads[t]? = some th) (hz:szB (thrC p t th) th.body<4096):grBad (thrG p t th)=false:=by
 have hlen:=thr_len p t th
 have hl:=decls_few (most:=64) (hp.threads t th ht).locals
 have hs:=slB_le (thrC p t th) th.body
 have e1:locN th≤64:=by unfold locN; rw [List.length_map]; exact hl
 unfold grBad
 simp only [Bool.or_eq_false_iff,decide_eq_false_iff_not]
 show ((((¬ ((locN th:Nat):Int)<0 ∧ ¬ ((locN th:Nat):Int) > 64) ∧ ¬ ((locN th+slB (thrC p t th) th.body:Nat):Int)<(locN th:Nat)) ∧ ¬ ((locN th+slB (thrC p t th) th.body:Nat):Int) > 4160) ∧ ¬ ((thrD p t th).length:Int)<1) ∧ ¬ ((thrD p t th).length:Int) > 4096
 omega
structure UnOk (p:Prg) (gs:List Gr):Prop where
 prg:PrgOk p
 len:gs.length=p.threads.length
 at_ : ∀ t th,p.threads[t]? = some th→gs[t]? = some (thrG p t th)∧szB (thrC p t th) th.body<4096
theorem unit_ok {p:Prg} {gs:List Gr} (hc:(checkW p).1=0) (h:lowTs p 0 p.threads=some gs):UnOk p gs:=by
 have hp:=check_prg hc
 have hm : ∀ th ∈ p.threads,th.locals.length≤64:=fun th hm=>by
  obtain ⟨i,hi,e⟩:=List.mem_iff_getElem.1 hm
  exact decls_few (most:=64) (hp.threads i th (by rw [List.getElem?_eq_getElem hi,e])).locals
 obtain ⟨h1,h2⟩:=lowTs_some p p.threads 0 gs hm h
 have h3 : ∀ t th,p.threads[t]? = some th→gs[t]? = some (thrG p t th)∧szB (thrC p t th) th.body<4096:=fun t th e=>by
  have:=h2 t th e; rwa [Nat.zero_add] at this
 exact ⟨hp,h1,h3⟩
theorem lower_cases (p:Prg):((lowerU p).2≠0∧(lowerU p).1=⟨[],[],[]⟩) ∨ ∃ gs,lowerU p=(⟨p.shared,p.locks,gs⟩,0)∧UnOk p gs:=by
 unfold lowerU
 cases hc:((checkW p).1 != 0) with
 | true =>
  rw [cond_true]
  exact .inl ⟨by simpa using hc,rfl⟩
 | false =>
  rw [cond_false]
  cases hl:lowTs p 0 p.threads with
  | none=>exact .inl ⟨(show (3:Int)≠0 by decide),rfl⟩
  | some gs=>exact .inr ⟨gs,rfl,unit_ok (by simpa using hc) hl⟩
end Go.Proofs.YthboippafkcoiaaDoor.am
namespace Go.Proofs.YthboippafkcoiaaDoor.am
open Go Go.Proofs
set_option linter.all false
theorem least_pos : ∀ (l:List Int) (a:Int),0<a→0<leastW l a
 | [],a,h=>h
 | r::l,a,h=>by
  show 0<leastW l (bif decide (r > 0) && ((a == 0) || decide (r<a)) then r else a)
  refine least_pos l _ ?_
  cases hr:decide (r > 0) with
  | false=>exact h
  | true =>
   have:=of_decide_eq_true hr
   rw [Bool.true_and]
   cases ((a == 0) || decide (r<a)) with
   | true=>exact this
   | false=>exact h
theorem least_none : ∀ (l:List Int),decide (leastW l 0 > 0)=false → ∀ r ∈ l,r≤0
 | [],_,r,hr=>by cases hr
 | q::l,h,r,hr=>by
  have h:decide (leastW l (bif decide (q > 0) && (((0:Int) == 0) || decide (q<0)) then q else 0) > 0)=false:=h
  cases hq:decide (q > 0) with
  | true =>
   rw [hq] at h
   have h2:=of_decide_eq_false h
   exact absurd (least_pos l q (of_decide_eq_true hq)) h2
  | false =>
   rw [hq] at h
   rcases List.mem_cons.1 hr with rfl | hr
   ·have:=of_decide_eq_false hq; omega
   ·exact least_none l h r hr
theorem when_no {k:Int} {b:Bool} (hk:0<k) (h:whenI k b≤0):b=false:=by
 unfold whenI at h
 cases b with
 | false=>rfl
 | true=>rw [cond_true] at h; omega
theorem parts_wf {kind op word:Int} {name:ByteArray} {kids:List Expr} {at_:Int} (h:partsB (.mk kind op word name kids at_)=true):(kind == 1 || kind == 2 || (bif two op then decide (2≤kids.length) else decide (1≤kids.length)))=true∧(kind=1∨kind=2∨kind=3∨kind=4)∧(kind=3→two op=false)∧(kind=4→two op=true):=by
 unfold partsB at h
 dsimp only at h
 cases h1:(kind == 1) with
 | true =>
  have:=eq_of_beq h1
  exact ⟨rfl,.inl this,fun e=>by omega,fun e=>by omega⟩
 | false =>
 rw [h1,cond_false] at h
 cases h2:(kind == 2) with
 | true =>
  have:=eq_of_beq h2
  exact ⟨rfl,.inr (.inl this),fun e=>by omega,fun e=>by omega⟩
 | false =>
 rw [h2,cond_false] at h
 cases h3:(kind == 3) with
 | true =>
  rw [h3,cond_true] at h
  simp only [Bool.and_eq_true,beq_iff_eq,Bool.or_eq_true] at h
  have e3:=eq_of_beq h3
  have hl:=h.1.2
  rw [erows_len] at hl
  have ht:two op=false:=by
   rcases h.2 with rfl | rfl <;> rfl
  refine ⟨?_,.inr (.inr (.inl e3)),fun _=>ht,fun e=>by omega⟩
  rw [ht]
  simp only [Bool.false_or,cond_false,decide_eq_true_eq]
  omega
 | false =>
 rw [h3,cond_false] at h
 cases h4:(kind == 4) with
 | false=>rw [h4] at h; cases h
 | true =>
  rw [h4,cond_true] at h
  simp only [Bool.and_eq_true,beq_iff_eq] at h
  have e4:=eq_of_beq h4
  have hl:=h.1.2
  rw [erows_len] at hl
  refine ⟨?_,.inr (.inr (.inr e4)),fun e=>by omega,fun _=>h.2⟩
  rw [h.2]
  simp only [Bool.false_or,cond_true,decide_eq_true_eq]
  omega
mutual
def fitE:Expr→Bool
 | .mk kind op _ _ kids _=>(kind == 1 || kind == 2 || (kind == 3 && !two op) || (kind == 4 && two op)) && fitEs kids
def fitEs:List Expr→Bool
 | []=>true
 | e::l=>fitE e && fitEs l
end
mutual
theorem exprW_wf (top locals:MI) : ∀ (e:Expr) (deep:Int),exprW top locals e deep=none→wfE e=true∧fitE e=true
 | .mk kind op word name kids at_,deep,h=>by
  have hk:=exprsW_wf top locals kids (deep+1)
  unfold exprW at h
  cases hb:decide (leastW (exprRules top locals kind op word name kids at_ deep) 0 > 0) with
  | true=>rw [hb] at h; cases h
  | false =>
   rw [hb,cond_false] at h
   have hp:=when_no (by decide) (least_none _ hb (whenI 4 (!partsB (.mk kind op word name kids at_))) (by unfold exprRules; simp))
   rw [Bool.not_eq_false'] at hp
   obtain ⟨p1,p2,p3,p4⟩:=parts_wf hp
   obtain ⟨k1,k2⟩:=hk h
   refine ⟨by unfold wfE; rw [p1,k1]; rfl,?_⟩
   unfold fitE
   rw [k2,Bool.and_true]
   rcases p2 with rfl | rfl | rfl | rfl
   ·rfl
   ·rfl
   ·rw [p3 rfl]; rfl
   ·rw [p4 rfl]; rfl
theorem exprsW_wf (top locals:MI) : ∀ (l:List Expr) (deep:Int),exprsW top locals l deep=none→wfEs l=true∧fitEs l=true
 | [],_,_=>⟨by unfold wfEs; rfl,by unfold fitEs; rfl⟩
 | e::l,deep,h=>by
  unfold exprsW at h
  cases he:exprW top locals e deep with
  | some f=>rw [he] at h; cases h
  | none =>
   rw [he] at h
   obtain ⟨a1,a2⟩:=exprW_wf top locals e deep he
   obtain ⟨b1,b2⟩:=exprsW_wf top locals l deep h
   exact ⟨by unfold wfEs; rw [a1,b1]; rfl,by unfold fitEs; rw [a2,b2]; rfl⟩
end
theorem fields_wf {kind:Int} {name other:ByteArray} {e:List Expr} {body els:List Stmt} {at_:Int} (h:fieldsB (.mk kind name other e body els at_)=true):(decide (1≤kind) && decide (kind≤7))=true∧(kind == 5 || kind == 7 || decide (1≤e.length))=true∧(kind=1∨kind=2∨kind=6∨kind=7→body=[]∧els=[])∧(kind=4∨kind=5→els=[])∧(kind=5∨kind=7→e=[])∧e.length≤1:=by
 have nil : ∀ l:List Stmt,(!decide (((Stmt.rows l).length:Int) > 0))=true→l=[]:=fun l q=>by
  rw [Bool.not_eq_true'] at q
  have:=of_decide_eq_false q
  rw [srows_len] at this
  exact List.eq_nil_of_length_eq_zero (by omega)
 have one:(((Expr.rows e).length:Int) == 1)=true→e.length=1:=fun q=>by
  have:=eq_of_beq q
  rw [erows_len] at this
  omega
 have zer:(((Expr.rows e).length:Int) == 0)=true→e=[]:=fun q=>by
  have:=eq_of_beq q
  rw [erows_len] at this
  exact List.eq_nil_of_length_eq_zero (by omega)
 unfold fieldsB at h
 dsimp only at h
 cases h1:(kind == 1) with
 | true =>
  rw [h1,cond_true] at h
  obtain rfl:=eq_of_beq h1
  simp only [Bool.and_eq_true] at h
  have l1:=one h.1.1.2
  exact ⟨rfl,by rw [l1]; rfl,fun _=>⟨nil _ h.1.2,nil _ h.2⟩,fun q=>by omega,fun q=>by omega,by omega⟩
 | false =>
 rw [h1,cond_false] at h
 cases h2:(kind == 2) with
 | true =>
  rw [h2,cond_true] at h
  obtain rfl:=eq_of_beq h2
  simp only [Bool.and_eq_true] at h
  have l1:=one h.1.1
  exact ⟨rfl,by rw [l1]; rfl,fun _=>⟨nil _ h.1.2,nil _ h.2⟩,fun q=>by omega,fun q=>by omega,by omega⟩
 | false =>
 rw [h2,cond_false] at h
 cases h3:(kind == 3) with
 | true =>
  rw [h3,cond_true] at h
  obtain rfl:=eq_of_beq h3
  simp only [Bool.and_eq_true] at h
  have l1:=one h.2
  exact ⟨rfl,by rw [l1]; rfl,fun q=>by omega,fun q=>by omega,fun q=>by omega,by omega⟩
 | false =>
 rw [h3,cond_false] at h
 cases h4:(kind == 4) with
 | true =>
  rw [h4,cond_true] at h
  obtain rfl:=eq_of_beq h4
  simp only [Bool.and_eq_true] at h
  have l1:=one h.1.2
  exact ⟨rfl,by rw [l1]; rfl,fun q=>by omega,fun _=>nil _ h.2,fun q=>by omega,by omega⟩
 | false =>
 rw [h4,cond_false] at h
 cases h5:(kind == 5) with
 | true =>
  rw [h5,cond_true] at h
  obtain rfl:=eq_of_beq h5
  simp only [Bool.and_eq_true] at h
  have l0:=zer h.1.2
  exact ⟨rfl,rfl,fun q=>by omega,fun _=>nil _ h.2,fun _=>l0,by rw [l0]; exact Nat.zero_le _⟩
 | false =>
 rw [h5,cond_false] at h
 cases h6:(kind == 6) with
 | true =>
  rw [h6,cond_true] at h
  obtain rfl:=eq_of_beq h6
  simp only [Bool.and_eq_true] at h
  have l1:=one h.1.1.2
  exact ⟨rfl,by rw [l1]; rfl,fun _=>⟨nil _ h.1.2,nil _ h.2⟩,fun q=>by omega,fun q=>by omega,by omega⟩
 | false =>
 rw [h6,cond_false] at h
 cases h7:(kind == 7) with
 | false=>rw [h7] at h; cases h
 | true =>
  rw [h7,cond_true] at h
  obtain rfl:=eq_of_beq h7
  simp only [Bool.and_eq_true] at h
  have l0:=zer h.1.1.2
  exact ⟨rfl,rfl,fun _=>⟨nil _ h.1.2,nil _ h.2⟩,fun q=>by omega,fun _=>l0,by rw [l0]; exact Nat.zero_le _⟩
mutual
def fitS:Stmt→Bool
 | .mk _ _ _ e body els _=>fitEs e && (fitSs body && fitSs els)
def fitSs:List Stmt→Bool
 | []=>true
 | x::r=>fitS x && fitSs r
end
mutual
theorem stmtW_wf (top locals:MI) : ∀ (x:Stmt) (deep:Int),stmtW top locals x deep=none→wfS x=true∧fitS x=true
 | .mk kind name other e body els at_,deep,h=>by
  have hb1:=blockW_wf top locals body (deep+1)
  have hb2:=blockW_wf top locals els (deep+1)
  unfold stmtW at h
  cases hb:decide (leastW (stmtRules top locals kind name other e body els at_ deep) 0 > 0) with
  | true=>rw [hb] at h; cases h
  | false =>
   rw [hb,cond_false] at h
   have hp:=when_no (by decide) (least_none _ hb (whenI 4 (!fieldsB (.mk kind name other e body els at_))) (by unfold stmtRules; cases kind == 1 <;> cases kind == 2 <;> cases kind == 5 <;> simp))
   rw [Bool.not_eq_false'] at hp
   obtain ⟨f1,f2,_⟩:=fields_wf hp
   cases he:exprsW top locals e 1 with
   | some f=>rw [he] at h; cases h
   | none =>
    rw [he] at h
    cases hbd:blockW top locals body (deep+1) with
    | some f=>simp only [hbd] at h; cases h
    | none =>
     simp only [hbd] at h
     obtain ⟨e1,e2⟩:=exprsW_wf top locals e 1 he
     obtain ⟨b1,b2⟩:=hb1 hbd
     obtain ⟨c1,c2⟩:=hb2 h
     exact ⟨by unfold wfS; rw [f1,f2,e1,b1,c1]; rfl,by unfold fitS; rw [e2,b2,c2]; rfl⟩
theorem blockW_wf (top locals:MI) : ∀ (l:List Stmt) (deep:Int),blockW top locals l deep=none→wfSs l=true∧fitSs l=true
 | [],_,_=>⟨by unfold wfSs; rfl,by unfold fitSs; rfl⟩
 | x::r,deep,h=>by
  unfold blockW at h
  cases hx:stmtW top locals x deep with
  | some f=>rw [hx] at h; cases h
  | none =>
   rw [hx] at h
   obtain ⟨a1,a2⟩:=stmtW_wf top locals x deep hx
   obtain ⟨b1,b2⟩:=blockW_wf top locals r deep h
   exact ⟨by unfold wfSs; rw [a1,b1]; rfl,by unfold fitSs; rw [a2,b2]; rfl⟩
end
theorem thsW_wf (p:Prg) (top:MI) : ∀ (l:List Thread) (i:Nat) (m:MI),thsW p top l i m=none → ∀ th ∈ l,threadW p top th=none
 | [],_,_,_,th,h=>by cases h
 | t::r,i,m,h,th,hm=>by
  unfold thsW at h
  cases hb:decide (leastW (thRules m i t) 0 > 0) with
  | true=>rw [hb] at h; cases h
  | false =>
   rw [hb,cond_false] at h
   cases ht:threadW p top t with
   | some f=>rw [ht] at h; cases h
   | none =>
    rw [ht] at h
    rcases List.mem_cons.1 hm with rfl | hm
    ·exact ht
    ·exact thsW_wf p top r _ _ h th hm
theorem check_wf {p:Prg} (h:(checkW p).1=0) : ∀ th ∈ p.threads,wfSs th.body=true∧fitSs th.body=true:=by
 intro th hth
 unfold checkW at h
 cases hf:firstW p with
 | some f=>rw [hf] at h; exact absurd (show (50:Int)=0 from h) (by decide)
 | none =>
  unfold firstW at hf
  split at hf
  ·cases hf
  ·split at hf
   ·cases hf
   ·have:=thsW_wf p _ _ _ _ hf th hth
    unfold threadW at this
    split at this
    ·cases this
    ·exact blockW_wf _ _ _ _ this
end Go.Proofs.YthboippafkcoiaaDoor.am
namespace Go.Proofs.YthboippafkcoiaaDoor.am
open Go Go.Proofs
set_option linter.all false
def sumK (c:LowC):List Expr→Nat
 | []=>0
 | e::l=>szE c e+sumK c l
theorem sumK_take (c:LowC) : ∀ (l:List Expr) (i:Nat) (d:Expr),l[i]? = some d→sumK c (l.take (i+1))=sumK c (l.take i)+szE c d∧sumK c (l.take i)+szE c d≤sumK c l
 | [],i,d,h=>by cases h
 | e::l,0,d,h=>by cases h; show szE c e+0=0+szE c e∧0+szE c e≤szE c e+sumK c l; omega
 | e::l,i+1,d,h=>by
  have:=sumK_take c l i d h
  show szE c e+sumK c (l.take (i+1))=szE c e+sumK c (l.take i)+szE c d∧szE c e+sumK c (l.take i)+szE c d≤szE c e+sumK c l
  omega
theorem szE_sum {c:LowC} {kind op word:Int} {name:ByteArray} {kids:List Expr} {at_:Int} (hk:okE c (.mk kind op word name kids at_)=true) (h1:(kind == 1)=false) (h2:(kind == 2)=false):szE c (.mk kind op word name kids at_)=sumK c kids+1∧okEs c kids=true:=by
 unfold okE at hk
 simp only [Bool.and_eq_true] at hk
 obtain ⟨⟨hp,_⟩,hks⟩:=hk
 refine ⟨?_,hks⟩
 unfold partsB at hp
 dsimp only at hp
 rw [h1,cond_false,h2,cond_false,erows_len] at hp
 unfold szE
 rw [h1,h2]
 simp only [cond_false]
 cases h3:(kind == 3) with
 | true =>
  rw [h3,cond_true] at hp
  simp only [Bool.and_eq_true,Bool.or_eq_true,beq_iff_eq] at hp
  have ht:two op=false:=by rcases hp.2 with rfl | rfl <;> rfl
  have hl:kids.length=1:=by omega
  rw [ht,cond_false]
  match kids,hl with
  | [a],_=>unfold sz0; rfl
 | false =>
 rw [h3,cond_false] at hp
 cases h4:(kind == 4) with
 | false=>rw [h4] at hp; cases hp
 | true =>
  rw [h4,cond_true] at hp
  simp only [Bool.and_eq_true,beq_iff_eq] at hp
  have hl:kids.length=2:=by omega
  rw [hp.2,cond_true]
  match kids,hl with
  | [a,b],_=>unfold sz0 sz1; unfold sz0; show _=szE c a+(szE c b+0)+1; omega
set_option maxRecDepth 100000 in
theorem k_parts6 (c:LowC) : ∀ (n:Nat) (e:Expr),SizeOf.sizeOf e<n→okE c e=true→szE c e≤4096→K 24 [c.p.av,.tr (ti (c.t:Nat)),e.av] [] (.ret (.tr (ti (szE c e:Nat)))) []:=by
 intro n
 induction n with
 | zero=>intro e h; omega
 | succ n ih =>
 intro e hsz hk hle
 obtain ⟨kind,op,word,name,kids,at_⟩:=e
 have hlo:=k21 c.p c.t name
 have hsum:=fun h1 h2=>szE_sum hk (h1:(kind == 1)=false) (h2:(kind == 2)=false)
 have hE:szE c (.mk kind op word name kids at_)=bif kind == 1 then 0 else bif kind == 2 then (bif decide (localI c.p c.t name ≥ 0) then 0 else 1) else bif two op then sz0 c kids+(sz1 c kids+1) else sz0 c kids+1:=by rw [szE]
 generalize szE c (.mk kind op word name kids at_)=N at hsum hE hle ⊢
 generalize localI c.p c.t name=lo at hlo hE
 refine Ctr.of hT hmix Tryd.func24 rfl (fun _ _=>by kernel_rfl) rfl fun hok => ?_
 have hkl:=((hok.slot 2 rfl).agg _ (.tail _ (.tail _ (.tail _ (.tail _ (.head _)))))).tr.lst.2.1
 rw [erows_len] at hkl
 clear hok
 conv=>whnf
 cases h1:(kind == 1) with
 | true =>
  rw [h1,cond_true] at hE
  subst hE
  conv=>whnf
  exact ⟨.inl rfl,trivial⟩
 | false =>
 rw [h1,cond_false] at hE
 conv=>whnf
 cases h2:(kind == 2) with
 | true =>
  rw [h2,cond_true] at hE
  conv=>whnf
  refine acall.pure _ (hlo) rfl rfl fun _ => ?_
  conv=>whnf
  cases h3:decide (lo ≥ 0) with
  | true =>
   rw [h3,cond_true] at hE
   subst hE
   conv=>whnf
   exact ⟨.inl rfl,trivial⟩
  | false =>
   rw [h3,cond_false] at hE
   subst hE
   conv=>whnf
   exact ⟨.inl rfl,trivial⟩
 | false =>
 obtain ⟨hN,hks⟩:=hsum h1 h2
 clear hE hsum
 conv=>whnf
 refine LoopL.by (fun i:Nat=>⟨[(1,.tr (ti (c.t:Nat))),(3,.ptr 0 0),(5,.ptr 1 0),(7,.tr (ti ((1+sumK c (kids.take i):Nat):Int))),(8,.tr (ti (i:Nat)))],[(0,.cells 25 [.tr (declsT c.p.shared),.tr (declsT c.p.locks),.tr (threadsT c.p.threads)]),(1,.cells 81 ((Expr.mk kind op word name kids at_).cells.map .tr))],10⟩) (fun i=>i≤kids.length) (fun i=>kids.length - i) 0 [_,_] []
  (Sub.mk' rfl ⟨.inl rfl,⟨rfl,rfl⟩,⟨rfl,rfl⟩,.inl rfl,.inl rfl,trivial⟩ ⟨⟨rfl,.inl rfl,.inl rfl,.inl rfl,trivial⟩,⟨rfl,.inl rfl,.inl rfl,.inl rfl,.inl rfl,.inl rfl,.inl rfl,trivial⟩,trivial⟩ rfl rfl) (Nat.zero_le _) ?_
 rintro i hi -
 conv=>whnf
 refine csplit (fun hit => ?_) (fun hit => ?_)
 ·replace hit:i<kids.length:=by have:decide ((i:Int)<((Expr.rows kids).length:Int))=true:=hit; have:=of_decide_eq_true this; rw [erows_len] at this; omega
  obtain ⟨d,hd⟩ : ∃ d,kids[i]? = some d:=⟨_,List.getElem?_eq_getElem hit⟩
  obtain ⟨q1,q2⟩:=sumK_take c kids i d hd
  have hsd:=size_kid hd
  have hih:=ih d (by simp only [Expr.mk.sizeOf_spec] at hsz; omega) (okEs_get hks hd) (by omega)
  have hw:ti (IntKind.i64.wrap (((1+sumK c (kids.take i):Nat):Int)+((szE c d:Nat):Int)))=ti ((1+sumK c (kids.take (i+1)):Nat):Int):=by rw [w64 (by omega) (by omega)]; congr 1; omega
  obtain ⟨x1,x2,x3,x4,x5,x6⟩:=d
  conv=>whnf
  refine ⟨rfl,(show (0:Int)≤i by omega),(show (i:Int)<((Expr.rows kids).length:Int) by rw [erows_len]; omega),fun row hrow => ?_⟩
  obtain ⟨d,hd2,rfl⟩:=erows_get hrow
  obtain rfl:=Option.some.inj (hd.symm.trans hd2)
  clear hrow hd2
  conv=>whnf
  refine acall.pure _ (hih) rfl rfl ?_
  conv=>whnf
  refine ⟨by kernel_rfl,fun _ => ?_⟩
  conv=>whnf
  exact ⟨i+1,[0,1],[],Sub.mk' rfl ⟨.inl rfl,⟨rfl,rfl⟩,⟨rfl,rfl⟩,.inl hw,.inl (ti_succ hit hkl),trivial⟩ ⟨⟨rfl,.inl rfl,.inl rfl,.inl rfl,trivial⟩,⟨rfl,.inl rfl,.inl rfl,.inl rfl,.inl rfl,.inl rfl,.inl rfl,trivial⟩,trivial⟩ rfl rfl,hit,by show kids.length - (i+1)<kids.length - i; omega⟩
 replace hit:i=kids.length:=by have:decide ((i:Int)<((Expr.rows kids).length:Int))=false:=hit; have:=of_decide_eq_false this; rw [erows_len] at this; omega
 subst hit
 rw [List.take_length]
 conv=>whnf
 refine ⟨fun _ => ?_,fun h=>absurd rfl h⟩
 conv=>whnf
 exact ⟨.inl (by rw [hN,Nat.add_comm]),trivial⟩
def manyN (c:LowC):Stmt→Nat
 | .mk kind name _ e _ _ _=>sz0 c e+((bif kind != 7 then 1 else 0)+(bif kind == 2 && decide (localI c.p c.t name<0) then 1 else 0))
def innN (d:Nat):Stmt→Nat
 | .mk kind _ _ _ _ _ _=>bif kind == 4 then d+1 else d
theorem rep_one {α:Type} (k:Nat) (d:α):List.replicate k d++[d]=List.replicate (k+1) d:=by rw [List.replicate_succ']
theorem skS_whiles {c:LowC} {kind:Int} {name other:ByteArray} {e:List Expr} {body els:List Stmt} {at_:Int} (hk:okS c (.mk kind name other e body els at_)=true) (d:Nat) :
  skDeps (skS c (.mk kind name other e body els at_)) d=List.replicate (manyN c (.mk kind name other e body els at_)) (innN d (.mk kind name other e body els at_))++(skDeps (skB c body) (innN d (.mk kind name other e body els at_))++(skDeps (skB c els) (innN d (.mk kind name other e body els at_))++(bif kind == 5 then [innN d (.mk kind name other e body els at_)] else []))):=by
 unfold okS at hk
 simp only [Bool.and_eq_true] at hk
 obtain ⟨f1,f2,f3,f4,f5,f6⟩:=fields_wf hk.1.1.1.1
 rw [Bool.and_eq_true,decide_eq_true_eq,decide_eq_true_eq] at f1
 have hn:skDeps (skB c [])=fun _=>[]:=by unfold skB; rfl
 have hz:sz0 c []=0:=by unfold sz0; rfl
 have hloc:decide (localI c.p c.t name<0) = !decide (localI c.p c.t name ≥ 0):=by
  by_cases q:localI c.p c.t name<0
  ·rw [decide_eq_true q,decide_eq_false (by omega)]; rfl
  ·rw [decide_eq_false q,decide_eq_true (by omega)]; rfl
 obtain h | h | h | h | h | h | h:kind=1∨kind=2∨kind=3∨kind=4∨kind=5∨kind=6∨kind=7:=by omega
 ·obtain ⟨rfl,rfl⟩:=f3 (.inl h)
  subst h
  rw [hn]
  show List.replicate (sz0 c e) d++List.replicate 1 d=List.replicate (sz0 c e+(1+0)) d++([]++([]++[]))
  simp [rep_one]
 ·obtain ⟨rfl,rfl⟩:=f3 (.inr (.inl h))
  subst h
  rw [hn]
  show List.replicate (sz0 c e) d++List.replicate (bif decide (localI c.p c.t name ≥ 0) then 1 else 2) d=List.replicate (sz0 c e+(1+(bif true && decide (localI c.p c.t name<0) then 1 else 0))) d++([]++([]++[]))
  rw [hloc]
  cases decide (localI c.p c.t name ≥ 0) with
  | false=>show List.replicate (sz0 c e) d++List.replicate 2 d=List.replicate (sz0 c e+2) d++([]++([]++[])); rw [List.replicate_append_replicate]; simp
  | true=>show List.replicate (sz0 c e) d++List.replicate 1 d=List.replicate (sz0 c e+1) d++([]++([]++[])); rw [List.replicate_append_replicate]; simp
 ·subst h
  show List.replicate (sz0 c e) d++(d::(skDeps (skB c body) d++skDeps (skB c els) d))=List.replicate (sz0 c e+(1+0)) d++(skDeps (skB c body) d++(skDeps (skB c els) d++[]))
  rw [show sz0 c e+(1+0)=sz0 c e+1 from rfl,← rep_one]
  simp
 ·obtain rfl:=f4 (.inl h)
  subst h
  rw [hn]
  show List.replicate (sz0 c e+1) (d+1)++skDeps (skB c body) (d+1)=List.replicate (sz0 c e+(1+0)) (d+1)++(skDeps (skB c body) (d+1)++([]++[]))
  simp
 ·obtain rfl:=f4 (.inr h)
  obtain rfl:=f5 (.inl h)
  subst h
  rw [hn]
  show List.replicate 1 d++(skDeps (skB c body) d++List.replicate 1 d)=List.replicate (sz0 c []+(1+0)) d++(skDeps (skB c body) d++([]++[d]))
  rw [hz]; rfl
 ·obtain ⟨rfl,rfl⟩:=f3 (.inr (.inr (.inl h)))
  subst h
  rw [hn]
  show List.replicate (sz0 c e) d++List.replicate 1 d=List.replicate (sz0 c e+(1+0)) d++([]++([]++[]))
  simp [rep_one]
 ·obtain ⟨rfl,rfl⟩:=f3 (.inr (.inr (.inr h)))
  obtain rfl:=f5 (.inr h)
  subst h
  rw [hn]
  show List.replicate 0 d=List.replicate (sz0 c []+(0+0)) d++([]++([]++[]))
  rw [hz]; rfl
end Go.Proofs.YthboippafkcoiaaDoor.am
namespace Go.Proofs.YthboippafkcoiaaDoor.ws
open Go Go.RowKit Go.Lib
theorem maskN (a:Nat) (ha:a<18446744073709551616):bits .and .u64 (a:Int) 4294967295=((a % 4294967296:Nat):Int):=by
 have h:=bits_and_u64_nat a 4294967295 ha (by omega)
 have e:a &&& 4294967295=a % 4294967296:=Nat.and_two_pow_sub_one_eq_mod a 32
 rw [e] at h
 exact h
theorem divN (a:Nat):(a:Int) / 4294967296=((a / 4294967296:Nat):Int):=by omega
theorem mulN (a b:Nat):(a:Int)*(b:Int)=((a*b:Nat):Int):=(Int.natCast_mul a b).symm
theorem addN (a b:Nat):(a:Int)+(b:Int)=((a+b:Nat):Int):=(Int.natCast_add a b).symm
theorem wrapN (a:Nat) (ha:a<18446744073709551616):IntKind.u64.wrap (a:Int)=(a:Int):=by rw [IntKind.wrap_u64]; omega
theorem wrapM (a:Nat):IntKind.u64.wrap (a:Int)=((a % 18446744073709551616:Nat):Int):=by rw [IntKind.wrap_u64]; omega
theorem num_u64 {a b:Int} (h:a=b):Value.int .u64 a=Value.int .u64 b:=by rw [h]
theorem ret_int3 {k l m:IntKind} {a b c a' b' c':Int} (h:a=a') (h2:b=b') (h3:c=c'):Ending.returned (.tuple #[.int k a,.int l b,.int m c]) = .returned (.tuple #[.int k a',.int l b',.int m c']):=by rw [h,h2,h3]
end Go.Proofs.YthboippafkcoiaaDoor.ws
namespace Go.Proofs.YthboippafkcoiaaDoor.ws
open Go Go.RowKit Go.Lib
end Go.Proofs.YthboippafkcoiaaDoor.ws
namespace Go.Proofs.YthboippafkcoiaaDoor.ws
open Go Go.RowKit Go.Lib
end Go.Proofs.YthboippafkcoiaaDoor.ws
namespace Go.Proofs.YthboippafkcoiaaDoor.ws
open Go Go.RowKit Go.Lib
def prRow (l:List UInt8):Array Value:=(List.replicate (20 - l.length) (Value.int .u8 0)++l.map fun c=>Value.int .u8 c.toNat).toArray
theorem prRow_eq (l:List UInt8):(prRow l).toList=List.replicate (20 - l.length) (Value.int .u8 0)++l.map fun c=>Value.int .u8 c.toNat:=rfl
theorem prRow_get (l:List UInt8) (p:Nat) (hp:1≤p) (hl:p+l.length=20):(prRow l)[p - 1]? = some (.int .u8 0):=by
 unfold prRow
 have h:20 - l.length=(p - 1)+1:=by omega
 rw [List.getElem?_toArray,List.getElem?_append_left (by simp; omega),h,List.getElem?_replicate,if_pos (by omega)]
theorem prRow_set (l:List UInt8) (c:UInt8) (p:Nat) (hp:1≤p) (hl:p+l.length=20):(prRow l).setIfInBounds (p - 1) (.int .u8 c.toNat)=prRow (c::l):=by
 unfold prRow
 have h:20 - l.length=(p - 1)+1:=by omega
 have h':20 - (c::l).length=p - 1:=by simp; omega
 rw [h,h',List.setIfInBounds_toArray,List.replicate_succ',List.append_assoc]
 congr 1
 rw [List.set_append_right _ _ (by simp)]
 simp
theorem prRow_at (l:List UInt8) (p i:Nat) (hl:p+l.length=20) (hi:i<l.length):(prRow l)[p+i]? = some (.int .u8 (l[i]'hi).toNat):=by
 unfold prRow
 rw [List.getElem?_toArray,List.getElem?_append_right (by simp; omega)]
 simp [show p+i - (20 - l.length)=i by omega,hi]
theorem slice_end (B p:Nat) (hp:1≤p) (hp2:p≤20) (W:World) :
  (Instr.sliceAt 165 (.pointer (some ⟨B,0,none⟩)) (some (.int .i64 ((p:Int) - 1))) none none).run Tryd.prog W = .ok (.slice (some ⟨B,p - 1,none⟩) (21 - p) (21 - p)) W:=by
 have hal : Tryd.prog.arrayLen 165 = 20:=by kernel_rfl
 have hu : Tryd.prog.underlying 165 = some (.array (Tryd.prog.arrayLen 165) (Tryd.prog.elem 165)):=by kernel_rfl
 have hz : ∀ W,(sizeOf (Tryd.prog.elem 165)).run Tryd.prog W = .ok 1 W:=fun W=>by kernel_rfl
 rw [run_sliceAt_array_l W _ _ hu .i64 _ (by omega) (by rw [hal]; omega),hz]
 simp only [Result.andThen,slicedAt,hal]
 have e:((p:Int) - 1).toNat=p - 1:=by omega
 rw [e,if_neg (by omega)]
 have e2:(⟨B,0,none⟩:Addr).add ((p - 1)*1)=⟨B,p - 1,none⟩:=by
  unfold Addr.add
  by_cases h:(p - 1)*1=0
  ·rw [if_pos h,show p - 1=0 by omega]
  ·rw [if_neg h]; simp
 rw [e2,show 20 - (p - 1)=21 - p by omega]
theorem conv_end (l:List UInt8) (p n:Nat) (w:World) (hl:p+l.length=20) (hn:l.length=n) :
  (convert 95 9 (.slice (some ⟨w.heap.size,p,none⟩) n n)).run Tryd.prog (w.alloc (.cells (prRow l) 165)) = .ok (.string ⟨l.toArray⟩) (w.alloc (.cells (prRow l) 165)):=by
 subst hn
 refine run_convert_bytes_back _ _ _ 5 _ _ l Tryd.underlying95 Tryd.underlying5 Tryd.underlying9 fun j hj => ?_
 have e:(⟨w.heap.size,p,none⟩:Addr).add j=⟨w.heap.size,p+j,none⟩:=by
  unfold Addr.add; split <;> simp_all
 rw [e,World.cell?_alloc_at _ _ _ _ rfl,prRow_at l p j hl hj]
theorem dig_toNat (n:Nat):(dch (n % 10)).toNat=48+n % 10:=dch_toNat (by omega)
theorem pow_bound {n j:Nat} (h:n*10 ^ j≤9223372036854775808) (hn:0<n):j≤18:=by
 apply Decidable.byContradiction
 intro hj
 have h1:10 ^ 19≤10 ^ j:=Nat.pow_le_pow_right (by decide) (by omega)
 have h2:1*10 ^ j≤n*10 ^ j:=Nat.mul_le_mul_right _ hn
 have h3:(10:Nat) ^ 19=10000000000000000000:=by decide
 omega
theorem pow_step {n j N:Nat} (h:n*10 ^ j≤N):n / 10*10 ^ (j+1)≤N:=by
 have h1:n / 10*10≤n:=Nat.div_mul_le_self n 10
 have h2:=Nat.mul_le_mul_right (10 ^ j) h1
 have h3:n / 10*10 ^ (j+1)=n / 10*10*10 ^ j:=by rw [Nat.pow_succ,Nat.mul_assoc,Nat.mul_comm 10]
 omega
def rowOf (p:Nat) (d:Int) (l:List UInt8):Array Value:=(prRow l).setIfInBounds (p - 1) (.int .u8 d)
theorem rowOf_eq (p m:Nat) (l:List UInt8) (hp:1≤p) (hl:p+l.length=20):(prRow l).setIfInBounds (p - 1) (.int .u8 (48+(m:Int) % 10))=prRow (dch (m % 10)::l):=by
 rw [← prRow_set l _ p hp hl,dig_toNat]
 rfl
theorem minus_eq (p:Nat) (l:List UInt8) (hp:1≤p) (hl:p+l.length=20):(prRow l).setIfInBounds (p - 1) (.int .u8 45)=prRow (45::l):=prRow_set l 45 p hp hl
set_option maxRecDepth 100000 in
set_option maxHeartbeats 1000000 in
theorem print_pos (N:Nat) (w:World) (hN:N≤9223372036854775807) :
  Calls Tryd.prog 91 #[.int .i64 N] w fun e w'=>e = .returned (.string ⟨(prn N).toArray⟩)∧Below w.heap.size w w':=by
 have R:Hid (prn N=dig N):=by
  show prn N=dig N
  unfold prn; rw [if_neg (by omega)]; rfl
 go_enter Tryd.func91,Tryd.ntmps91
 go_wp2
 go_loopw [4,5] (fun a n wr => ∃ (l:List UInt8) (p m:Nat),p+l.length=20∧1≤p∧a = .int .i64 p∧n = .int .u64 m∧m≤N∧Hid ((0<l.length→0<m)∧m*10 ^ l.length≤N∧dig N=dig m++l)∧wr=w.alloc (.cells (prRow l) 165)) (fun a _ _=>(intOf a).toNat)
 case atStart=>exact ⟨[],20,N,rfl,by omega,rfl,rfl,by omega,⟨fun h=>absurd h (by decide),by simp,by simp⟩,rfl⟩
 case round =>
  obtain ⟨l,p,m,hp,hp1,rfl,rfl,hmN,H,rfl⟩:=hrel
  have hg:=prRow_get l p hp1 hp
  have hsl:=slice_end w.heap.size p hp1 (by omega)
  have hrow:=rowOf_eq p m l hp1 hp
  by_cases h9:m<10
  ·have hz:(((m:Int) / 10) == 0)=true:=by simp; omega
   have hcv:=conv_end (dch (m % 10)::l) (p - 1) (21 - p) w (by simp; omega) (by simp; omega)
   go_wp2
   go_ret
   refine ⟨ret_str ?_,(Below.refl _ _).alloc (Nat.le_refl _) _⟩
   rw [R.out,H.out.2.2,dig_small h9,show m % 10=m by omega]
   rfl
  ·have hz:(((m:Int) / 10) == 0)=false:=by simp; omega
   go_wp2
   have hl18:l.length+1≤18:=pow_bound (n:=m / 10) (by have:=pow_step H.out.2.1; omega) (by omega)
   go_roundw
   case rel =>
    exact ⟨dch (m % 10)::l,p - 1,m / 10,by simp; omega,by omega,by go_num,by go_num,by omega,⟨fun _=>by omega,pow_step H.out.2.1,by rw [H.out.2.2,dig_big h9,List.append_assoc]; rfl⟩,rfl⟩
   case measure=>simp [intOf]; omega
set_option maxRecDepth 100000 in
set_option maxHeartbeats 1000000 in
theorem print_neg (N:Nat) (w:World) (hN:N≤9223372036854775808) (h0:0<N) :
  Calls Tryd.prog 91 #[.int .i64 (-(N:Int))] w fun e w'=>e = .returned (.string ⟨(prn (-(N:Int))).toArray⟩)∧Below w.heap.size w w':=by
 have R:Hid (prn (-(N:Int))=45::dig N):=by
  show prn _=_
  unfold prn; rw [if_pos (by omega),Int.neg_neg]; rfl
 have hlt : -(N:Int)<0:=by omega
 have hw:IntKind.u64.wrap (-(IntKind.u64.wrap (-(N:Int))))=N:=by rw [IntKind.wrap_u64,IntKind.wrap_u64]; omega
 go_enter Tryd.func91,Tryd.ntmps91
 go_wp2
 go_loopw [4,5] (fun a n wr => ∃ (l:List UInt8) (p m:Nat),p+l.length=20∧2≤p∧a = .int .i64 p∧n = .int .u64 m∧m≤N∧Hid ((0<l.length→0<m)∧m*10 ^ l.length≤N∧dig N=dig m++l)∧wr=w.alloc (.cells (prRow l) 165)) (fun a _ _=>(intOf a).toNat)
 case atStart=>exact ⟨[],20,N,rfl,by omega,rfl,rfl,by omega,⟨fun h=>absurd h (by decide),by simp,by simp⟩,rfl⟩
 case round =>
  obtain ⟨l,p,m,hp,hp1,rfl,rfl,hmN,H,rfl⟩:=hrel
  have hg:=prRow_get l p (by omega) hp
  have hrow:=rowOf_eq p m l (by omega) hp
  by_cases h9:m<10
  ·have hz:(((m:Int) / 10) == 0)=true:=by simp; omega
   have hp':p - 1+(dch (m % 10)::l).length=20:=by simp; omega
   have hg':=prRow_get (dch (m % 10)::l) (p - 1) (by omega) hp'
   have hmin:=minus_eq (p - 1) (dch (m % 10)::l) (by omega) hp'
   have hsl:=slice_end w.heap.size (p - 1) (by omega) (by omega)
   have hcv:=conv_end (45::dch (m % 10)::l) (p - 1 - 1) (21 - (p - 1)) w (by simp; omega) (by simp; omega)
   have e:((p - 1:Nat):Int)=(p:Int) - 1:=by omega
   rw [e] at hsl
   clear e hp'
   go_wp2
   go_ret
   refine ⟨ret_str ?_,(Below.refl _ _).alloc (Nat.le_refl _) _⟩
   rw [R.out,H.out.2.2,dig_small h9,show m % 10=m by omega]
   rfl
  ·have hz:(((m:Int) / 10) == 0)=false:=by simp; omega
   go_wp2
   have hl18:l.length+1≤18:=pow_bound (n:=m / 10) (by have:=pow_step H.out.2.1; omega) (by omega)
   go_roundw
   case rel =>
    exact ⟨dch (m % 10)::l,p - 1,m / 10,by simp; omega,by omega,by go_num,by go_num,by omega,⟨fun _=>by omega,pow_step H.out.2.1,by rw [H.out.2.2,dig_big h9,List.append_assoc]; rfl⟩,rfl⟩
   case measure=>simp [intOf]; omega
theorem print_any (v:Int) (w:World) (h1 : -9223372036854775808≤v) (h2:v≤9223372036854775807) :
  Calls Tryd.prog 91 #[.int .i64 v] w fun e w'=>e = .returned (.string ⟨(prn v).toArray⟩)∧Below w.heap.size w w':=by
 by_cases h:0≤v
 ·obtain ⟨N,rfl⟩:=Int.eq_ofNat_of_zero_le h
  exact print_pos N w (by omega)
 ·obtain ⟨N,hN⟩:=Int.eq_ofNat_of_zero_le (a := -v) (by omega)
  obtain rfl:v = -(N:Int):=by omega
  exact print_neg N w (by omega) (by omega)
end Go.Proofs.YthboippafkcoiaaDoor.ws
namespace Go.Proofs.YthboippafkcoiaaDoor.ws
open Go Go.RowKit Go.Lib
end Go.Proofs.YthboippafkcoiaaDoor.ws
namespace Go.Proofs.YthboippafkcoiaaDoor.am
open Go Go.Proofs
set_option linter.all false
end Go.Proofs.YthboippafkcoiaaDoor.am
