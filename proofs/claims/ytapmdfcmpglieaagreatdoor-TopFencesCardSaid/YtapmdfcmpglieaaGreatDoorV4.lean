/- The abstract machine over states that stand as lists: its values are reckoned at once, so terms stay small. The abstract machine: calls in full. -/
import Derived.Test.YtapmdfcmpglieaaGreatDoorV3
import Derived.LoopN
import Derived.Recover
import Derived.Test.YtapmdfcmpglieaaGreatDoorV1
set_option linter.all false
namespace Go.Proofs.YtapmdfcmpglieaaGreatDoor.am
open Go
set_option linter.unusedSimpArgs false
structure LS where
 tl:List (Nat×AV)
 bl:List (Nat×Option Blk)
 nx:Nat
def lkM(bl:List (Nat×Option Blk)):Mem:=fun h=>(lk bl h).join
def LS.st(s:LS):AS:=⟨lk s.tl,lkM s.bl,s.nx⟩
def fV(x:Value)(K:Value->Prop):Prop:=match x with
 | .int k n=>K (.int k n)
 | .bool b=>K (.bool b)
 | .string s=>K (.string s)
 |x=>K x
theorem FV(x:Value)(K:Value->Prop):fV x K=K x:=by cases x<;>rfl
def fTr(t:Tr)(K:Tr->Prop):Prop:=match t with
 | .v x=>fV x fun x=>K (.v x)
 | .lst n B rows=>K (.lst n B rows)
theorem A4(t:Tr)(K:Tr->Prop):fTr t K=K t:=by
 cases t with
 |v x=>exact FV x fun x=>K (.v x)
 |lst n B rows=>rfl
def fA1(a:AV)(K:AV->Prop):Prop:=match a with
 | .tr t=>fTr t fun t=>K (.tr t)
 |a=>K a
theorem D9(a:AV)(K:AV->Prop):fA1 a K=K a:=by
 cases a with
 |tr t=>exact A4 t fun t=>K (.tr t)
 |_=>rfl
def fL:List AV->(List AV->Prop)->Prop
 |[],K=>K []
 |a::l,K=>fL l fun l=>fA1 a fun a=>K (a::l)
theorem Aa:∀(l:List AV)(K:List AV->Prop),fL l K=K l
 |[],K=>rfl
 |a::l,K=>by unfold fL;rw[Aa l,D9]
def fA(a:AV)(K:AV->Prop):Prop:=match a with
 | .tr t=>fTr t fun t=>K (.tr t)
 | .agg l=>fL l fun l=>K (.agg l)
 | .tup l=>fL l fun l=>K (.tup l)
 |a=>K a
theorem Fw(a:AV)(K:AV->Prop):fA a K=K a:=by
 cases a with
 |tr t=>exact A4 t fun t=>K (.tr t)
 |agg l=>exact Aa l fun l=>K (.agg l)
 |tup l=>exact Aa l fun l=>K (.tup l)
 |_=>rfl
def fB(b:Option Blk)(K:Option Blk->Prop):Prop:=match b with
 |none=>K none
 |some (.cells t l)=>fL l fun l=>K (some (.cells t l))
 |some b=>K (some b)
theorem FJ(b:Option Blk)(K:Option Blk->Prop):fB b K=K b:=by
 rcases b with _|b
 ·rfl
 ·cases b with
  |cells t l=>exact Aa l fun l=>K (some (.cells t l))
  |_=>rfl
def fN(n:Nat)(K:Nat->Prop):Prop:=match n with
 |0=>K 0
 |k+1=>K (k+1)
theorem nO(n:Nat)(K:Nat->Prop):fN n K=K n:=by cases n<;>rfl
def il(tl:List (Nat×AV))(dst:Option Nat)(a:AV)(K:List (Nat×AV)->Prop):Prop:=match dst with
 |some d=>fA a fun a=>K ((d,a)::tl)
 |none=>K tl
def cw(tl:List (Nat×AV))(dst:Option Nat)(a:AV):List (Nat×AV):=match dst with
 |some d=>(d,a)::tl
 |none=>tl
theorem eP(tl:List (Nat×AV))(dst:Option Nat)(a:AV)(K:List (Nat×AV)->Prop):il tl dst a K=K (cw tl dst a):=by
 cases dst with
 |none=>rfl
 |some d=>exact Fw a fun a=>K ((d,a)::tl)
theorem beq_comm'(a b:Nat):Nat.beq a b=Nat.beq b a:=by
 cases h:Nat.beq a b with
 |true=>rw[xx h,HC]
 |false=>cases h':Nat.beq b a with
  |false=>rfl
  |true=>rw[xx h',HC] at h;cases h
theorem cS(tl:List (Nat×AV))(dst:Option Nat)(a:AV):lk (cw tl dst a)=putA (lk tl) dst a:=by
 cases dst with
 |none=>rfl
 |some d=>funext i;show(bif Nat.beq d i then some a else lk tl i)=_;rw[beq_comm'];rfl
def kn:List (Nat×Option Blk)->List (Nat×Option Blk)->(List (Nat×Option Blk)->Prop)->Prop
 |[],bl,K=>K bl
 |(h,b)::r,bl,K=>kn r bl fun bl=>fB b fun b=>K ((h,b)::bl)
theorem eI:∀(up bl:List (Nat×Option Blk))(K:List (Nat×Option Blk)->Prop),kn up bl K=K (up++bl)
 |[],bl,K=>rfl
 |(h,b)::r,bl,K=>by unfold kn;rw[eI r,FJ];rfl
theorem w9{α:Type}:∀(l r:List (Nat×α))(h:Nat),lk (l++r) h=match lk l h with|some x=>some x|none=>lk r h
 |[],r,h=>rfl
 | (k,x)::l,r,h=>by show(bif Nat.beq k h then some x else lk (l++r) h)=_;rw[w9 l r h,bZ];cases Nat.beq k h<;>rfl
theorem b8(up bl:List (Nat×Option Blk)):lkM (up++bl)=bL (lkM bl) up:=by funext h;unfold lkM bL;rw[w9];cases lk up h<;>rfl
def zy(ops:Array Oper)(tl:List (Nat×AV))(j:Nat)(b:Bool):List (Nat×AV):=match ops[j]? with|some o=>(match o.dst with|some d=>(d,.tr (.v (.bool b)))::tl|none=>tl)|none=>tl
theorem yp(ops:Array Oper)(tl:List (Nat×AV))(j:Nat)(b:Bool):lk (zy ops tl j b)=yj ops (lk tl) j b:=by
 unfold zy yj;cases ops[j]? with
 |none=>rfl
 |some o=>cases hd:o.dst with
  |none=>simp only[hd]
  |some d=>simp only[hd];exact cS tl (some d) _
def fLt(l:List (Nat×AV))(K:List (Nat×AV)->Prop):Prop:=match l with
 |[]=>K []
 |p::r=>K (p::r)
theorem Eu(l:List (Nat×AV))(K:List (Nat×AV)->Prop):fLt l K=K l:=by cases l<;>rfl
abbrev QL:=AX->LS->Prop
abbrev RL:=Nat->List (Nat×AV)->List (Nat×Option Blk)->Prop
def DN(P:Program)(T:Ty)(N:Nat)(ops:Array Oper)(nh:Nat)(Q:QL)(o:Oper)(rest:RL):RL:=fun i tl bl=>
 bif dstOk N o.dst then
   (match o.guard with
   |none=>fU P T true o (nh+i) (evA (lk tl)) (lkM bl) (fun a _ up=>il tl o.dst a fun tl=>kn up bl fun bl=>rest (i+1) tl bl) (fun a _ up=>kn up bl fun bl=>Q (.pan a) ⟨tl,bl,nh+i+1⟩)
   |some (j,want)=>match tI ops (lk tl) j with
    |some .und=>il tl o.dst .und fun tl=>rest (i+1) tl bl
    | some (.tr (.v (.bool y)))=>cond y
      (fLt (zy ops tl j true) fun tl=>gdo want (fU P T true o (nh+i) (evA (lk tl)) (lkM bl) (fun a _ up=>il tl o.dst a fun tl=>kn up bl fun bl=>rest (i+1) tl bl) (fun a _ up=>kn up bl fun bl=>Q (.pan a) ⟨tl,bl,nh+i+1⟩))
       (il tl o.dst .und fun tl=>rest (i+1) tl bl))
      (fLt (zy ops tl j false) fun tl=>gdo (!want) (fU P T true o (nh+i) (evA (lk tl)) (lkM bl) (fun a _ up=>il tl o.dst a fun tl=>kn up bl fun bl=>rest (i+1) tl bl) (fun a _ up=>kn up bl fun bl=>Q (.pan a) ⟨tl,bl,nh+i+1⟩))
       (il tl o.dst .und fun tl=>rest (i+1) tl bl))
    |_=>False) else False
noncomputable def kx(P:Program)(T:Ty)(N:Nat)(ops:Array Oper)(nh:Nat)(Q:QL)(l:List Oper):RL:=
 List.rec (motive:=fun _=>RL) (fun i tl bl=>fN (nh+i) fun n=>Q .normal ⟨tl,bl,n⟩) (fun o _ ih=>DN P T N ops nh Q o ih) l
theorem uK(P:Program)(T:Ty)(N:Nat)(ops:Array Oper)(nh:Nat)(Q:QL)(i:Nat)(tl:List (Nat×AV))(bl:List (Nat×Option Blk)):kx P T N ops nh Q [] i tl bl=fN (nh+i) fun n=>Q .normal ⟨tl,bl,n⟩:=rfl
theorem sS(P:Program)(T:Ty)(N:Nat)(ops:Array Oper)(nh:Nat)(Q:QL)(o:Oper)(l:List Oper)(i:Nat)(tl:List (Nat×AV))(bl:List (Nat×Option Blk)):kx P T N ops nh Q (o::l) i tl bl=DN P T N ops nh Q o (kx P T N ops nh Q l) i tl bl:=rfl
def Ql(Q:QL):AX->AS->Prop:=fun x s=>∃l:LS,l.st=s/\Q x l
section
variable {X:Gh->World->Prop} {P:Program} {T:Ty} {k N:Nat} {ops:Array Oper} {g0:Gh} {w0:World}
theorem mT(hT:TOk P T)(nh:Nat)(Q:QL){o:Oper}{r:List Oper}{rest:RL}{i:Nat}(hnb:nh+i<HMod)(ih:∀(tl:List (Nat×AV))(bl:List (Nat×Option Blk))(g:Gh)(act:Act)(w:World),rest (i+1) tl bl->StR g0 w0 N (nh+(i+1)) g act w (lk tl) (lkM bl)->wpList P ops (ox g0 w0 N (Ql Q)) r act w)
  {tl:List (Nat×AV)} {bl:List (Nat×Option Blk)} {g:Gh} {act:Act} {w:World} (h:DN P T N ops nh Q o rest i tl bl) (hs:StR g0 w0 N (nh+i) g act w (lk tl) (lkM bl)):wpList P ops (ox g0 w0 N (Ql Q)) (o::r) act w:=by
 unfold DN at h;cases hd:dstOk N o.dst with
 |false=>rw[hd] at h;exact h.elim
 |true=>
 rw[hd,r7] at h;simp only[eP,eI,Eu] at h;have run:∀(tl:List (Nat×AV)),(∀i a,lk tl i=some a->i<N/\Rep g w (act.tmps.getD i undef) a)->fU P T true o (nh+i) (evA (lk tl)) (lkM bl) (fun a _ up=>rest (i+1) (cw tl o.dst a) (up++bl)) (fun a _ up=>Q (.pan a) ⟨tl,up++bl,nh+i+1⟩)->o.wp P act w (wpList P ops (ox g0 w0 N (Ql Q)) r) (ox g0 w0 N (Ql Q)):=by
  intro tl hf h;rcases astep_ok hnb hT h with⟨a,rd,up,hK,hru,hw⟩|⟨a,rd,up,hK,hru,hw⟩
  ·refine hw g w (lkM bl) act _ _ hs.mem (fun k hk=>hs.un k (Ee hk.symm)) hru.1 (iu hf) (fun _ v w' g' e1 e2 e3 e4=>?_) (fun h=>by cases h);obtain⟨p1,p2⟩:=d8 (dst:=o.dst) hs.size hf e3 hd e1;refine ih (cw tl o.dst a) (up++bl) g' _ w' (hK fun _=>⟨g',w',v,e1⟩) ⟨p1,(bc ..).trans hs.defers,?_,?_,fun h hh=>e4 h JQ (hs.un h JQ),hs.grow.trans e3⟩;·rw[cS];exact p2
   ·rw[b8];exact e2
  ·refine hw g w (lkM bl) act _ _ hs.mem (fun k hk=>hs.un k (Ee hk.symm)) hru.1 (iu hf) (fun h=>by cases h) (fun _ v w' g' e1 e2 e3 e4=>?_);exact⟨.pan a,_,g',⟨_,rfl,hK fun _=>⟨g',w',v,e1⟩⟩,⟨hs.size,hs.defers,fun i b hb=>⟨(hf i b hb).1,((hf i b hb).2).grow e3⟩,by show MSt g' w' (lkM (up++bl));rw[b8];exact e2,fun h (hh:nh+i+1<=h % HMod)=>e4 h JQ (hs.un h JQ),hs.grow.trans e3⟩,v,rfl,e1⟩
 have skip:∀(tl:List (Nat×AV)),(∀i a,lk tl i=some a->i<N/\Rep g w (act.tmps.getD i undef) a)->rest (i+1) (cw tl o.dst .und) bl->wpList P ops (ox g0 w0 N (Ql Q)) r (act.put o.dst undef) w:=by intro tl hf h;obtain⟨p1,p2⟩:=d8 (dst:=o.dst) (v:=undef) (a:=.und) hs.size hf (Grow.refl g w) hd .und;refine ih (cw tl o.dst .und) bl g _ w h ⟨p1,(bc ..).trans hs.defers,?_,hs.mem,fun h hh=>hs.un h JQ,hs.grow⟩;rw[cS];exact p2
 unfold wpList;split at h
 ·rename_i hg;rw[Gw (by simp[Region.wanted,hg])];exact .inl (run tl hs.fr h)
 ·rename_i j want hg;split at h
  ·rename_i hv;have:=(eZ hs.size hs.fr hv).1 rfl;rw[GN (by simp[Region.wanted,hg,this])];exact skip tl hs.fr h
  ·rename_i y hv;have hy:=(eZ hs.size hs.fr hv).2 y rfl;have hk:=yu hs.fr hv;rw[<-yp] at hk;cases y<;>cases want<;>simp only[r7,lh,Im,Iv,gdo] at h;·rw[Gw (by simp[Region.wanted,hg,hy])];exact .inl (run _ hk h)
   ·rw[GN (by simp[Region.wanted,hg,hy])];exact skip _ hk h
   ·rw[GN (by simp[Region.wanted,hg,hy])];exact skip _ hk h
   ·rw[Gw (by simp[Region.wanted,hg,hy])];exact .inl (run _ hk h)
  ·exact h.elim
theorem fT(hT:TOk P T)(nh:Nat)(Q:QL):∀(l:List Oper)(i:Nat)(tl:List (Nat×AV))(bl:List (Nat×Option Blk))(g:Gh)(act:Act)(w:World),nh+(i+l.length)<=HMod->kx P T N ops nh Q l i tl bl->StR g0 w0 N (nh+i) g act w (lk tl) (lkM bl)->wpList P ops (ox g0 w0 N (Ql Q)) l act w:=by
 intro l;induction l with
 |nil=>
  intro i tl bl g act w _ h hs;rw[uK,nO] at h;exact⟨.normal,_,g,⟨_,rfl,h⟩,⟨hs.size,hs.defers,hs.fr,hs.mem,hs.un,hs.grow⟩,J0⟩
 |cons o r ih=>
  intro i tl bl g act w hb h hs;rw[E0] at hb;rw[sS] at h;exact mT hT nh Q JQ (fun tl bl g act w h hs=>ih (i+1) tl bl g act w JQ h hs) h hs
abbrev RF:=Nat->List (Nat×AV)->List (Nat×Option Blk)->List Ft->Prop
def qQ(ops:Array Oper):Bool:=(List.range (ops.size-1)).all fun j=>bef ops ops.size (ops.size-1) j
def BL(P:Program)(T:Ty)(N:Nat)(ops:Array Oper)(nh:Nat)(QP:QL)(o:Oper)(last:Bool)(rest:RF):RF:=fun i tl bl acc=>
 bif dstOk N o.dst then
   (match o.guard with
   | none=>fU P T false o (nh+i) (evR ops o (lk tl)) (lkM bl) (fun a rd up=>il tl o.dst a fun tl=>kn up bl fun bl=>rest (i+1) tl bl (acc++[⟨rd.map (·.1),up.map (·.1)⟩]))
     (fun a rd up=>gdo last (qQ ops=true/\bN ops (acc++[⟨rd.map (·.1),up.map (·.1)⟩])=true/\kn up bl fun bl=>QP (.pan a) ⟨tl,bl,nh+i+1⟩) False)
   |some (j,want)=>match tI ops (lk tl) j with
    |some .und=>il tl o.dst .und fun tl=>rest (i+1) tl bl (acc++[⟨[],[]⟩])
    | some (.tr (.v (.bool y)))=>cond y (gdo want (fU P T false o (nh+i) (evR ops o (lk tl)) (lkM bl) (fun a rd up=>il tl o.dst a fun tl=>kn up bl fun bl=>rest (i+1) tl bl (acc++[⟨rd.map (·.1),up.map (·.1)⟩])) (fun _ _ _=>False)) (il tl o.dst .und fun tl=>rest (i+1) tl bl (acc++[⟨[],[]⟩])))
      (gdo (!want) (fU P T false o (nh+i) (evR ops o (lk tl)) (lkM bl) (fun a rd up=>il tl o.dst a fun tl=>kn up bl fun bl=>rest (i+1) tl bl (acc++[⟨rd.map (·.1),up.map (·.1)⟩])) (fun _ _ _=>False)) (il tl o.dst .und fun tl=>rest (i+1) tl bl (acc++[⟨[],[]⟩])))
    |_=>False) else False
noncomputable def eN(P:Program)(T:Ty)(N:Nat)(ops:Array Oper)(nh:Nat)(Q:LS->Prop)(QP:QL)(l:List Oper):RF:=
 List.rec (motive:=fun _=>RF) (fun i tl bl acc=>bN ops acc=true/\fN (nh+i) fun n=>Q ⟨tl,bl,n⟩) (fun o r ih=>BL P T N ops nh QP o r.isEmpty ih) l
theorem oQ(P:Program)(T:Ty)(N:Nat)(ops:Array Oper)(nh:Nat)(Q:LS->Prop)(QP:QL)(i:Nat)(tl:List (Nat×AV))(bl:List (Nat×Option Blk))(acc:List Ft):eN P T N ops nh Q QP [] i tl bl acc=(bN ops acc=true/\fN (nh+i) fun n=>Q ⟨tl,bl,n⟩):=rfl
theorem nF(P:Program)(T:Ty)(N:Nat)(ops:Array Oper)(nh:Nat)(Q:LS->Prop)(QP:QL)(o:Oper)(l:List Oper)(i:Nat)(tl:List (Nat×AV))(bl:List (Nat×Option Blk))(acc:List Ft):eN P T N ops nh Q QP (o::l) i tl bl acc=BL P T N ops nh QP o l.isEmpty (eN P T N ops nh Q QP l) i tl bl acc:=rfl
theorem gf(tl:List (Nat×AV))(bl:List (Nat×Option Blk))(n:Nat)(dst:Option Nat)(a:AV)(up:List (Nat×Option Blk)):(LS.st ⟨cw tl dst a,up++bl,n⟩)=(LS.st ⟨tl,bl,n⟩).put dst a up:=by unfold LS.st AS.put;simp only[cS,b8]
def nI(P:Program)(N:Nat)(ops:Array Oper)(nh:Nat)(Q:LS->Prop)(QP:QL)(l:List Oper)(i:Nat)(s:AS)(acc:List Ft):Prop:=
 (∃cs sf,xZ P N ops nh l i s cs sf/\bN ops (acc++cs.map Rc.ft)=true/\∃ls:LS,ls.st={ sf with nx:=nh+(i+l.length) }/\Q ls) \/
 ∃pre o cs c sf,l=pre++[o]/\xZ P N ops nh pre i s cs sf/\dstOk N o.dst=true/\bV ops sf.t o true/\mN sf.m (nh+(i+pre.length)) c.rd c.up /\
  gA P o (nh+(i+pre.length)) (evR ops o sf.t) c.rd c.up c.a true/\c.run=true/\qQ ops=true/\bN ops (acc++(cs++[c]).map Rc.ft)=true /\
  ∃ls:LS,ls.st=⟨sf.t,bL sf.m c.up,nh+(i+pre.length)+1⟩/\QP (.pan c.a) ls
theorem nI.cons{nh:Nat}{Q:LS->Prop}{QP:QL}{o:Oper}{r:List Oper}{i:Nat}{s:AS}{acc:List Ft}{c:Rc}(h:nI P N ops nh Q QP r (i+1) (s.put o.dst c.a c.up) (acc++[c.ft]))
  (hd:dstOk N o.dst=true) (hw:bV ops s.t o c.run) (hru:mN s.m (nh+i) c.rd c.up) (h1:c.run=true->gA P o (nh+i) (evR ops o s.t) c.rd c.up c.a false) (h2:c.run=false->c.a=.und/\c.up=[]) :
  nI P N ops nh Q QP (o::r) i s acc:=by
 rcases h with⟨cs,sf,q1,q2,ls,q3,q4⟩|⟨pre,o',cs,c',sf,rfl,q1,q2,q3,q4,q5,q6,q7,q8,ls,q9,q10⟩
 ·refine .inl ⟨c::cs,sf,⟨hd,hw,hru,h1,h2,q1⟩,by simpa using q2,ls,?_,q4⟩;rw[q3,E0,(JQ:i+1+r.length=i+(r.length+1))]
 ·have e:i+1+pre.length=i+(o::pre).length:=by rw[E0];omega
  rw[e] at q4 q5 q9;exact .inr ⟨o::pre,o',c::cs,c',sf,rfl,⟨hd,hw,hru,h1,h2,q1⟩,q2,q3,q4,q5,q6,q7,by simpa using q8,ls,q9,q10⟩
theorem adrawsL_recs(hT:TOk P T)(nh:Nat)(Q:LS->Prop)(QP:QL)(n:Nat):∀(l:List Oper)(i:Nat)(tl:List (Nat×AV))(bl:List (Nat×Option Blk))(acc:List Ft),nh+(i+l.length)<=HMod->eN P T N ops nh Q QP l i tl bl acc->nI P N ops nh Q QP l i (LS.st ⟨tl,bl,n⟩) acc:=by
 intro l;induction l with
 |nil=>
  intro i tl bl acc _ h;rw[oQ,nO] at h;exact .inl ⟨[],_,rfl,by simpa using h.1,_,rfl,h.2⟩
 |cons o r ih=>
  intro i tl bl acc hb h;rw[E0] at hb;have hnb:nh+i<HMod:=JQ;rw[nF] at h;unfold BL at h;cases hd:dstOk N o.dst with
  |false=>rw[hd] at h;exact h.elim
  |true=>
  rw[hd,r7] at h;simp only[eP,eI] at h;have run:∀(Pn:KK),(∀a rd up,Pn a rd up->r=[]/\qQ ops=true/\bN ops (acc++[⟨rd.map (·.1),up.map (·.1)⟩])=true/\QP (.pan a) ⟨tl,up++bl,nh+i+1⟩) ->
    fU P T false o (nh+i) (evR ops o (lk tl)) (lkM bl) (fun a rd up=>eN P T N ops nh Q QP r (i+1) (cw tl o.dst a) (up++bl) (acc++[⟨rd.map (·.1),up.map (·.1)⟩])) Pn->bV ops (lk tl) o true ->
    nI P N ops nh Q QP (o::r) i (LS.st ⟨tl,bl,n⟩) acc:=by
   intro Pn hPn h hw;rcases astep_ok hnb hT h with⟨a,rd,up,hK,hru,hws⟩|⟨a,rd,up,hK,hru,hws⟩
   ·have h1:=ih (i+1) _ _ _ JQ (hK (fun h=>by cases h));rw[gf] at h1;exact nI.cons (c:=⟨a,rd,up,true⟩) h1 hd hw hru (fun _=>hws) (fun h=>by cases h)
   ·obtain⟨rfl,h1,h2,h3⟩:=hPn _ _ _ (hK (fun h=>by cases h));refine .inr ⟨[],o,[],⟨a,rd,up,true⟩,_,rfl,rfl,hd,hw,hru,hws,rfl,h1,h2,_,?_,h3⟩;show(⟨lk tl,lkM (up++bl),nh+i+1⟩:AS)=⟨lk tl,bL (lkM bl) up,nh+(i+0)+1⟩;rw[b8];rfl
  have skip:eN P T N ops nh Q QP r (i+1) (cw tl o.dst .und) bl (acc++[⟨[],[]⟩])->bV ops (lk tl) o false->nI P N ops nh Q QP (o::r) i (LS.st ⟨tl,bl,n⟩) acc:=by intro h hw;have h1:=ih (i+1) _ _ _ JQ h;rw[show LS.st ⟨cw tl o.dst .und,bl,n⟩=(LS.st ⟨tl,bl,n⟩).put o.dst .und [] from gf tl bl n o.dst .und []] at h1;exact nI.cons (c:=⟨.und,[],[],false⟩) h1 hd hw ⟨JX,JX⟩ (fun h=>by cases h) (fun _=>JY)
  split at h
  ·rename_i hg;refine run _ (fun a rd up hp=>?_) h (by simp[bV,hg]);cases r with
   |nil=>exact⟨rfl,hp⟩
   |cons=>exact hp.elim
  ·rename_i j want hg;split at h
   ·rename_i hv;exact skip h (by simp[bV,hg,hv])
   ·rename_i y hv;cases y<;>cases want<;>simp only[r7,lh,Im,Iv,gdo] at h;·exact run _ (fun _ _ _ h=>h.elim) h (by simp[bV,hg,hv])
    ·exact skip h (by simp[bV,hg,hv])
    ·exact skip h (by simp[bV,hg,hv])
    ·exact run _ (fun _ _ _ h=>h.elim) h (by simp[bV,hg,hv])
   ·exact h.elim
noncomputable def Bg(P:Program)(T:Ty)(N:Nat)(ops:Array Oper)(Q:QL)(s:LS):Prop:=
 eN P T N ops s.nx (fun s'=>SOk s'.st->Q .normal s') Q ops.toList 0 s.tl s.bl []
theorem ou(hT:TOk P T)(hmix:P.follows .mixedOrders=true){Q:QL}{s:LS}(hb:s.nx+ops.size<=HMod)(h:Bg P T N ops Q s){g:Gh}{w:World}{act:Act}(hs:St g0 w0 N g act w s.st){id:Nat}:(Code.region id ops true).wp P (ox g0 w0 N (Ql Q)) act w:=by
 have hInv:∀(R:Nat->Rc),Inv g0 w0 N ops s.nx R s.st (fun i=>(Array.replicate ops.size false).getD i true) act { w with drawn:=w.drawn+1 }:=by
  intro R;refine⟨hs.size,hs.defers,g,?_⟩;have e:(List.range ops.size).filter (fun i=>(Array.replicate ops.size false).getD i true)=[]:=by rw[Ii];intro k hk;have:=G3.1 hk;simp[Array.getD,this]
  rw[e];have hg:Grow g w g { w with drawn:=w.drawn+1 }:=⟨rfl,rfl,rfl,t9 _,fun _ _=>rfl,fun _ _=>rfl,rfl,fun _ h=>h,fun _ _ h=>.inl h,fun h b e=>.inl ⟨h,e⟩⟩;refine⟨fun i a ha=>⟨(hs.fr i a ha).1,((hs.fr i a ha).2).grow hg⟩,⟨fun k b hb=>?_,hs.mem.inj,hs.mem.lt,hs.mem.xlt,hs.mem.xl,hs.mem.gl.grow hg⟩,fun h hh _=>hs.un h hh,hs.grow.trans hg⟩;obtain⟨l,e1,e2⟩:=hs.mem.blk k b hb;exact⟨l,e1,e2.grow hg fun _ _=>rfl⟩
 have hli:∀i,i<ops.size->(Array.replicate ops.size false).getD i true=true->∀d∈deps ops i,(Array.replicate ops.size false).getD d true=true:=fun i hi hl=>by simp[Array.getD,hi] at hl
 refine JW hmix ?_;rcases adrawsL_recs hT _ _ _ s.nx _ _ _ _ _ (by simpa using hb) h with⟨cs,sf,h1,h2,ls,h3,h4⟩|⟨pre,o,cs,c,sf,hl,h1,hd,hw,hru,hws,hrun,hlast,h2,ls,h3,h4⟩
 ·obtain⟨q1,q2,q3⟩:=xZ.at (R:=recAt cs) (s0:=s.st) ops.toList 0 s.st cs sf h1 (fun j=>JX) (fun j _=>JX) rfl;simp only[E7,BQ] at q1 q2 q3 h3;refine z7 (nh:=s.nx) (s0:=s.st) (g0:=g0) (w0:=w0) (N:=N) (by simpa using h2) (fun i o ho=>q3 i o (by simpa using ho)) (fun act w g hst=>?_) ops.size _ act _ JX (GB In JX) hli (hInv _);rw[<-q1] at hst;rw[<-h3] at hst;exact⟨.normal,_,g,⟨ls,rfl,h4 hst.ok⟩,hst,J0⟩
 ·have hsz:ops.size=pre.length+1:=by rw[<-BQ,hl];simp
  have hget:∀j:Nat,ops[j]?=(pre++[o])[j]? :=fun j=>by have e:ops[j]?=ops.toList[j]? :=JX;rw[e,hl]
  have hcl:cs.length=pre.length:=(xZ.at2 (R:=recAt cs) (s0:=s.st) pre 0 s.st cs sf h1 (fun j o' ho'=>by rw[E7,hget,v9 (a9.1 ho').1];exact ho') (fun j _=>by rw[E7]) rfl).2.1;have hR1:∀j,j<pre.length->recAt (cs++[c]) j=recAt cs j:=fun j hj=>by unfold recAt;rw[t5,t5,v9 JQ]
  have hR2:recAt (cs++[c]) pre.length=c:=by unfold recAt;rw[t5,wS JQ,hcl,Hm];rfl
  obtain⟨q1,q2,q3⟩:=xZ.at2 (R:=recAt (cs++[c])) (s0:=s.st) pre 0 s.st cs sf h1 (fun j o' ho'=>by rw[E7,hget,v9 (a9.1 ho').1];exact ho') (fun j hj=>by rw[E7];exact hR1 j hj) rfl;simp only[E7] at q1 q3 hru hws h3;have hz1:ops.size-1=pre.length:=JQ;refine wk (pz:=true) (nh:=s.nx) (s0:=s.st) (g0:=g0) (w0:=w0) (N:=N) (cs:=cs++[c]) (by simpa using h2) (fun i o' ho'=>?_) (fun _ j hj=>?_) (fun _ act w g a1 a2 a3 a4 a5 a6 v w' g' b1 b2 b3 b4=>?_) (fun _=>⟨JQ,by rw[hz1,hR2];exact hrun⟩) (fun _ _ _ h=>by cases h)
   ops.size _ act _ JX (GB In JX) hli (fun _=>by rw[Array.getD,dif_pos (by simp;omega)];simp) (hInv _)
  ·rw[hget] at ho';by_cases hi:i<pre.length
   ·rw[v9 hi] at ho';have:=q3 i o' ho';rw[show(true&&Nat.beq (i+1) ops.size)=false by rw[GS];exact bA JQ];exact this
   ·have hi':i=pre.length:=by
     have:=(a9.1 ho').1;simp at this;omega
    subst hi';rw[wS (t9 _),Hm] at ho';cases ho';rw[show(true&&Nat.beq (pre.length+1) ops.size)=true by rw[GS,hsz,HC],hR2,<-q1];exact⟨hd,by rw[hrun];exact hw,hru,fun _=>hws,fun h=>by rw[hrun] at h;cases h⟩
  ·unfold qQ at hlast;exact GQ.1 hlast j (G3.2 JQ)
  ·rw[hz1] at a3 a4 a5 b1 b2 b4;rw[hR2] at b1 b2;rw[<-q1] at a3 a4 b2;refine⟨.pan c.a,ls.st,g',⟨ls,rfl,h4⟩,?_,v,rfl,b1⟩;rw[h3];exact⟨a1,a2,fun i b hb=>⟨(a3 i b hb).1,((a3 i b hb).2).grow b3⟩,b2,fun h (hh:s.nx+pre.length+1<=h % HMod)=>b4 h JQ (a5 h JQ),a6.trans b3⟩
structure LJ where
 tl:List (Nat×AV)
 bl:List (Nat×Blk)
 nx:Nat
def Ck(next:LS->Prop)(Q:QL):QL
 | .normal,s=>next s
 |x,s=>Q x s
def Gl(id:Nat)(Q:QL):QL
 | .exit i,s=>(i=id->Q .normal s)/\(i≠id->Q (.exit i) s)
 |x,s=>Q x s
def mkL(tl:List (Nat×AV))(bl:List (Nat×Blk))(nx:Nat):LS:=⟨tl,bl.map fun p=>(p.1,some p.2),nx⟩
theorem Bx(tl:List (Nat×AV))(bl:List (Nat×Blk))(nx:Nat):(mkL tl bl nx).st=mkS tl bl nx:=by
 unfold mkL LS.st mkS;congr 1;funext h;unfold lkM;simp only;induction bl with
 |nil=>rfl
 |cons p r ih=>
  obtain⟨k,x⟩:=p;rw[GO,bZ,bZ];cases Nat.beq k h with
  |true=>rfl
  |false=>exact ih
noncomputable def D8(body:QL->LS->Prop)(Q:QL)(n:Nat):LS->Prop:=Nat.rec (motive:=fun _=>LS->Prop) (fun _=>False) (fun _ ih s=>body (Ck ih Q) s) n
def aq(k:Nat)(body:QL->LS->Prop)(Q:QL)(s:LS):Prop:=
 (∃n,D8 body Q n s)\/∃(σ:Type)(J:σ->LJ)(I:σ->Prop)(μ:σ->Nat)(x0:σ)(ρ nl:List Nat),Sub k ρ nl s.st (mkS (J x0).tl (J x0).bl (J x0).nx)/\I x0 /\
  ∀x,I x->SOk (mkS (J x).tl (J x).bl (J x).nx)->body (Ck (fun s'=>∃x' ρ nl,Sub k ρ nl s'.st (mkS (J x').tl (J x').bl (J x').nx)/\I x'/\μ x'<μ x) Q) (mkL (J x).tl (J x).bl (J x).nx)
theorem aq.by{k:Nat}{body:QL->LS->Prop}{Q:QL}{s:LS}{σ:Type}(J:σ->LJ)(I:σ->Prop)(μ:σ->Nat)(x0:σ)(ρ nl:List Nat)(h0:Sub k ρ nl s.st (mkS (J x0).tl (J x0).bl (J x0).nx))(hI:I x0)
  (h:∀x,I x->SOk (mkS (J x).tl (J x).bl (J x).nx)->fN (J x).nx fun n=>body (Ck (fun s'=>∃x' ρ nl,Sub k ρ nl s'.st (mkS (J x').tl (J x').bl (J x').nx)/\I x'/\μ x'<μ x) Q) (mkL (J x).tl (J x).bl n)):aq k body Q s:=.inr ⟨σ,J,I,μ,x0,ρ,nl,h0,hI,fun x hI hok=>(nO _ _).mp (h x hI hok)⟩
abbrev WL:=QL->LS->Prop
noncomputable def F8(P:Program)(T:Ty)(N:Nat)(ops:Array Oper)(draw:Bool):WL:=fun Q s=>match draw with
 |true=>match s with
  |⟨tl,bl,nx⟩=>bif Nat.ble (nx+ops.size) HMod then eN P T N ops nx (fun s'=>SOk s'.st->Q .normal s') Q ops.toList 0 tl bl [] else False
 |false=>match s with
  |⟨tl,bl,nx⟩=>bif Nat.ble (nx+ops.size) HMod then kx P T N ops nx Q ops.toList 0 tl bl else False
noncomputable def F1(X:Gh->World->Prop)(P:Program)(T:Ty)(k N:Nat)(x:Bool)(id:Nat)(ops:Array Oper)(draw:Bool):WL:=match x with
 |true=>fun Q s=>Wp X P k N (.region id ops draw) (Ql Q) s.st
 |false=>F8 P T N ops draw
def bD(k:Nat)(a b:WL)(Q:QL)(s:LS):Prop:=
 ∃(σ:Type)(J:σ->LJ)(I:σ->Prop),a (Ck (fun s'=>∃x ρ nl,Sub k ρ nl s'.st (mkS (J x).tl (J x).bl (J x).nx)/\I x) Q) s /\
  ∀x,I x->SOk (mkS (J x).tl (J x).bl (J x).nx)->b Q (mkL (J x).tl (J x).bl (J x).nx)
theorem bD.by{k:Nat}{a b:WL}{Q:QL}{s:LS}{σ:Type}(J:σ->LJ)(I:σ->Prop)(h1:a (Ck (fun s'=>∃x ρ nl,Sub k ρ nl s'.st (mkS (J x).tl (J x).bl (J x).nx)/\I x) Q) s)
  (h2:∀x,I x->SOk (mkS (J x).tl (J x).bl (J x).nx)->fN (J x).nx fun n=>b Q (mkL (J x).tl (J x).bl n)):bD k a b Q s:=⟨σ,J,I,h1,fun x hI hok=>(nO _ _).mp (h2 x hI hok)⟩
noncomputable def wy(c:Code):Nat:=Code.rec (motive:=fun _=>Nat) 0 (fun id _ _=>id) (fun _ _ a _=>a) (fun _ _ _ i _=>1000000+i) (fun _ _ c=>c) (fun _ c=>c) (fun _ _ _ _ _ _=>0) (fun _=>0) (fun _ _=>0) (fun _=>0) (fun _=>0) 0 (fun _=>0) c
def FQ(k:Nat)(cut:Bool)(a b:WL):WL:=fun Q s=>match cut with
 |true=>bD k a b Q s
 |false=>a (Ck (b Q) Q) s
def Ff(c:Operand)(a b:WL):WL:=fun Q s=>CG (evA (lk s.tl) c) (a Q s) (b Q s)
noncomputable def ma(X:Gh->World->Prop)(P:Program)(T:Ty)(k N:Nat)(cuts:List Nat)(c:Code):WL:=
 Code.rec (motive:=fun _=>WL) (fun Q s=>Q .normal s) (fun id ops draw=>F1 X P T k N (has cuts (2000000+id)) id ops draw) (fun _ cb a b=>FQ k (has cuts (wy cb)) a b) (fun c _ _ a b=>Ff c a b)
  (fun id _ c=>fun Q s=>c (Gl id Q) s) (fun _ c=>fun Q s=>aq k c Q s) (fun _ _ _ _ _ _=>fun _ _=>False) (fun id=>fun Q s=>Q (.exit id) s)
  (fun _ _=>fun _ _=>False) (fun _=>fun _ _=>False) (fun _=>fun _ _=>False) (fun Q s=>Q .ret s) (fun _=>fun _ _=>False) c
theorem sx(hT:TOk P T)(hmix:P.follows .mixedOrders=true)(id:Nat)(ops:Array Oper):∀(draw:Bool)(Q:QL)(s:LS),F8 P T N ops draw Q s->Wp X P k N (.region id ops draw) (Ql Q) s.st
 | false,Q,⟨tl,bl,nx⟩,h=>fun g0 g w0 w act hk hs=>by
   have h:(bif Nat.ble (nx+ops.size) HMod then kx P T N ops nx Q ops.toList 0 tl bl else False):=h;cases hb:Nat.ble (nx+ops.size) HMod with
   |false=>rw[hb] at h;exact h.elim
   |true=>
    rw[hb,r7] at h;exact If (fT hT nx Q ops.toList 0 tl bl g act w (by simpa using oo hb) h ⟨hs.size,hs.defers,hs.fr,hs.mem,hs.un,hs.grow⟩)
 | true,Q,⟨tl,bl,nx⟩,h=>fun g0 g w0 w act hk hs=>by
   have h:(bif Nat.ble (nx+ops.size) HMod then Bg P T N ops Q ⟨tl,bl,nx⟩ else False):=h;cases hb:Nat.ble (nx+ops.size) HMod with
   |false=>rw[hb] at h;exact h.elim
   |true=>
    rw[hb,r7] at h;exact ou hT hmix (oo hb) h hs
theorem aF{cuts:List Nat}(hT:TOk P T)(hmix:P.follows .mixedOrders=true):∀(c:Code)(Q:QL)(s:LS),ma X P T k N cuts c Q s->Wp X P k N c (Ql Q) s.st
 | .skip,Q,s,h=>fun g0 g w0 w act hk hs=>wp_skip ⟨.normal,s.st,g,⟨s,rfl,h⟩,hs,trivial⟩
 | .region id ops draw,Q,s,h=>by
   have h:F1 X P T k N (has cuts (2000000+id)) id ops draw Q s:=h;cases hx:has cuts (2000000+id) with
   |true=>rw[hx] at h;exact h
   |false=>rw[hx] at h;exact sx hT hmix id ops draw Q s h
 | .seq a b,Q,s,h=>by
   have h:FQ k (has cuts (wy b)) (ma X P T k N cuts a) (ma X P T k N cuts b) Q s:=h;unfold FQ at h;split at h
   ·obtain⟨σ,J,I,h1,h2⟩:=h;refine Wp.seq ((aF hT hmix a _ s h1).mono fun x s' hx=>?_);obtain⟨ls,rfl,hx⟩:=hx;cases x with
    |normal=>
     obtain⟨x,ρ,nl,hsub,hI⟩:=hx;intro g0 g w0 w act hk hs;obtain⟨g',hst⟩:=hsub.st hk.2 hs;have:=aF hT hmix b Q _ (h2 x hI hst.ok);rw[Bx] at this;exact this g0 _ w0 w act hk hst
    |_=>exact⟨ls,rfl,hx⟩
   ·refine Wp.seq ((aF hT hmix a _ s h).mono fun x s' hx=>?_);obtain⟨ls,rfl,hx⟩:=hx;cases x with
    |normal=>exact aF hT hmix b Q ls hx
    |_=>exact⟨ls,rfl,hx⟩
 | .cond c a b,Q,s,h=>fun g0 g w0 w act hk hs=>by
   change CG (evA (lk s.tl) c) (ma X P T k N cuts a Q s) (ma X P T k N cuts b Q s) at h;unfold CG at h;split at h
   ·rename_i y hy;obtain⟨e,_⟩:=al (iu hs.fr _ _ hy);exact wp_cond_split e (fun ht=>aF hT hmix a Q s (by rw[ht] at h;exact h) g0 g w0 w act hk hs) (fun hf=>aF hT hmix b Q s (by rw[hf] at h;exact h) g0 g w0 w act hk hs)
   ·exact h.elim
 | .block id c,Q,s,h=>Wp.block ((aF hT hmix c _ s h).mono fun x s' hx=>by
   obtain⟨ls,rfl,hx⟩:=hx;cases x with
   |exit i=>exact⟨fun e=>⟨ls,rfl,hx.1 e⟩,fun e=>⟨ls,rfl,hx.2 e⟩⟩
   |_=>exact⟨ls,rfl,hx⟩)
 | .loop c,Q,s,h=>by
   rcases h with⟨n,h⟩|⟨σ,J,I,μ,x0,ρ,nl,h0,hI,hr⟩
   ·intro g0 g w0 w act hk hs;refine wp_loop_rounds n ?_;revert s g w act;induction n with
    |zero=>intro s h;exact h.elim
    |succ n ih=>
     intro s h g w act hs;have h:ma X P T k N cuts c (Ck (D8 (ma X P T k N cuts c) Q n) Q) s:=h;refine H1 (aF hT hmix c _ s h g0 g w0 w act hk hs) ?_;rintro e act' w' ⟨x,s',g',h1,h2,h3⟩;obtain⟨ls,rfl,h1⟩:=h1;cases x with
     |normal=>
      cases e with
      |normal=>exact ih ls h1 g' w' act' h2
      |_=>exact h3.elim
     |_=>cases e<;>first|exact h3.elim|exact⟨_,ls.st,g',⟨ls,rfl,h1⟩,h2,h3⟩
   refine Wp.loop (fun x=>mkS (J x).tl (J x).bl (J x).nx) I μ x0 h0 hI fun x hI hok=>?_;have:=aF hT hmix c _ _ (hr x hI hok);rw[Bx] at this;refine this.mono fun y s' hy=>?_;obtain⟨ls,rfl,hy⟩:=hy;cases y with
   |normal=>exact hy
   |_=>exact⟨ls,rfl,hy⟩
 | .exit id,Q,s,h=>fun g0 g w0 w act hk hs=>wp_exit ⟨.exit id,s.st,g,⟨s,rfl,h⟩,hs,rfl⟩
 | .ret,Q,s,h=>fun g0 g w0 w act hk hs=>wp_ret ⟨.ret,s.st,g,⟨s,rfl,h⟩,hs,trivial⟩
 | .rangeFunc ..,_,_,h=>h.elim
 | .scope _,_,_,h=>h.elim
 | .label _,_,_,h=>h.elim
 | .goto _,_,_,h=>h.elim
 | .refuse _,_,_,h=>h.elim
end
def uC:Nat->List AV->List (Nat×AV)
 |_,[]=>[]
 |i,a::l=>(i,a)::uC (i+1) l
def AN:Nat->List Blk->List (Nat×Option Blk)
 |_,[]=>[]
 |i,a::l=>(i,some a)::AN (i+1) l
theorem numL_lk:∀(l:List AV)(i j:Nat),lk (uC i l) j=if i<=j then l[j-i]? else none
 |[],i,j=>by simp[uC,lk]
 | a::l,i,j=>by
   unfold uC;rw[bZ,numL_lk l (i+1) j];by_cases h:i=j;·subst h;simp
   ·rw[bA h,lh];by_cases h2:i<=j;·rw[Gw JQ,Gw h2,(JQ:j-i=(j-(i+1))+1)];rfl
    ·rw[GN JQ,GN h2]
theorem numB_lk:∀(l:List Blk)(i j:Nat),lkM (AN i l) j=if i<=j then l[j-i]? else none
 |[],i,j=>by simp[AN,lkM,lk]
 | a::l,i,j=>by
   have ih:=numB_lk l (i+1) j;unfold lkM at ih |-
   unfold AN;rw[bZ];by_cases h:i=j;·subst h;simp
   ·rw[bA h,lh,ih];by_cases h2:i<=j;·rw[Gw JQ,Gw h2,(JQ:j-i=(j-(i+1))+1)];rfl
    ·rw[GN JQ,GN h2]
def nL(args:List AV)(bin:List Blk):LS:=⟨uC 0 args,AN 0 bin,bin.length⟩
theorem ga(args:List AV)(bin:List Blk):(nL args bin).st=AS.init args bin:=by
 unfold nL LS.st AS.init;congr 1;·funext i;exact(numL_lk args 0 i).trans JX
 ·funext i;exact(numB_lk bin 0 i).trans (by simp[ofL])
theorem Ctr.cut(cuts:List Nat){P:Program}{T:Ty}(hT:TOk P T)(hmix:P.follows .mixedOrders=true){f:Nat}{fn:Func}{c:Code}(hf:P.funcs[f]?=some fn)(hb:fn.body=some c)(hcall:Callable P f){args:List AV}{bin:List Blk}{res:AE}{bout:List (Option Blk)}
  (hN:Nat.ble args.length fn.ntmps=true) (h:SOk (AS.init args bin)->ma XT P T bin.length fn.ntmps cuts c (fun x s=>E3 T bin.length fn.results.toList res bout x s.st) (nL args bin)) (hbo:Nat.beq bout.length bin.length=true:=by rfl):Ctr P f args bin res bout:=
 Ctr.intro (hbo:=hbo) hT hf hb hcall hN fun hok=>by have:=aF hT hmix c _ _ (h hok);rw[ga] at this;exact this.mono fun x s hx=>by obtain⟨ls,rfl,hx⟩:=hx;exact hx
theorem Ctr.of{P:Program}{T:Ty}(hT:TOk P T)(hmix:P.follows .mixedOrders=true){f:Nat}{fn:Func}{c:Code}(hf:P.funcs[f]?=some fn)(hb:fn.body=some c)(hcall:Callable P f){args:List AV}{bin:List Blk}{res:AE}{bout:List (Option Blk)}
  (hN:Nat.ble args.length fn.ntmps=true) (h:SOk (AS.init args bin)->ma XT P T bin.length fn.ntmps [] c (fun x s=>E3 T bin.length fn.results.toList res bout x s.st) (nL args bin)) (hbo:Nat.beq bout.length bin.length=true:=by rfl):Ctr P f args bin res bout:=
 Ctr.cut (hbo:=hbo) [] hT hmix hf hb hcall hN h
theorem Ctr.new(cuts:List Nat){P:Program}{T:Ty}(hT:TOk P T)(hmix:P.follows .mixedOrders=true){f:Nat}{fn:Func}{c:Code}(hf:P.funcs[f]?=some fn)(hb:fn.body=some c)(hcall:Callable P f){args:List AV}{bin:List Blk}{res:AE}{bout:List (Option Blk)}
  (hN:Nat.ble args.length fn.ntmps=true) (h:SOk (AS.init args bin)->ma XT P T bin.length fn.ntmps cuts c (fun x s=>∃ ρ,dN bin.length ρ=true/\ρ.length=bout.length/\jg T ρ fn.results.toList res bout x s.st) (nL args bin)):Ctr P f args bin res bout:=
 Ctr.introR hT hf hb hcall hN fun hok=>by have:=aF hT hmix c _ _ (h hok);rw[ga] at this;exact this.mono fun x s hx=>by obtain⟨ls,rfl,hx⟩:=hx;exact hx
theorem aa.gen{P:Program}{m:Mem}{nh f:Nat}{xs:List AV}{K:EE}(ρ sn:List Nat)(as:List AV)(bin:List Blk)(res:AE)(bout:List (Option Blk))(h:Ctr P f as bin res bout)
  (h1:decide ρ.Nodup=true) (h2:Nat.beq ρ.length bin.length=true) (h3:Nat.beq bout.length bin.length=true) (h4:cF ρ.length bout=true) (h5:cvL m ρ [] (dA ρ sn) xs as)
  (h6:cvO m ρ (dA ρ sn) 0 (bin.map some)) (h7:(ρ++sn).all (fun k=>(m k).isSome)=true) (h8:res.lowH ρ.length=true)
  (hK:K (res.out ρ) (rdOf m (ρ++sn)) (callUp ρ sn res bout)):aa P m nh f xs K:=by
 refine⟨ρ,ρ,sn,as,bin,res,bout,⟨h,of_decide_eq_true h1,xx h2,by rw[Hm];simp[dt],(xx h3).trans (xx h2).symm,h4,h5,?_,fun k hk=>?_,h8⟩,hK⟩
 ·have:=m8 h6;have e:km (bin.map some)=ofL bin:=by
   funext i;unfold km ofL;rw[z5];cases bin[i]?<;>rfl
  rw[e] at this;exact this
 ·exact GV.1 (GQ.1 h7 k hk)
theorem aa.au{P:Program}{m:Mem}{nh f:Nat}{xs:List AV}{K:EE}(ρ sn:List Nat){as:List AV}{bin:List Blk}{res:AE}{bout:List (Option Blk)}(h:Ctr P f as bin res bout)
  (hK:K (res.out ρ) (rdOf m (ρ++sn)) (callUp ρ sn res bout))
  (h5:cvL m ρ [] (dA ρ sn) xs as:=by repeat' (first|exact trivial|exact Or.inl (ak (by assumption) (by assumption))|exact Or.inl rfl|exact rfl|exact t9 _|apply And.intro))
  (h6:cvO m ρ (dA ρ sn) 0 (bin.map some):=by repeat' (first|exact trivial|exact Or.inl (ak (by assumption) (by assumption))|exact Or.inl rfl|exact rfl|exact t9 _|apply And.intro))
  (h1:decide ρ.Nodup=true:=by exact rfl) (h2:Nat.beq ρ.length bin.length=true:=by exact rfl) (h3:Nat.beq bout.length bin.length=true:=by exact rfl) (h4:cF ρ.length bout=true:=by exact rfl)
  (h7:(ρ++sn).all (fun k=>(m k).isSome)=true:=by exact rfl) (h8:res.lowH ρ.length=true:=by exact rfl):aa P m nh f xs K:=aa.gen ρ sn as bin res bout h h1 h2 h3 h4 h5 h6 h7 h8 hK
def fNs:List Nat->(List Nat->Prop)->Prop
 |[],K=>K []
 |a::l,K=>fN a fun a=>fNs l fun l=>K (a::l)
theorem vC:∀(l:List Nat)(K:List Nat->Prop),fNs l K=K l
 |[],_=>rfl
 |a::l,K=>by unfold fNs;rw[nO,vC l]
theorem aa.new{P:Program}{m:Mem}{nh f:Nat}{xs:List AV}{K:EE}(ρ sn:List Nat)(as:List AV)(bin:List Blk)(res:AE)(bout:List (Option Blk))(h:Ctr P f as bin res bout)
  (h1:decide ρ.Nodup=true) (h2:Nat.beq ρ.length bin.length=true) (h3:Nat.ble ρ.length bout.length=true) (h4:cF bout.length bout=true) (h5:cvL m ρ [] (dA ρ sn) xs as)
  (h6:cvO m ρ (dA ρ sn) 0 (bin.map some)) (h7:(ρ++sn).all (fun k=>(m k).isSome)=true) (h8:res.lowH bout.length=true)
  (hK:fNs (ρ++dt nh (bout.length - ρ.length)) fun ro=>K (res.out ro) (rdOf m (ρ++sn)) (callUp ro sn res bout)):aa P m nh f xs K:=by
 rw[vC] at hK;have hle:=oo h3;have hl:(ρ++dt nh (bout.length - ρ.length)).length=bout.length:=by rw[uR,jp];omega
 refine⟨ρ,ρ++dt nh (bout.length - ρ.length),sn,as,bin,res,bout,⟨h,of_decide_eq_true h1,xx h2,by rw[hl],hl.symm,by rw[hl];exact h4,h5,?_,fun k hk=>?_,by rw[hl];exact h8⟩,hK⟩
 ·have:=m8 h6;have e:km (bin.map some)=ofL bin:=by
   funext i;unfold km ofL;rw[z5];cases bin[i]?<;>rfl
  rw[e] at this;exact this
 ·exact GV.1 (GQ.1 h7 k hk)
structure Decl where
 name:ByteArray
 word:Int
 at_:Int
inductive Expr where
 |mk (kind op:Int) (word:Int) (name:ByteArray) (kids:List Expr) (at_:Int)
inductive Stmt where
 |mk (kind:Int) (name other:ByteArray) (e:List Expr) (body els:List Stmt) (at_:Int)
structure Thread where
 name:ByteArray
 locals:List Decl
 body:List Stmt
 at_:Int
structure Prg where
 shared:List Decl
 locks:List Decl
 threads:List Thread
structure Flt where
 at_:Int
 rule:Int
def Decl.cells(d:Decl):List Tr:=[ts d.name,ti d.word,ti d.at_]
abbrev ae(l:List Decl):Tr:=.lst 3 32 (l.map Decl.cells)
mutual
def Expr.cells:Expr->List Tr
 | .mk kind op word name kids at_=>[tu kind,tu op,ti word,ts name,.lst 6 64 (Expr.rows kids),ti at_]
def Expr.rows:List Expr->List (List Tr)
 |[]=>[]
 |e::l=>Expr.cells e::Expr.rows l
end
theorem Expr.rows_eq:∀l:List Expr,Expr.rows l=l.map Expr.cells
 |[]=>rfl
 |e::l=>by simp only[Expr.rows,GO,Expr.rows_eq l]
abbrev rg(l:List Expr):Tr:=.lst 6 64 (Expr.rows l)
mutual
def Stmt.cells:Stmt->List Tr
 | .mk kind name other e body els at_=>[tu kind,ts name,ts other,.lst 6 64 (Expr.rows e),.lst 7 120 (Stmt.rows body),.lst 7 120 (Stmt.rows els),ti at_]
def Stmt.rows:List Stmt->List (List Tr)
 |[]=>[]
 |s::l=>Stmt.cells s::Stmt.rows l
end
theorem Stmt.rows_eq:∀l:List Stmt,Stmt.rows l=l.map Stmt.cells
 |[]=>rfl
 |e::l=>by simp only[Stmt.rows,GO,Stmt.rows_eq l]
abbrev ed(l:List Stmt):Tr:=.lst 7 120 (Stmt.rows l)
def Thread.cells(t:Thread):List Tr:=[ts t.name,ae t.locals,ed t.body,ti t.at_]
abbrev aA(l:List Thread):Tr:=.lst 4 72 (l.map Thread.cells)
def Prg.av(p:Prg):AV:=.agg [.tr (ae p.shared),.tr (ae p.locks),.tr (aA p.threads)]
def Decl.av(d:Decl):AV:=.agg (d.cells.map .tr)
def Thread.av(t:Thread):AV:=.agg (t.cells.map .tr)
def Expr.av(e:Expr):AV:=.agg (e.cells.map .tr)
def Stmt.av(s:Stmt):AV:=.agg (s.cells.map .tr)
def Flt.av(f:Flt):AV:=.agg [.tr (ti f.at_),.tr (ti f.rule)]
theorem aC{α β:Type}{f:α->β}{l:List α}{i:Nat}{y:β}(h:(l.map f)[i]?=some y):∃x,l[i]?=some x/\f x=y:=by simpa using h
theorem aG{α:Type}{l:List α}{i:Nat}{x:α}(h:l[i]?=some x):l.drop i=x::l.drop (i+1):=by have:=(a9.1 h);obtain⟨h1,rfl⟩:=this;exact HN h1
theorem aN{α:Type}{l:List α}{i:Nat}{x:α}(h:l[i]?=some x):l.take (i+1)=l.take i++[x]:=by rw[Hx,h];rfl
theorem oB{l:List Expr}{i:Nat}{y:List Tr}(h:(Expr.rows l)[i]?=some y):∃x,l[i]?=some x/\Expr.cells x=y:=by rw[Expr.rows_eq] at h;exact aC h
theorem nU{l:List Stmt}{i:Nat}{y:List Tr}(h:(Stmt.rows l)[i]?=some y):∃x,l[i]?=some x/\Stmt.cells x=y:=by rw[Stmt.rows_eq] at h;exact aC h
theorem aL(l:List Expr):(Expr.rows l).length=l.length:=by rw[Expr.rows_eq,ad]
theorem bz(l:List Stmt):(Stmt.rows l).length=l.length:=by rw[Stmt.rows_eq,ad]
abbrev seq(a b:ByteArray):Bool:=a.toList==b.toList
def findI:List Decl->ByteArray->Nat->Int
 |[],_,_=>-1
 |d::l,s,k=>if seq d.name s then k else findI l s (k+1)
def threadI:List Thread->ByteArray->Nat->Int
 |[],_,_=>-1
 |d::l,s,k=>if seq d.name s then k else threadI l s (k+1)
def localI(p:Prg)(t:Int)(name:ByteArray):Int:=
 if t<0 then -1 else match p.threads[t.toNat]? with
  |some th=>findI th.locals name 0
  |none=>-1
def variableI(p:Prg)(t:Int)(name:ByteArray)(shared:Bool):Int:=
 bif decide (localI p t name>=0) then(bif shared then 6 else 0)
 else bif decide (findI p.shared name 0>=0) then 0
 else bif decide (findI p.locks name 0>=0)||decide (threadI p.threads name 0>=0) then 6 else 5
def pO(p:Prg)(t:Int)(name:ByteArray):Int:=
 bif decide (localI p t name>=0) then 6
 else bif decide (findI p.locks name 0>=0) then 0
 else bif decide (findI p.shared name 0>=0)||decide (threadI p.threads name 0>=0) then 6 else 5
def leastI(a b:Int):Int:=bif (a==0)||(decide (b > 0)&&decide (b<a)) then b else a
def noS(s:ByteArray):Bool:=seq s ⟨#[]⟩
def two(op:Int):Bool:=decide (op>=1)&&decide (op<=16)
def partsB:Expr->Bool
 | .mk kind op word name kids _=>
  bif kind==1 then op==0&&noS name&&((Expr.rows kids).length:Int)==0&&decide (word>=0)
  else bif kind==2 then op==0&&word==0&&((Expr.rows kids).length:Int)==0
  else bif kind==3 then word==0&&noS name&&((Expr.rows kids).length:Int)==1&&(op==17||op==18)
  else bif kind==4 then word==0&&noS name&&((Expr.rows kids).length:Int)==2&&two op
  else false
def fieldsB:Stmt->Bool
 | .mk kind name other e body els _=>
  bif kind==1 then noS other&&((Expr.rows e).length:Int)==1 && !decide (((Stmt.rows body).length:Int) > 0) && !decide (((Stmt.rows els).length:Int) > 0)
  else bif kind==2 then((Expr.rows e).length:Int)==1 && !decide (((Stmt.rows body).length:Int) > 0) && !decide (((Stmt.rows els).length:Int) > 0)
  else bif kind==3 then noS name&&noS other&&((Expr.rows e).length:Int)==1
  else bif kind==4 then noS name&&noS other&&((Expr.rows e).length:Int)==1 && !decide (((Stmt.rows els).length:Int) > 0)
  else bif kind==5 then noS other&&((Expr.rows e).length:Int)==0 && !decide (((Stmt.rows els).length:Int) > 0)
  else bif kind==6 then noS name&&noS other&&((Expr.rows e).length:Int)==1 && !decide (((Stmt.rows body).length:Int) > 0) && !decide (((Stmt.rows els).length:Int) > 0)
  else bif kind==7 then noS name&&noS other&&((Expr.rows e).length:Int)==0 && !decide (((Stmt.rows body).length:Int) > 0) && !decide (((Stmt.rows els).length:Int) > 0)
  else false
def deepI(r deep:Int):Int:=bif (r==0)&&decide (deep > 64) then 7 else r
mutual
def rR(p:Prg)(t:Int):Expr->Int->Flt
 | .mk kind op word name kids at_,deep=>
  bif !partsB (.mk kind op word name kids at_) then⟨at_,4⟩
  else bif deepI (bif kind==2 then variableI p t name false else 0) deep != 0 then⟨at_,deepI (bif kind==2 then variableI p t name false else 0) deep⟩
  else gi p t kids (deep+1)
def gi(p:Prg)(t:Int):List Expr->Int->Flt
 |[],_=>⟨0,0⟩
 |e::l,deep=>bif (rR p t e deep).rule != 0 then rR p t e deep else gi p t l deep
end
def namesI(p:Prg)(t:Int)(kind:Int)(name other:ByteArray):Int:=
 bif kind==1 then variableI p t name false
 else bif kind==2 then leastI (variableI p t name false) (variableI p t other true)
 else bif kind==5 then pO p t name else 0
mutual
def rZ(p:Prg)(t:Int):Stmt->Int->Flt
 | .mk kind name other e body els at_,deep=>
  bif !fieldsB (.mk kind name other e body els at_) then⟨at_,4⟩
  else bif deepI (namesI p t kind name other) deep != 0 then⟨at_,deepI (namesI p t kind name other) deep⟩
  else bif (gi p t e 1).rule != 0 then gi p t e 1
  else bif (c7 p t body (deep+1)).rule != 0 then c7 p t body (deep+1)
  else c7 p t els (deep+1)
def c7(p:Prg)(t:Int):List Stmt->Int->Flt
 |[],_=>⟨0,0⟩
 |e::l,deep=>bif (rZ p t e deep).rule != 0 then rZ p t e deep else c7 p t l deep
end
def chI(s:ByteArray)(i:Nat):Int:=match s[i]? with
 |some b=>b.toNat
 |none=>0
def digB(c:Int):Bool:=decide (c>=48)&&decide (c<=57)
def letB(c:Int):Bool:=(decide (c>=97)&&decide (c<=122))||(decide (c>=65)&&decide (c<=90))||c==95
def wordB(s:ByteArray):Bool:=seq s ⟨#[115,104,97,114,101,100]⟩||seq s ⟨#[108,111,99,107]⟩||seq s ⟨#[116,104,114,101,97,100]⟩||seq s ⟨#[108,111,99,97,108]⟩||seq s ⟨#[105,102]⟩
 || seq s ⟨#[101,108,115,101]⟩||seq s ⟨#[119,104,105,108,101]⟩||seq s ⟨#[112,114,105,110,116]⟩||seq s ⟨#[115,107,105,112]⟩||seq s ⟨#[115,119,97,112]⟩
def js(s:ByteArray):Nat->Bool
 |0=>true
 |n+1=>bif !letB (chI s (s.size-(n+1))) && !digB (chI s (s.size-(n+1))) then false else js s n
def nameB(s:ByteArray):Bool:=bif decide ((s.size:Int)<1)||decide ((s.size:Int) > 32)||digB (chI s 0)||wordB s then false else js s s.size
theorem vz{s:ByteArray}{i:Nat}{b:UInt8}(h:s[i]?=some b)(hi:i<s.size):js s (s.size-i)=bif !letB b.toNat && !digB b.toNat then false else js s (s.size-(i+1)):=by
 have hc:chI s i=b.toNat:=by unfold chI;rw[h]
 have e:s.size-i=(s.size-(i+1))+1:=JQ;rw[e];show(bif !letB (chI s (s.size-(s.size-(i+1)+1))) && !digB (chI s (s.size-(s.size-(i+1)+1))) then false else js s (s.size-(i+1)))=_;rw[(JQ:s.size-(s.size-(i+1)+1)=i),hc]
theorem za(bs:ByteArray):∀(n i:Nat)(r:List UInt8),bs.size-i=n->(ByteArray.toList.loop bs i r).length=r.length+n:=by
 intro n;induction n with
 |zero=>intro i r h;unfold ByteArray.toList.loop;rw[GN JQ];simp
 |succ n ih=>intro i r h;unfold ByteArray.toList.loop;rw[Gw JQ,ih (i+1) _ JQ];simp;omega
theorem kG(a:ByteArray):a.toList.length=a.size:=by unfold ByteArray.toList;rw[za a a.size 0 [] rfl];simp
theorem rc(s:ByteArray):noS s=decide ((s.size:Int)<1):=by
 unfold noS seq;have h0:(⟨#[]⟩:ByteArray).toList=[]:=by have:=kG ⟨#[]⟩;exact GF this
 rw[h0];have h1:=kG s;cases h:s.toList with
 |nil=>rw[h] at h1;simp at h1;simp[<-h1]
 |cons a l=>rw[h] at h1;simp at h1;simp;omega
def twiceB(p:Prg)(kind:Int)(pre:List Decl)(name:ByteArray):Bool:=
 decide (findI pre name 0>=0)||((kind==1||kind==2)&&decide (findI p.shared name 0>=0))||(kind==2&&decide (findI p.locks name 0>=0))
def wordI(kind word:Int):Bool:=(kind==0&&word == -9223372036854775808)||(kind != 0&&word != 0)
def declI(p:Prg)(kind:Int)(pre:List Decl)(d:Decl)(i most:Int):Int:=
 bif !nameB d.name then 1 else bif twiceB p kind pre d.name then 2 else bif decide (i>=most) then 3 else bif wordI kind d.word then 4 else 0
def declsF(p:Prg)(kind most:Int):List Decl->List Decl->Flt
 |_,[]=>⟨0,0⟩
 |pre,d::l=>bif declI p kind pre d pre.length most != 0 then⟨d.at_,declI p kind pre d pre.length most⟩ else declsF p kind most (pre++[d]) l
def threadsF(p:Prg):Nat->List Thread->Flt->Flt
 |_,[],f=>f
 | i,t::l,f=>bif f.rule != 0 then f else
   bif !nameB t.name then⟨t.at_,1⟩
   else bif decide (findI p.shared t.name 0>=0)||decide (findI p.locks t.name 0>=0)||decide (threadI p.threads t.name 0<i) then⟨t.at_,2⟩
   else bif decide ((i:Int)>=8) then⟨t.at_,3⟩
   else threadsF p (i+1) l (bif (declsF p 2 64 [] t.locals).rule==0 then c7 p i t.body 1 else declsF p 2 64 [] t.locals)
def firstF(p:Prg):Flt:=
 threadsF p 0 p.threads (bif (declsF p 0 64 [] p.shared).rule==0 then declsF p 1 16 [] p.locks else declsF p 0 64 [] p.shared)
structure Tok where
 kind:Int
 text:ByteArray
 word:Int
 at_:Int
def Tok.cells(t:Tok):List Tr:=[tu t.kind,ts t.text,ti t.word,ti t.at_]
abbrev zZ(l:List Tok):Tr:=.lst 4 40 (l.map Tok.cells)
def Tok.av(t:Tok):AV:=.agg (t.cells.map .tr)
section
variable {P:Program} {T:Ty} {m:Mem} {nh f:Nat} {xs as:List AV} {ρ sn:List Nat} {bin:List Blk}
def Bm(m:Mem)(nh:Nat)(xs:List AV)(ρ sn:List Nat)(as:List AV)(bin:List Blk):Prop:=dc m nh xs ρ ρ sn as bin (.ret (.tup [])) (bin.map fun _=>none)
theorem vO{QQ:QE}{G:AE->List (Option Blk)->List Nat->Prop}(hc:cp P f as bin QQ)(h0:Bm m nh xs ρ sn as bin)(hQ:∀res bout,QQ res bout->∃ro,dc m nh xs ρ ro sn as bin res bout/\G res bout ro)(g:Gh)(w:World)(m':Mem)(vs:Array Value)
  (hm:MSt g w m') (hnb:nh<HMod) (hnh:∀k,k % HMod=nh->g k=.un) (hrd:∀p∈rdOf m (ρ++sn),m' p.1=some p.2) (hsz:vs.size=xs.length) (hvs:∀(i:Nat)(v:Value)(a:AV),vs[i]?=some v->xs[i]?=some a->Rep g w v a) :
  Calls P f vs w fun e w'=>∃res bout ro,G res bout ro/\dc m nh xs ρ ro sn as bin res bout/\∃gn,(res.out ro).is gn w' e/\MSt gn w' (bL m' (callUp ro sn res bout))/\Grow g w gn w'/\∀k,k % HMod≠nh->g k=.un->gn k=.un:=
 fj h0 (Run:=fun _=>Calls P f vs w fun e w'=>∃res bout ro,G res bout ro/\dc m nh xs ρ ro sn as bin res bout/\∃gn,(res.out ro).is gn w' e/\MSt gn w' (bL m' (callUp ro sn res bout))/\Grow g w gn w'/\∀k,k % HMod≠nh->g k=.un->gn k=.un) (fun _ _ h _=>h) g w m' vs
  (fun hun hmc hl hv=>(hc.run _ w vs hun hmc hl hv).mono fun e w' ⟨res,bout,hq,q⟩=>by obtain⟨ro,hf,hG⟩:=hQ res bout hq;exact⟨res,bout,ro,hG,hf,fj hf (Run:=fun R=>R e w') (fun _ _ h1 h2=>h2 _ _ h1) g w m' vs (fun _ _ _ _=>q) hm hnb hnh hrd hsz hvs⟩) hm hnb hnh hrd hsz hvs
abbrev YE:=AV->List (Nat×Option Blk)->Bool->Prop
def aj(P:Program)(m:Mem)(nh f:Nat)(xs:List AV)(R0:List (Nat×Blk)->Prop)(K Pn:KK):Prop:=
 ∃(ρ sn:List Nat)(as:List AV)(bin:List Blk)(QQ:QE),cp P f as bin QQ/\Bm m nh xs ρ sn as bin/\R0 (rdOf m (ρ++sn))/\∀res bout,QQ res bout->∃ro,dc m nh xs ρ ro sn as bin res bout /\
  match res with
  | .ret a=>AOk (a.out ro)->K (a.out ro) (rdOf m (ρ++sn)) (callUp ro sn res bout)
  | .pan a=>AOk (a.out ro)->Pn (a.out ro) (rdOf m (ρ++sn)) (callUp ro sn res bout)
def ql(P:Program)(o:Oper)(nh:Nat)(ev:Operand->Option AV)(m:Mem)(R0:List (Nat×Blk)->Prop)(K Pn:KK):Prop:=
 match o.op with
 | .call { callee:=.value x,args,.. }=>match ev x with
  |some c=>match gr c,evs ev args.toList with
   |some (f,caps),some xs=>aj P m nh f (xs++caps) R0 K Pn
   |none,some xs=>match c with
    | .ifc t a=>bif Nat.ble HMod t&&Nat.blt t (2*HMod) then aj P m nh (t-HMod) (a::xs) R0 K Pn else False
    |_=>False
   |_,_=>False
  |none=>False
 |_=>False
def AC(P:Program)(o:Oper)(nh:Nat)(ev:Operand->Option AV)(m:Mem)(rd:List (Nat×Blk))(Y:YE):Prop:=
 (∀p∈rd,m p.1=some p.2)/\(∀a up pan,Y a up pan->∀p∈up,p.1 % HMod=nh\/∃q∈rd,q.1=p.1) /\
 ∀(g:Gh)(w:World)(m:Mem)(act:Act)(Kc:Act->World->Prop)(Q:Exit->Act->World->Prop),MSt g w m->(∀k,k % HMod=nh->g k=.un)->(∀p∈rd,m p.1=some p.2)->(∀x b,ev x=some b->Rep g w (act.eval x) b) ->
  (∀a up,Y a up false->∀v w' g',Rep g' w' v a->MSt g' w' (bL m up)->Grow g w g' w'->(∀h,h % HMod≠nh->g h=.un->g' h=.un)->Kc (act.put o.dst v) w') ->
  (∀a up,Y a up true->∀v w' g',Rep g' w' v a->MSt g' w' (bL m up)->Grow g w g' w'->(∀h,h % HMod≠nh->g h=.un->g' h=.un)->Q (.panic [{ v,recovered:=false }]) act w')->o.wp P act w Kc Q
end
section
variable {P:Program} {T:Ty} {o:Oper} {m:Mem} {nh:Nat} {ev:Operand->Option AV} {K Pn:KK} {R0:List (Nat×Blk)->Prop}
theorem oz(hnb:nh<HMod){f:Nat}{ys:List AV}(hcall:∀(g:Gh)(w:World)(act:Act),Callable P f->(∀x b,ev x=some b->Rep g w (act.eval x) b)->∃vs:Array Value,(execOp act.eval o).run P w=.ok (.enter f vs) w/\vs.size=ys.length/\∀(i:Nat)(v:Value)(a:AV),vs[i]?=some v->ys[i]?=some a->Rep g w v a)
  (h:aj P m nh f ys R0 K Pn):∃rd Y,R0 rd/\AC P o nh ev m rd Y/\∀a up pan,Y a up pan->AOk a->bif pan then Pn a rd up else K a rd up:=by
 obtain⟨ρ,sn,as,bin,QQ,hc,h0,hR,hQ⟩:=h;have hQ':∀res bout,QQ res bout->∃ro,dc m nh ys ρ ro sn as bin res bout/\(match res with
  | .ret a=>AOk (a.out ro)->K (a.out ro) (rdOf m (ρ++sn)) (callUp ro sn res bout)
  | .pan a=>AOk (a.out ro)->Pn (a.out ro) (rdOf m (ρ++sn)) (callUp ro sn res bout)):=hQ
 refine⟨rdOf m (ρ++sn),fun a up pan=>∃res bout ro,dc m nh ys ρ ro sn as bin res bout/\up=callUp ro sn res bout/\(match res with
  | .ret b=>pan=false/\a=b.out ro/\(AOk (b.out ro)->K (b.out ro) (rdOf m (ρ++sn)) (callUp ro sn res bout))
  | .pan b=>pan=true/\a=b.out ro/\(AOk (b.out ro)->Pn (b.out ro) (rdOf m (ρ++sn)) (callUp ro sn res bout))),hR,⟨fun p hp=>(o7 p hp).1,?_,?_⟩,?_⟩
 ·rintro a up pan ⟨res,bout,ro,hok,rfl,_⟩ p hp;rcases callUp_in p hp with hp|hp
  ·rw[hok.ext] at hp;rcases FK.1 hp with hp|hp
   ·obtain⟨b,hb⟩:=hok.there p.1 (by simp[hp]);exact .inr ⟨(p.1,b),fY (by simp[hp]) hb,rfl⟩
   ·exact .inl ((eC hp).2.trans (Ht hnb))
  ·obtain⟨b,hb⟩:=hok.there p.1 (by simp[hp]);exact .inr ⟨(p.1,b),fY (by simp[hp]) hb,rfl⟩
 ·intro g w m' act Kc Q hm hn hrd hev hk hp;obtain⟨vs,hrun,e1,e2⟩:=hcall g w act hc.callable hev;unfold Oper.wp;rw[hrun];refine(vO hc h0 hQ' g w m' _ hm hnb hn hrd e1 e2).mono ?_;rintro e w' ⟨res,bout,ro,hG,hok,gn,h1,h2,h3,h4⟩;cases res with
  |ret a=>
   cases e with
   |returned v=>exact hk _ _ ⟨_,_,_,hok,rfl,rfl,rfl,hG⟩ v w' gn h1 h2 h3 h4
   |_=>exact h1.elim
  |pan a=>
   cases e with
   |panicked ch=>obtain⟨v,rfl,h1⟩:=h1;exact hp _ _ ⟨_,_,_,hok,rfl,rfl,rfl,hG⟩ v w' gn h1 h2 h3 h4
   |_=>exact h1.elim
 ·rintro a up pan ⟨res,bout,ro,hok,rfl,h⟩ ha;cases res with
  |ret b=>obtain⟨rfl,rfl,h⟩:=h;exact h ha
  |pan b=>obtain⟨rfl,rfl,h⟩:=h;exact h ha
theorem nX(hnb:nh<HMod)(h:ql P o nh ev m R0 K Pn):∃rd Y,R0 rd/\AC P o nh ev m rd Y/\∀a up pan,Y a up pan->AOk a->bif pan then Pn a rd up else K a rd up:=by
 unfold ql at h;split at h;case h_2=>exact h.elim
 rename_i x args ats ho;split at h;case h_2=>exact h.elim
 rename_i c hx;split at h;case h_3=>exact h.elim
 ·rename_i f caps xs hc hxs;exact oz hnb (nT ho hx hc hxs) h
 ·rename_i xs hc hxs;split at h;case h_2=>exact h.elim
  rename_i t a;cases hlt:(Nat.ble HMod t&&Nat.blt t (2*HMod)) with
  |false=>rw[hlt] at h;exact h.elim
  |true=>
   rw[hlt,r7] at h;rw[t4] at hlt;exact oz hnb (qA ho hx hxs hlt.1 (oo hlt.2)) h
end
def E5(P:Program)(N:Nat)(nh:Nat)(Q:QL)(o:Oper)(rest:RL):RL:=fun i tl bl=>
 bif dstOk N o.dst&&o.guard.isNone then ql P o (nh+i) (evA (lk tl)) (lkM bl) (fun _=>True) (fun a _ up=>il tl o.dst a fun tl=>kn up bl fun bl=>rest (i+1) tl bl) (fun a _ up=>kn up bl fun bl=>Q (.pan a) ⟨tl,bl,nh+i+1⟩) else False
noncomputable def tQ(P:Program)(T:Ty)(N:Nat)(ops:Array Oper)(nh:Nat)(Q:QL)(z:Nat)(l:List Oper):RL:=
 List.rec (motive:=fun _=>RL) (fun i tl bl=>fN (nh+i) fun n=>Q .normal ⟨tl,bl,n⟩) (fun o _ ih i tl bl=>match Nat.beq i z with|true=>E5 P N nh Q o ih i tl bl|false=>DN P T N ops nh Q o ih i tl bl) l
section
variable {X:Gh->World->Prop} {P:Program} {T:Ty} {k N:Nat} {ops:Array Oper} {g0:Gh} {w0:World}
theorem wR(nh:Nat)(Q:QL){o:Oper}{r:List Oper}{rest:RL}{i:Nat}(hnb:nh+i<HMod)(ih:∀(tl:List (Nat×AV))(bl:List (Nat×Option Blk))(g:Gh)(act:Act)(w:World),rest (i+1) tl bl->StR g0 w0 N (nh+(i+1)) g act w (lk tl) (lkM bl)->wpList P ops (ox g0 w0 N (Ql Q)) r act w)
  {tl:List (Nat×AV)} {bl:List (Nat×Option Blk)} {g:Gh} {act:Act} {w:World} (h:E5 P N nh Q o rest i tl bl) (hs:StR g0 w0 N (nh+i) g act w (lk tl) (lkM bl)):wpList P ops (ox g0 w0 N (Ql Q)) (o::r) act w:=by
 unfold E5 at h;cases hd:(dstOk N o.dst&&o.guard.isNone) with
 |false=>rw[hd] at h;exact h.elim
 |true=>
 rw[hd,r7] at h;rw[t4] at hd;obtain⟨hd,hg⟩:=hd;simp only[eP,eI] at h;obtain⟨rd,Y,_,⟨h1,_,hw⟩,hY⟩:=nX hnb h;unfold wpList;rw[Gw (by rw[Jp] at hg;simp[Region.wanted,hg])];refine .inl (hw g w (lkM bl) act _ _ hs.mem (fun k hk=>hs.un k (Ee hk.symm)) h1 (iu hs.fr) (fun a up hya v w' g' e1 e2 e3 e4=>?_) (fun a up hya v w' g' e1 e2 e3 e4=>?_))
 ·have hK:=hY a up false hya ⟨g',w',v,e1⟩;obtain⟨p1,p2⟩:=d8 (dst:=o.dst) hs.size hs.fr e3 hd e1;refine ih (cw tl o.dst a) (up++bl) g' _ w' hK ⟨p1,(bc ..).trans hs.defers,?_,?_,fun h hh=>e4 h JQ (hs.un h JQ),hs.grow.trans e3⟩;·rw[cS];exact p2
  ·rw[b8];exact e2
 ·have hK:=hY a up true hya ⟨g',w',v,e1⟩;exact⟨.pan a,_,g',⟨_,rfl,hK⟩,⟨hs.size,hs.defers,fun i b hb=>⟨(hs.fr i b hb).1,((hs.fr i b hb).2).grow e3⟩,by show MSt g' w' (lkM (up++bl));rw[b8];exact e2,fun h (hh:nh+i+1<=h % HMod)=>e4 h JQ (hs.un h JQ),hs.grow.trans e3⟩,v,rfl,e1⟩
theorem oJ(hT:TOk P T)(nh:Nat)(Q:QL)(z:Nat):∀(l:List Oper)(i:Nat)(tl:List (Nat×AV))(bl:List (Nat×Option Blk))(g:Gh)(act:Act)(w:World),nh+(i+l.length)<=HMod->tQ P T N ops nh Q z l i tl bl->StR g0 w0 N (nh+i) g act w (lk tl) (lkM bl)->wpList P ops (ox g0 w0 N (Ql Q)) l act w:=by
 intro l;induction l with
 |nil=>
  intro i tl bl g act w _ h hs;have h:fN (nh+i) fun n=>Q .normal ⟨tl,bl,n⟩:=h;rw[nO] at h;exact⟨.normal,_,g,⟨_,rfl,h⟩,⟨hs.size,hs.defers,hs.fr,hs.mem,hs.un,hs.grow⟩,J0⟩
 |cons o r ih=>
  intro i tl bl g act w hb h hs;rw[E0] at hb;have hnb:nh+i<HMod:=JQ;have h:(match Nat.beq i z with|true=>E5 P N nh Q o (tQ P T N ops nh Q z r) i tl bl|false=>DN P T N ops nh Q o (tQ P T N ops nh Q z r) i tl bl):=h;split at h;·exact wR nh Q hnb (fun tl bl g act w h hs=>ih (i+1) tl bl g act w JQ h hs) h hs
  ·exact mT hT nh Q hnb (fun tl bl g act w h hs=>ih (i+1) tl bl g act w JQ h hs) h hs
noncomputable def Gc(P:Program)(T:Ty)(N:Nat)(ops:Array Oper)(z:Nat):WL:=fun Q s=>match s with
 |⟨tl,bl,nx⟩=>bif Nat.ble (nx+ops.size) HMod then tQ P T N ops nx Q z ops.toList 0 tl bl else False
theorem af(hT:TOk P T)(z:Nat){id:Nat}{Q:QL}{s:LS}(h:Gc P T N ops z Q s):Wp X P k N (.region id ops false) (Ql Q) s.st:=by
 obtain⟨tl,bl,nx⟩:=s;intro g0 g w0 w act hk hs;have h:(bif Nat.ble (nx+ops.size) HMod then tQ P T N ops nx Q z ops.toList 0 tl bl else False):=h;cases hb:Nat.ble (nx+ops.size) HMod with
 |false=>rw[hb] at h;exact h.elim
 |true=>
  rw[hb,r7] at h;exact If (oJ hT nx Q z ops.toList 0 tl bl g act w (by simpa using oo hb) h ⟨hs.size,hs.defers,hs.fr,hs.mem,hs.un,hs.grow⟩)
end
theorem aj.by{P:Program}{m:Mem}{nh f:Nat}{xs:List AV}{R0:List (Nat×Blk)->Prop}{K Pn:KK}(ρ sn:List Nat){as:List AV}{bin:List Blk}{QQ:QE}(h:cp P f as bin QQ)
  (hK:∀res bout,QQ res bout->(Nat.ble ρ.length bout.length&&cF bout.length bout&&res.lowH bout.length)=true/\fNs (ρ++dt nh (bout.length - ρ.length)) fun ro=>match res with
   | .ret a=>AOk (a.out ro)->K (a.out ro) (rdOf m (ρ++sn)) (callUp ro sn res bout)
   | .pan a=>AOk (a.out ro)->Pn (a.out ro) (rdOf m (ρ++sn)) (callUp ro sn res bout))
  (h5:cvL m ρ [] (dA ρ sn) xs as:=by exact aut) (h6:cvO m ρ (dA ρ sn) 0 (bin.map some):=by exact aut) (h1:decide ρ.Nodup=true:=by exact rfl) (h2:Nat.beq ρ.length bin.length=true:=by exact rfl) (h7:(ρ++sn).all (fun k=>(m k).isSome)=true:=by exact rfl) (hR:R0 (rdOf m (ρ++sn)):=by first|exact trivial|kernel_rfl):aj P m nh f xs R0 K Pn:=by
 have hin:∀(res:AE)(bout:List (Option Blk))(ro:List Nat),ro=ρ++dt nh (ro.length - ρ.length)->bout.length=ro.length->cF ro.length bout=true->res.lowH ro.length=true->dc m nh xs ρ ro sn as bin res bout:=fun res bout ro q1 q2 q3 q4=>by
  refine⟨of_decide_eq_true h1,xx h2,q1,q2,q3,h5,?_,fun k hk=>?_,q4⟩
  ·have:=m8 h6;have e:km (bin.map some)=ofL bin:=by
    funext i;unfold km ofL;rw[z5];cases bin[i]?<;>rfl
   rw[e] at this;exact this
  ·exact GV.1 (GQ.1 h7 k hk)
 have hnone:∀(l:List Blk)(k:Nat),cF k (l.map fun _=>none)=true:=fun l k=>by
  induction l with
  |nil=>rfl
  |cons a l ih=>exact ih
 refine⟨ρ,sn,as,bin,QQ,h,hin _ _ ρ (by rw[Hm];simp[dt]) (by rw[ad];exact(xx h2).symm) (hnone _ _) rfl,hR,fun res bout hq=>?_⟩;obtain⟨q,hk⟩:=hK res bout hq;simp only[t4] at q;have hle:=oo q.1.1;have hl:(ρ++dt nh (bout.length - ρ.length)).length=bout.length:=by rw[uR,jp];omega
 rw[vC] at hk;exact⟨_,hin res bout _ (by rw[hl]) hl.symm (by rw[hl];exact q.1.2) (by rw[hl];exact q.2),hk⟩
theorem cp.new(cuts:List Nat){P:Program}{T:Ty}(hT:TOk P T)(hmix:P.follows .mixedOrders=true){f:Nat}{fn:Func}{c:Code}(hf:P.funcs[f]?=some fn)(hb:fn.body=some c)(hcall:Callable P f){args:List AV}{bin:List Blk}{QQ:QE}
  (hN:Nat.ble args.length fn.ntmps=true) (h:SOk (AS.init args bin)->ma XT P T bin.length fn.ntmps cuts c (fun x s=>∃res bout,QQ res bout/\∃ ρ,dN bin.length ρ=true/\ρ.length=bout.length/\jg T ρ fn.results.toList res bout x s.st) (nL args bin)):cp P f args bin QQ:=
 cp.introP hT hf hb hcall hN fun hok=>by have:=aF hT hmix c _ _ (h hok);rw[ga] at this;exact this.mono fun x s hx=>by obtain⟨ls,rfl,res,bout,hq,hx⟩:=hx;exact⟨res,bout,hq,[],hx⟩
section
variable {P:Program} {T:Ty} {N:Nat} {ops:Array Oper} {nh n:Nat} {g0:Gh} {w0:World}
def mH(P:Program)(N:Nat)(ops:Array Oper)(nh:Nat)(sp:Nat->Bool):List Oper->Nat->AS->List Rc->AS->Prop
 |[],_,s,[],sf=>sf=s
 |o::r,i,s,c::cs,sf=>(sp i=false->dstOk N o.dst=true/\bV ops s.t o c.run/\mN s.m (nh+i) c.rd c.up/\(c.run=true->gA P o (nh+i) (evR ops o s.t) c.rd c.up c.a false)/\(c.run=false->c.a=.und/\c.up=[]))/\mH P N ops nh sp r (i+1) (s.put o.dst c.a c.up) cs sf
 |_,_,_,_,_=>False
theorem mH.at{sp:Nat->Bool}{R:Nat->Rc}{s0:AS}:∀(l:List Oper)(i:Nat)(s:AS)(cs:List Rc)(sf:AS),mH P N ops nh sp l i s cs sf->(∀j o,l[j]?=some o->ops[i+j]?=some o)->(∀j,j<l.length->R (i+j)=recAt cs j)->s=ar ops R s0 (List.range i) ->
  sf=ar ops R s0 (List.range (i+l.length))/\cs.length=l.length/\∀j o,l[j]?=some o->sp (i+j)=false->gK P N ops nh R s0 (i+j) o false:=by
 intro l;induction l with
 |nil=>
  intro i s cs sf h _ _ hs;cases cs with
  |nil=>exact⟨by rw[show sf=s from h,hs];rfl,rfl,fun j o h=>by simp at h⟩
  |cons=>exact h.elim
 |cons o r ih=>
  intro i s cs sf h hl hR hs;cases cs with
  |nil=>exact h.elim
  |cons c cs=>
   obtain⟨h1,h6⟩:=h;have hRi:R i=c:=by have:=hR 0 JX;simpa[recAt] using this
   have ho:ops[i]?=some o:=by have:=hl 0 o JX;simpa using this
   have hd:dG ops i=o.dst:=by simp[dG,ho]
   obtain⟨q1,q2,q3⟩:=ih (i+1) (s.put o.dst c.a c.up) cs sf h6 (fun j o' ho'=>by have:=hl (j+1) o' (by simpa using ho');rw[(JQ:i+(j+1)=i+1+j)] at this;exact this)
    (fun j hj=>by have:=hR (j+1) (by simp;omega);rw[(JQ:i+(j+1)=i+1+j)] at this;simpa[recAt] using this)
    (by rw[Hk,foldS_snoc,hd,hRi,<-hs])
   refine⟨by rw[q1,E0,(JQ:i+(r.length+1)=i+1+r.length)],by simp[q2],fun j o' hj hsp=>?_⟩;cases j with
   |zero=>
    simp at hj;subst hj;unfold gK;rw[HR] at hsp |-
    rw[hRi,<-hs];exact h1 hsp
   |succ j=>
    have:=q3 j o' (by simpa using hj) (by rwa [(JQ:i+1+j=i+(j+1))])
    rwa [(JQ:i+1+j=i+(j+1))] at this
theorem dZ{R R':Nat->Rc}{s:AS}:∀(l:List Nat),(∀i∈l,(R i).a=(R' i).a/\(R i).up=(R' i).up)->ar ops R s l=ar ops R' s l:=by
 apply f7;·intro _;rfl
 ·intro l i ih h;rw[foldS_snoc,foldS_snoc,ih fun j hj=>h j (by simp[hj]),(h i JX).1,(h i JX).2]
def sH(P:Program)(T:Ty)(N:Nat)(ops:Array Oper)(nh:Nat)(o:Oper)(Kr:Rc->List (Nat×AV)->List (Nat×Option Blk)->Prop)(i:Nat)(tl:List (Nat×AV))(bl:List (Nat×Option Blk)):Prop:=
 bif dstOk N o.dst then
   (match o.guard with
   |none=>fU P T false o (nh+i) (evR ops o (lk tl)) (lkM bl) (fun a rd up=>il tl o.dst a fun tl=>kn up bl fun bl=>Kr ⟨a,rd,up,true⟩ tl bl) (fun _ _ _=>False)
   |some (j,want)=>match tI ops (lk tl) j with
    |some .und=>il tl o.dst .und fun tl=>Kr ⟨.und,[],[],false⟩ tl bl
    |some (.tr (.v (.bool y)))=>match y==want with
     |true=>fU P T false o (nh+i) (evR ops o (lk tl)) (lkM bl) (fun a rd up=>il tl o.dst a fun tl=>kn up bl fun bl=>Kr ⟨a,rd,up,true⟩ tl bl) (fun _ _ _=>False)
     |false=>il tl o.dst .und fun tl=>Kr ⟨.und,[],[],false⟩ tl bl
    |_=>False) else False
theorem ng(hT:TOk P T){o:Oper}{Kr:Rc->List (Nat×AV)->List (Nat×Option Blk)->Prop}{i:Nat}{tl:List (Nat×AV)}{bl:List (Nat×Option Blk)}(hnb:nh+i<HMod)(h:sH P T N ops nh o Kr i tl bl):
  ∃c:Rc,(dstOk N o.dst=true/\bV ops (lk tl) o c.run/\mN (lkM bl) (nh+i) c.rd c.up/\(c.run=true->gA P o (nh+i) (evR ops o (lk tl)) c.rd c.up c.a false)/\(c.run=false->c.a=.und/\c.up=[]))/\Kr c (cw tl o.dst c.a) (c.up++bl):=by
 unfold sH at h;cases hd:dstOk N o.dst with
 |false=>rw[hd] at h;exact h.elim
 |true=>
 rw[hd,r7] at h;simp only[eP,eI] at h;have run:fU P T false o (nh+i) (evR ops o (lk tl)) (lkM bl) (fun a rd up=>Kr ⟨a,rd,up,true⟩ (cw tl o.dst a) (up++bl)) (fun _ _ _=>False)->bV ops (lk tl) o true->∃c:Rc,(true=true/\bV ops (lk tl) o c.run/\mN (lkM bl) (nh+i) c.rd c.up/\(c.run=true->gA P o (nh+i) (evR ops o (lk tl)) c.rd c.up c.a false)/\(c.run=false->c.a=.und/\c.up=[]))/\Kr c (cw tl o.dst c.a) (c.up++bl):=by
  intro h hw;rcases astep_ok hnb hT h with⟨a,rd,up,hK,hru,hws⟩|⟨a,rd,up,hK,hru,hws⟩
  ·exact⟨⟨a,rd,up,true⟩,⟨rfl,hw,hru,fun _=>hws,fun h=>(by cases h)⟩,hK fun h=>(by cases h)⟩
  ·exact(hK fun h=>by cases h).elim
 have skip:Kr ⟨.und,[],[],false⟩ (cw tl o.dst .und) bl->bV ops (lk tl) o false->∃c:Rc,(true=true/\bV ops (lk tl) o c.run/\mN (lkM bl) (nh+i) c.rd c.up/\(c.run=true->gA P o (nh+i) (evR ops o (lk tl)) c.rd c.up c.a false)/\(c.run=false->c.a=.und/\c.up=[]))/\Kr c (cw tl o.dst c.a) (c.up++bl):=by intro h hw;exact⟨⟨.und,[],[],false⟩,⟨rfl,hw,⟨JX,JX⟩,fun h=>(by cases h),fun _=>JY⟩,h⟩
 split at h
 ·rename_i hg;exact run h (by simp[bV,hg])
 ·rename_i j want hg;split at h
  ·rename_i hv;exact skip h (by simp[bV,hg,hv])
  ·rename_i y hv;split at h
   ·rename_i hy;exact run h (by unfold bV;rw[hg];exact .inr ⟨y,hv,hy.symm⟩)
   ·rename_i hy;exact skip h (by unfold bV;rw[hg];exact .inr ⟨y,hv,hy.symm⟩)
  ·exact h.elim
def spz(ops:Array Oper)(z i:Nat):Bool:=Nat.beq i z||bef ops ops.size i z
noncomputable def dr1(P:Program)(T:Ty)(N:Nat)(ops:Array Oper)(nh z:Nat)(E:List Rc->Prop)(l:List Oper):Nat->List (Nat×AV)->List (Nat×Option Blk)->List Rc->Prop:=
 List.rec (motive:=fun _=>Nat->List (Nat×AV)->List (Nat×Option Blk)->List Rc->Prop) (fun _ _ _ acc=>E acc)
  (fun o _ ih i tl bl acc=>match spz ops z i with
   |true=>il tl o.dst .und fun tl=>ih (i+1) tl bl (acc++[⟨.und,[],[],false⟩])
   |false=>sH P T N ops nh o (fun c tl bl=>ih (i+1) tl bl (acc++[c])) i tl bl) l
theorem yJ(hT:TOk P T){z:Nat}{E:List Rc->Prop}:∀(l:List Oper)(i:Nat)(tl:List (Nat×AV))(bl:List (Nat×Option Blk))(acc:List Rc),nh+(i+l.length)<=HMod->dr1 P T N ops nh z E l i tl bl acc ->
  ∃cs sf,mH P N ops nh (spz ops z) l i (LS.st ⟨tl,bl,n⟩) cs sf/\E (acc++cs)/\∀j,j<l.length->spz ops z (i+j)=true->recAt cs j=⟨.und,[],[],false⟩:=by
 intro l;induction l with
 |nil=>intro i tl bl acc _ h;exact⟨[],_,rfl,by rw[G7];exact h,fun j hj=>by simp at hj⟩
 |cons o r ih=>
  intro i tl bl acc hb h;rw[E0] at hb;have h:(match spz ops z i with
   |true=>il tl o.dst .und fun tl=>dr1 P T N ops nh z E r (i+1) tl bl (acc++[⟨.und,[],[],false⟩])
   |false=>sH P T N ops nh o (fun c tl bl=>dr1 P T N ops nh z E r (i+1) tl bl (acc++[c])) i tl bl):=h
  have go:∀(c:Rc),dr1 P T N ops nh z E r (i+1) (cw tl o.dst c.a) (c.up++bl) (acc++[c])->(spz ops z i=false->dstOk N o.dst=true/\bV ops (lk tl) o c.run/\mN (lkM bl) (nh+i) c.rd c.up/\(c.run=true->gA P o (nh+i) (evR ops o (lk tl)) c.rd c.up c.a false)/\(c.run=false->c.a=.und/\c.up=[])) ->
    (spz ops z i=true->c=⟨.und,[],[],false⟩)->∃cs sf,mH P N ops nh (spz ops z) (o::r) i (LS.st ⟨tl,bl,n⟩) cs sf/\E (acc++cs)/\∀j,j<(o::r).length->spz ops z (i+j)=true->recAt cs j=⟨.und,[],[],false⟩:=by
   intro c h1 h2 h3;obtain⟨cs,sf,q1,q2,q3⟩:=ih (i+1) _ _ _ JQ h1;rw[gf] at q1;refine⟨c::cs,sf,⟨h2,q1⟩,by simpa using q2,fun j hj hsp=>?_⟩;cases j with
   |zero=>simpa[recAt] using h3 hsp
   |succ j=>
    have:=q3 j (by simpa using hj) (by rwa [(JQ:i+1+j=i+(j+1))]);simpa[recAt] using this
  split at h
  ·rename_i hsp;rw[eP] at h;exact go ⟨.und,[],[],false⟩ h (fun q=>by rw[hsp] at q;cases q) fun _=>rfl
  ·rename_i hsp;obtain⟨c,h1,h2⟩:=ng hT JQ h;exact go c h2 (fun _=>h1) fun q=>by rw[hsp] at q;cases q
noncomputable def dr2(P:Program)(T:Ty)(N:Nat)(ops:Array Oper)(nh z:Nat)(D:List Rc)(E:List Rc->List (Nat×AV)->List (Nat×Option Blk)->Prop)(l:List Oper):Nat->List (Nat×AV)->List (Nat×Option Blk)->List Rc->Prop:=
 List.rec (motive:=fun _=>Nat->List (Nat×AV)->List (Nat×Option Blk)->List Rc->Prop) (fun _ tl bl acc=>E acc tl bl)
  (fun o _ ih i tl bl acc=>sH P T N ops nh o (fun c tl bl=>match bef ops ops.size i z with
   |true=>ih (i+1) tl bl (acc++[c])
   |false=>c=recAt D i/\ih (i+1) tl bl (acc++[c])) i tl bl) l
theorem zD(hT:TOk P T){z:Nat}{D:List Rc}{E:List Rc->List (Nat×AV)->List (Nat×Option Blk)->Prop}:∀(l:List Oper)(i:Nat)(tl:List (Nat×AV))(bl:List (Nat×Option Blk))(acc:List Rc),nh+(i+l.length)<=HMod->dr2 P T N ops nh z D E l i tl bl acc ->
  ∃cs sf,mH P N ops nh (fun _=>false) l i (LS.st ⟨tl,bl,n⟩) cs sf/\(∃tl' bl',LS.st ⟨tl',bl',n⟩=sf/\E (acc++cs) tl' bl')/\∀j,j<l.length->bef ops ops.size (i+j) z=false->recAt cs j=recAt D (i+j):=by
 intro l;induction l with
 |nil=>intro i tl bl acc _ h;exact⟨[],_,rfl,⟨tl,bl,rfl,by rw[G7];exact h⟩,fun j hj=>by simp at hj⟩
 |cons o r ih=>
  intro i tl bl acc hb h;rw[E0] at hb;have h:sH P T N ops nh o (fun c tl bl=>match bef ops ops.size i z with
   |true=>dr2 P T N ops nh z D E r (i+1) tl bl (acc++[c])
   |false=>c=recAt D i/\dr2 P T N ops nh z D E r (i+1) tl bl (acc++[c])) i tl bl:=h
  obtain⟨c,h1,h2⟩:=ng hT JQ h;have h3:dr2 P T N ops nh z D E r (i+1) (cw tl o.dst c.a) (c.up++bl) (acc++[c])/\(bef ops ops.size i z=false->c=recAt D i):=by
   split at h2;·rename_i hb;exact⟨h2,fun q=>by rw[hb] at q;cases q⟩
   ·exact⟨h2.2,fun _=>h2.1⟩
  obtain⟨cs,sf,q1,⟨tl',bl',q2,q3⟩,q4⟩:=ih (i+1) _ _ _ JQ h3.1;rw[gf] at q1;refine⟨c::cs,sf,⟨fun _=>h1,q1⟩,⟨tl',bl',q2,by simpa using q3⟩,fun j hj hbf=>?_⟩;cases j with
  |zero=>simpa[recAt] using h3.2 hbf
  |succ j=>
   have:=q4 j (by simpa using hj) (by rwa [(JQ:i+1+j=i+(j+1))]);rw[(JQ:i+1+j=i+(j+1))] at this;simpa[recAt] using this
def rpl:List Oper->List Rc->List (Nat×AV)->List (Nat×Option Blk)->(List (Nat×AV)->List (Nat×Option Blk)->Prop)->Prop
 |o::r,c::cs,tl,bl,K=>il tl o.dst c.a fun tl=>kn c.up bl fun bl=>rpl r cs tl bl K
 |_,_,tl,bl,K=>K tl bl
theorem EA{sp:Nat->Bool}:∀(l:List Oper)(i:Nat)(tl:List (Nat×AV))(bl:List (Nat×Option Blk))(cs:List Rc)(sf:AS)(K:List (Nat×AV)->List (Nat×Option Blk)->Prop)(z:Nat),mH P N ops nh sp l i (LS.st ⟨tl,bl,n⟩) cs sf->rpl (l.take z) (cs.take z) tl bl K->∃tl' bl',K tl' bl'/\∀(R:Nat->Rc)(s0:AS),(∀j o,l[j]?=some o->ops[i+j]?=some o)->(∀j,j<z->j<l.length->R (i+j)=recAt cs j)->LS.st ⟨tl,bl,n⟩=ar ops R s0 (List.range i)->z<=l.length->LS.st ⟨tl',bl',n⟩=ar ops R s0 (List.range (i+z)):=by
 intro l;induction l with
 |nil=>
  intro i tl bl cs sf K z h hk;cases cs with
  |nil=>exact⟨tl,bl,by simpa[rpl] using hk,fun R s0 _ _ hs hz=>by simp at hz;subst hz;exact hs⟩
  |cons=>exact h.elim
 |cons o r ih=>
  intro i tl bl cs sf K z h hk;cases cs with
  |nil=>exact h.elim
  |cons c cs=>
   cases z with
   |zero=>exact⟨tl,bl,by simpa[rpl] using hk,fun R s0 _ _ hs _=>hs⟩
   |succ z=>
    obtain⟨_,h6⟩:=h;simp only[IA,rpl,eP,eI] at hk;rw[<-gf] at h6;obtain⟨tl',bl',q1,q2⟩:=ih (i+1) _ _ cs sf K z h6 hk;refine⟨tl',bl',q1,fun R s0 hl hR hs hz=>?_⟩;have hRi:R i=c:=by have:=hR 0 JQ JX;simpa[recAt] using this
    have ho:ops[i]?=some o:=by have:=hl 0 o JX;simpa using this
    have hd:dG ops i=o.dst:=by simp[dG,ho]
    have:=q2 R s0 (fun j o' ho'=>by have:=hl (j+1) o' (by simpa using ho');rw[(JQ:i+(j+1)=i+1+j)] at this;exact this)
     (fun j hj1 hj2=>by have:=hR (j+1) JQ (by simp;omega);rw[(JQ:i+(j+1)=i+1+j)] at this;simpa[recAt] using this)
     (by rw[gf,Hk,foldS_snoc,hd,hRi,<-hs]) (by simpa using hz)
    rwa [(JQ:i+1+z=i+(z+1))] at this
def qq(nh:Nat):Nat->List Rc->Bool
 |_,[]=>true
 |i,c::cs=>c.up.all (fun p=>Nat.beq (p.1 % HMod) (nh+i))&&qq nh (i+1) cs
theorem nK:∀(cs:List Rc)(i:Nat),qq nh i cs=true->∀j,∀p∈(recAt cs j).up,p.1 % HMod=nh+(i+j)
 |[],i,_,j,p,hp=>by simp[recAt] at hp
 |c::cs,i,h,j,p,hp=>by
  simp only[qq,t4,GQ] at h;cases j with
  |zero=>exact xx (h.1 p (by simpa[recAt] using hp))
  |succ j=>
   have:=nK cs (i+1) h.2 j p (by simpa[recAt] using hp);omega
theorem pF{R:Nat->Rc}{s:AS}{h:Nat}(hf:∀j,∀p∈(R j).up,p.1 % HMod=nh+j)(hh:h % HMod<nh)(l:List Nat):(ar ops R s l).m h=s.m h:=by
 rw[ju];have:l.filter (wM R h)=[]:=by rw[Ii];intro i _ hw;unfold wM at hw;obtain⟨p,hp,e⟩:=GM.1 (c8.1 hw);have:=hf i p hp;rw[e] at this;omega
 rw[this];rfl
noncomputable def Ef(P:Program)(T:Ty)(N:Nat)(ops:Array Oper)(z:Nat):WL:=fun Q s=>match s with
 | ⟨tl0,bl0,nx⟩=>bif Nat.ble (nx+ops.size) HMod then dr1 P T N ops nx z (fun D=>bN ops (D.map Rc.ft)=true/\rpl (ops.toList.take z) (D.take z) tl0 bl0 fun tl bl=>match ops[z]? with
   | some o=>bif dstOk N o.dst && o.guard.isNone then
     ql P o (nx+z) (evR ops o (lk tl)) (lkM bl) (fun rd=>bN ops ((D.set z ⟨.und,rd,[],false⟩).map Rc.ft)=true)
      (fun a rd up=>il tl o.dst a fun tl=>kn up bl fun bl=>dr2 P T N ops nx z D (fun C tl bl=>bN ops (C.map Rc.ft)=true/\fN (nx+ops.size) fun n=>Q .normal ⟨tl,bl,n⟩) (ops.toList.drop (z+1)) (z+1) tl bl (D.take z++[⟨a,rd,up,true⟩]))
      (fun a _ up=>qq nx 0 D=true/\kn up bl0 fun bl=>Q (.pan a) ⟨[],bl,nx+ops.size⟩) else False
   |none=>False) ops.toList 0 tl0 bl0 [] else False
theorem DU{fts:List Ft}(hok:bN ops fts=true){i z:Nat}(hi:i<ops.size)(h:bef ops ops.size i z=true):z<i:=by
 have hup:=lq hok;have:∀(f i:Nat),i<ops.size->bef ops f i z=true->z<i:=by
  intro f;induction f with
  |zero=>intro i _ h;cases h
  |succ f ih=>
   intro i hi h;unfold bef at h;simp only[Ib,Ix,t4] at h;rcases h with⟨d,h1,h2⟩|⟨d,h1,_,h2⟩
   ·have:=hup i hi d h1;have:=xx h2;omega
   ·have:=hup i hi d h1;have:=ih d JQ h2;omega
 exact this _ i hi h
theorem cK(hT:TOk P T)(hmix:P.follows .mixedOrders=true)(z:Nat){X:Gh->World->Prop}{k id:Nat}{Q:QL}{s:LS}(h:Ef P T N ops z Q s):Wp X P k N (.region id ops true) (Ql Q) s.st:=by
 obtain⟨tl0,bl0,nx⟩:=s;intro g0 g w0 w act hk hs;unfold Ef at h;dsimp only at h;cases hb:Nat.ble (nx+ops.size) HMod with
 |false=>rw[hb] at h;exact h.elim
 |true=>
 rw[hb,r7] at h
 replace hb:=oo hb
 obtain⟨D,sD,r1,⟨hokD,hrp⟩,hdum⟩:=yJ (n:=nx) hT ops.toList 0 tl0 bl0 [] (by simpa using hb) h;rw[HA] at hokD hrp;generalize hs0:LS.st ⟨tl0,bl0,nx⟩=s0 at r1 hs;have hget:∀(j:Nat)(o:Oper),ops.toList[j]?=some o->ops[0+j]?=some o:=fun j o ho=>by rw[E7];simpa using ho
 obtain⟨tl,bl,hrp,hst⟩:=EA (n:=nx) (ops:=ops) ops.toList 0 tl0 bl0 D sD _ z (by rw[hs0];exact r1) hrp;obtain⟨q1,q2,q3⟩:=mH.at (R:=recAt D) (s0:=s0) ops.toList 0 s0 D sD r1 hget (fun j _=>by rw[E7]) rfl;simp only[E7,BQ] at q1 q2 q3 hdum;split at hrp;case h_2=>exact hrp.elim
 rename_i o ho;have hz:z<ops.size:=(GI.1 ho).1;cases hd:(dstOk N o.dst&&o.guard.isNone) with
 |false=>rw[hd] at hrp;exact hrp.elim
 |true=>
 rw[hd,r7] at hrp;rw[t4] at hd;obtain⟨hd,hg⟩:=hd;have hstz:LS.st ⟨tl,bl,nx⟩=ar ops (recAt D) s0 (List.range z):=by
  have:=hst (recAt D) s0 hget (fun j _ _=>by rw[E7]) (by rw[hs0];rfl) (by simpa using Ke hz)
  rwa [E7] at this
 have ht:lk tl=(ar ops (recAt D) s0 (List.range z)).t:=by rw[<-hstz];rfl
 have hm:lkM bl=(ar ops (recAt D) s0 (List.range z)).m:=by rw[<-hstz];rfl
 simp only[eP,eI] at hrp;obtain⟨rd,Y,hokZ,⟨w1,w2,w3⟩,hY⟩:=nX JQ hrp;have hZ:∀i,(recAt (D.set z ⟨.und,rd,[],false⟩) i).a=(recAt D i).a/\(recAt (D.set z ⟨.und,rd,[],false⟩) i).up=(recAt D i).up/\(i≠z->recAt (D.set z ⟨.und,rd,[],false⟩) i=recAt D i):=fun i=>by
  by_cases hi:i=z
  ·subst hi;have h0:=hdum i hz (by unfold spz;rw[HC];rfl);refine⟨?_,?_,fun q=>absurd rfl q⟩<;>(rw[h0];unfold recAt;rw[t5,GD JQ];rfl)
  ·have e:recAt (D.set z ⟨.und,rd,[],false⟩) i=recAt D i:=by unfold recAt;rw[t5,t5,GW (fun q=>hi q.symm)]
   exact⟨by rw[e],by rw[e],fun _=>e⟩
 have hZrd:(recAt (D.set z ⟨.und,rd,[],false⟩) z).rd=rd:=by unfold recAt;rw[t5,GD JQ];rfl
 generalize D.set z ⟨.und,rd,[],false⟩=Z at hokZ hZ hZrd;have hfZ:∀l,ar ops (recAt Z) s0 l=ar ops (recAt D) s0 l:=fun l=>dZ l fun i _=>⟨(hZ i).1,(hZ i).2.1⟩;have hspz:∀i,spz ops z i=false->i≠z/\bef ops ops.size i z=false:=fun i hi=>by unfold spz at hi;rw[G8] at hi;exact⟨fun e=>(by rw[e,HC] at hi;cases hi.1),hi.2⟩
 have hInv:Inv g0 w0 N ops nx (recAt Z) s0 (fun i=>(Array.replicate ops.size false).getD i true) act { w with drawn:=w.drawn+1 }:=by
  refine⟨hs.size,hs.defers,g,?_⟩;have e:(List.range ops.size).filter (fun i=>(Array.replicate ops.size false).getD i true)=[]:=by rw[Ii];intro k hk;have:=G3.1 hk;simp[Array.getD,this]
  rw[e];have hg:Grow g w g { w with drawn:=w.drawn+1 }:=⟨rfl,rfl,rfl,t9 _,fun _ _=>rfl,fun _ _=>rfl,rfl,fun _ h=>h,fun _ _ h=>.inl h,fun h b e=>.inl ⟨h,e⟩⟩;refine⟨fun i a ha=>⟨(hs.fr i a ha).1,((hs.fr i a ha).2).grow hg⟩,⟨fun k b hb=>?_,hs.mem.inj,hs.mem.lt,hs.mem.xlt,hs.mem.xl,hs.mem.gl.grow hg⟩,fun h hh _=>hs.un h (by rw[<-hs0];exact hh),hs.grow.trans hg⟩;obtain⟨l,e1,e2⟩:=hs.mem.blk k b hb;exact⟨l,e1,e2.grow hg fun _ _=>rfl⟩
 have hs0un:∀h b,s0.m h=some b->h % HMod<nx:=fun h b hh=>by obtain⟨l,e1,_⟩:=hs.mem.blk h b hh;refine Nat.lt_of_not_le fun hle=>?_;rw[hs.un h (by rw[<-hs0];exact hle)] at e1;cases e1
 have hli:∀i,i<ops.size->(Array.replicate ops.size false).getD i true=true->∀d∈deps ops i,(Array.replicate ops.size false).getD d true=true:=fun i hi hl=>by simp[Array.getD,hi] at hl
 refine JW hmix ?_;refine f0 (sp:=spz ops z) (M:=fun listed=>listed.getD z true=false) hokZ (fun i o' hsp ho'=>?_) (fun listed i hM hsp=>?_) (fun i o' hsp ho' fuel listed act w hM hs hc hcl h2 h3 hI=>?_) (fun listed act w hM hall _=>?_)
  ops.size _ act _ JX (GB In JX) hli (by rw[Array.getD,dif_pos (by simpa using hz)];simp) hInv
 ·have:=q3 i o' (by simpa using ho') hsp;unfold gK at this |-
  rw[hfZ,(hZ i).2.2 (hspz i hsp).1];exact this
 ·rw[dd _ (fun e=>(hspz i hsp).1 e.symm)];exact hM
 ·have hin:i<ops.size:=(GI.1 ho').1;have hup:=lq hokZ;have hcb:∀k,k<ops.size->listed.getD k true=true->bef ops ops.size k z=false:=fun k hk hl=>by
   cases hbf:bef ops ops.size k z with
   |false=>rfl
   |true=>
    have:=(eQ (E:=fun j=>listed.getD j true=true/\j<ops.size) (fun j hj d hd'=>⟨hcl j hj.2 hj.1 d hd',Ig (hup j hj.2 d hd') hj.2⟩) ops.size k z hbf (fun d hd'=>⟨hcl k hk hl d hd',Ig (hup k hk d hd') hk⟩)).1;rw[hM] at this;cases this
  by_cases hiz:i=z
  case neg=>
   have hbf:bef ops ops.size i z=true:=by unfold spz at hsp;rw[bA hiz,GU] at hsp;exact hsp
   have:=(eQ (E:=fun j=>listed.getD j true=true/\j<ops.size) (fun j hj d hd'=>⟨hcl j hj.2 hj.1 d hd',Ig (hup j hj.2 d hd') hj.2⟩) ops.size i z hbf (fun d hd'=>⟨h3 d hd',Ig (hup i hin d hd') hin⟩)).1;rw[hM] at this;cases this
  subst hiz;obtain rfl:o=o':=by rw[ho] at ho';exact vx ho'
  obtain⟨t1,t2,_⟩:=gE (s0:=s0) hokZ hcl hz h2 h3 ho;obtain⟨g,g1,g2,g3,g4⟩:=hI.rest;have hlook:=jP t1 g1;rw[hfZ,<-ht] at hlook;rw[hZrd] at t2;unfold wpOp;rw[ho];simp only;rw[Gw (by rw[Jp] at hg;simp[Region.wanted,hg])];refine .inl (w3 g w _ act _ _ g2 (CR hz h2 g3) (fun p hp=>?_) hlook (fun a up hy v w' g' e1 e2 e3 e4=>?_) (fun a up hy v w' g' e1 e2 e3 e4=>?_))
  ·rw[t2 p.1 (GM.2 ⟨p,hp,rfl⟩),hfZ,<-hm];exact w1 p hp
  ·
   have hK:=hY a up false hy ⟨g',w',v,e1⟩;simp only[lh] at hK;obtain⟨cs,sf,c1,⟨tl',bl',c2,hokC,c3⟩,c4⟩:=zD (n:=nx) hT (ops.toList.drop (i+1)) (i+1) _ _ _ (by rw[Hu,BQ];omega) hK;rw[nO] at c3;rw[gf,hstz] at c1;have hlC:(D.take i++[(⟨a,rd,up,true⟩:Rc)]).length=i+1:=by rw[uR,DK];simp;omega
   have hC1:∀j,j<i->recAt (D.take i++[(⟨a,rd,up,true⟩:Rc)]++cs) j=recAt D j:=fun j hj=>by unfold recAt;rw[t5,t5,GH,v9 (by rw[DK];omega),Ba,Gw hj]
   have hC2:recAt (D.take i++[(⟨a,rd,up,true⟩:Rc)]++cs) i=⟨a,rd,up,true⟩:=by unfold recAt;rw[t5,GH,wS (by rw[DK];omega),DK,Hf JQ,Hm];rfl
   have hC3:∀j,recAt (D.take i++[(⟨a,rd,up,true⟩:Rc)]++cs) (i+1+j)=recAt cs j:=fun j=>by unfold recAt;rw[t5,t5,wS JQ,hlC,Hy]
   generalize D.take i++[(⟨a,rd,up,true⟩:Rc)]++cs=C at hokC c3 hC1 hC2 hC3;have hfC:ar ops (recAt C) s0 (List.range i)=ar ops (recAt D) s0 (List.range i):=dZ _ fun j hj=>by rw[hC1 j (G3.1 hj)];exact⟨rfl,rfl⟩
   have hdo:dG ops i=o.dst:=by simp[dG,ho]
   obtain⟨p1,p2,p3⟩:=mH.at (R:=recAt C) (s0:=s0) (ops.toList.drop (i+1)) (i+1) _ cs sf c1 (fun j o' ho'=>by rw[GA] at ho';simpa using ho') (fun j _=>hC3 j) (by rw[Hk,foldS_snoc,hdo,hC2,hfC]);have hn:i+1+(ops.toList.drop (i+1)).length=ops.size:=by rw[Hu,BQ];omega
   rw[hn] at p1;have hsame:∀j,j<ops.size->listed.getD j true=true->recAt C j=recAt D j:=fun j hj hl=>by
    rcases IS j i with q|q|q
    ·exact hC1 j q
    ·rw[q,h2] at hl;cases hl
    ·have e:j=i+1+(j-(i+1)):=JQ;have:=c4 (j-(i+1)) (by rw[Hu,BQ];omega) (by rw[<-e];exact hcb j hj hl);rw[e,hC3,this]
   have hfE:ar ops (recAt Z) s0 ((List.range ops.size).filter fun k=>listed.getD k true)=ar ops (recAt C) s0 ((List.range ops.size).filter fun k=>listed.getD k true):=by rw[hfZ];refine(dZ _ fun j hj=>?_).symm;obtain⟨j1,j2⟩:=HB.1 hj;rw[hsame j (G3.1 j1) j2];exact⟨rfl,rfl⟩
   rw[hfE] at g1 e2;obtain⟨_,_,u3⟩:=gE (s0:=s0) hokC hcl hz h2 h3 ho;have hput:=u3 _ (AK hs hz);rw[hC2] at hput;have hI':=Inv.next hz hs hd hI.size hI.defers g1 g3 g4 hput e1 e2 e3 e4;refine f0 (sp:=fun k=>Nat.beq k i) (M:=fun listed=>listed.getD i true=true) hokC (fun j o' hsp ho'=>?_) (fun listed j hM hsp=>?_) (fun j o' hsp _ fuel listed act w hM _ _ _ q _ _=>?_) (fun listed act w _ hall hI=>?_)
    fuel _ _ _ (by simpa using hs) (ru JQ h2 _ hc) (nB hcl h3 JQ) (dX _ _ JQ) hI'
   ·have hj:j<ops.size:=(GI.1 ho').1;have hne:j≠i:=fun e=>by rw[e,HC] at hsp;cases hsp
    rcases HD j i with q|q
    ·have hsp:spz ops i j=false:=by
      unfold spz;rw[bA hne,GU];cases hbf:bef ops ops.size j i with
      |false=>rfl
      |true=>have:=DU hokC hj hbf;omega
     have:=q3 j o' (by simpa using ho') hsp;unfold gK at this |-
     rw[hC1 j q,dZ (R:=recAt C) (R':=recAt D) _ fun k hk=>by rw[hC1 k (by have:=G3.1 hk;omega)];exact⟨rfl,rfl⟩];exact this
    ·have e:j=i+1+(j-(i+1)):=JQ;have:=p3 (j-(i+1)) o' (by rw[GA,<-e];simpa using ho') rfl
     rwa [<-e] at this
   ·by_cases hji:j=i;·subst hji;rw[HC] at hsp;cases hsp
    ·rw[dd _ (Kb hji)];exact hM
   ·have:=xx hsp;rw[this,hM] at q;cases q
   ·obtain⟨g,hg⟩:=iP hall hI;rw[<-p1,<-c2] at hg;exact⟨.normal,_,g,⟨⟨tl',bl',nx+ops.size⟩,rfl,c3⟩,hg,J0⟩
  ·
   have hK:=hY a up true hy ⟨g',w',v,e1⟩;simp only[r7] at hK;obtain⟨hfr,hK⟩:=hK;have hfr':∀j,∀p∈(recAt Z j).up,p.1 % HMod=nx+j:=fun j p hp=>by rw[(hZ j).2.1] at hp;have:=nK D 0 hfr j p hp;omega
   refine⟨.pan a,_,g',⟨_,rfl,hK⟩,⟨hI.size,hI.defers,fun x b hb=>(by cases hb),⟨fun h b hb=>?_,e2.inj,e2.lt,e2.xlt,e2.xl,e2.gl⟩,fun h (hh:nx+ops.size<=h % HMod)=>e4 h JQ (g3 h JQ fun k hk _=>JQ),g4.trans e3⟩,v,rfl,e1⟩;have hb:(bL (lkM bl0) up) h=some b:=by rw[<-b8];exact hb
   refine e2.blk h b ?_;unfold bL at hb |-
   cases hl:lk up h with
   |some x=>rw[hl] at hb;exact hb
   |none=>
    rw[hl] at hb;have hb:s0.m h=some b:=by rw[<-hs0];exact hb
    show(ar ops (recAt Z) s0 _).m h=some b;rw[pF hfr' (hs0un h b hb)];exact hb
 ·rw[hall z hz] at hM;cases hM
end
def uF(b:Bool)(v:Value)(u:FrameMode):Prop:=match b with
 |false=>v=.nilIface/\u=.returning
 |true=>u=.panicking [{ v,recovered:=false }]
def n8:AE:=.ret (.tup [])
structure tH(P:Program)(d:Nat)(b:Bool)(args:List AV)(pv:AV)(bin:List Blk)(bout:List (Option Blk)):Prop where
 callable:Callable P d
 run:∀(g:Gh)(w:World)(vs:Array Value)(v:Value)(u:FrameMode),(∀h,bin.length<=h->g h=.un)->MSt g w (ofL bin)->vs.size=args.length->(∀(i:Nat)(v:Value)(a:AV),vs[i]?=some v->args[i]?=some a->Rep g w v a)->Rep g w v pv->uF b v u ->
  CallsD P d vs u w fun e u' w'=>settle u'=.returning/\∃g',Grow g w g' w'/\MSt g' w' (km bout)/\iE g' bout.length/\n8.is g' w' e
section
variable {P:Program} {T:Ty}
theorem mI(hT:TOk P T){fn:Func}{k N:Nat}{g:Gh}{w:World}{D:List Deferred}{a:AV}{bout:List (Option Blk)}{x:AX}{s:AS}{g':Gh}{e:Exit}{act':Act}{w':World}{ρ:List Nat}(hun:∀h,k<=h->g h=.un)(hρ:dN k ρ=true)(hρl:ρ.length=bout.length)
  (h1:jg T ρ fn.results.toList (.ret a) bout x s) (h2:St (g.at D) w N g' act' w' s) (h3:x.is g' w' e) :
  (e=.normal\/e=.ret)/\∃v,(results fn act'.tmps).run P w'=.ok v w'/\∃g',Grow g w g' w'/\MSt g' w' (km bout)/\iE g' bout.length/\Rep g' w' v a:=by
 have under:iE (gsub g' ρ [] g'.X) bout.length:=fun i hi l hl=>by have:ρ[i]?=none:=yB JQ;simp[gsub,this,has] at hl
 have hsub:eB g' w' ρ (fun h=>!has ρ h) g'.X:=by refine⟨fun b hb=>hb.2.1,fun i b _ e1=>h2.mem.xl i b e1,fun i hi hm=>?_⟩;simp only[Ha] at hi;rw[c8.2 hm] at hi;cases hi
 have fin:(match jk T s fn.results.toList with|some l=>cv s.m ρ [] (fun h=>!has ρ h) (wJ l) a|none=>False)/\cvO s.m ρ (fun h=>!has ρ h) 0 bout ->
   ∃v,(results fn act'.tmps).run P w'=.ok v w'/\∃g',Grow g w g' w'/\MSt g' w' (km bout)/\iE g' bout.length/\Rep g' w' v a:=by
  rintro⟨h4,h5⟩;split at h4;case h_2=>exact h4.elim
  rename_i l hl;obtain⟨v,r1,r2⟩:=jz hT (fn:=fn) h2.fr h2.mem hl;have hst:=(jV hρ h5).st (g0:=g.at D) hun h2;exact⟨v,r1,_,hst.grow.of_at,hst.mem,under,fF hsub h2.mem r2 h4⟩
 cases x with
 |normal=>cases e with
  |normal=>exact⟨JZ,fin h1⟩
  |_=>exact h3.elim
 |ret=>cases e with
  |ret=>exact⟨.inr rfl,fin h1⟩
  |_=>exact h3.elim
 |exit i=>exact h1.elim
 |pan a=>exact h1.elim
theorem St.enter{g:Gh}{w:World}{vs:Array Value}{args:List AV}{bin:List Blk}{N:Nat}(hun:∀h,bin.length<=h->g h=.un)(hm:MSt g w (ofL bin))(hsz:vs.size=args.length)(hvs:∀(i:Nat)(v:Value)(a:AV),vs[i]?=some v->args[i]?=some a->Rep g w v a)(hN:args.length<=N):
  St (g.at []) w N g { tmps:=vs++Array.replicate (N-vs.size) undef,defers:=[] } w (AS.init args bin):=by
 refine⟨by simp;omega,rfl,fun i a hi=>?_,hm,fun h hh=>hun h (GB hh (Ir _ _)),Grow.at _ _ _⟩;have hi':args[i]?=some a:=hi;have hlt:i<args.length:=(a9.1 hi').1;refine⟨JQ,?_⟩;have hv:vs[i]?=some vs[i]:=by simp[(JQ:i<vs.size)]
 have:(vs++Array.replicate (N-vs.size) undef).getD i undef=vs[i]:=by rw[Array.getD,dif_pos (by simp;omega)];simp[JO,(JQ:i<vs.size)]
 rw[this];exact hvs i vs[i] a hv hi'
theorem r5{b:Bool}{v:Value}{u:FrameMode}(h:uF b v u)(c₀:Frame)(cs:List Frame)(hu:c₀.mode=u):
  ∃u',settle u'=.returning/\((recoverD (c₀::cs)=some (v,{ c₀ with mode:=u' }::cs))\/(recoverD (c₀::cs)=none/\v=.nilIface/\u'=u)):=by
 cases b with
 |false=>
  obtain⟨h1,h2⟩:=h;refine⟨u,by rw[h2];rfl,.inr ⟨?_,h1,rfl⟩⟩;rw[h2] at hu;simp[recoverD,hu]
 |true=>
  have h:u=.panicking [{ v,recovered:=false }]:=h;rw[h] at hu;refine⟨.panicking [{ v,recovered:=true }],by simp[settle],.inl ?_⟩;simp[recoverD,hu]
theorem iH(a b:Nat):Nat.beq a b=Nat.beq b a:=by
 by_cases h:a=b;·subst h;rfl
 ·rw[bA h,bA (Kb h)]
theorem tH.of(hT:TOk P T)(hmix:P.follows .mixedOrders=true){d:Nat}{fn:Func}{id:Nat}{o1 o2:Oper}{rest:Code}{ai bi:Nat}(hf:P.funcs[d]?=some fn)(hb:fn.body=some (.seq (.region id #[o1,o2] false) rest))(hcall:Callable P d)
  (ho1:o1.op=.call { callee:=.builtin .recover,args:=#[],argTypes:=#[] }) (hd1:o1.dst=some ai) (hg1:o1.guard=none) (ho2:o2.op=.assign (.tmp ai)) (hd2:o2.dst=some bi) (hg2:o2.guard=none)
  {b:Bool} {args:List AV} {pv:AV} {bin:List Blk} {bout:List (Option Blk)} (hN:(Nat.ble args.length fn.ntmps&&Nat.blt ai fn.ntmps&&Nat.blt bi fn.ntmps)=true) (hpv:b=false->pv=.tr (.v .nilIface)) (cuts:List Nat)
  (h:ma XT P T bin.length fn.ntmps cuts rest (fun x s=>E3 T bin.length fn.results.toList n8 bout x s.st) ⟨(bi,pv)::(ai,pv)::uC 0 args,AN 0 bin,bin.length⟩) (hbo:Nat.beq bout.length bin.length=true:=by rfl):tH P d b args pv bin bout:=by
 refine⟨hcall,fun g w vs v u hun hm hsz hvs hv hr=>callsD_of_wpS hf hb fun c₀ cs hu=>wpS_seq (wpS_region ?_)⟩;simp only[t4] at hN;obtain⟨⟨hN1,hN2⟩,hN3⟩:=hN;have hN1:=oo hN1;have hN2:ai<fn.ntmps:=oo hN2;have hN3:bi<fn.ntmps:=oo hN3;obtain⟨u',hu',hrec⟩:=r5 hr c₀ cs hu;have h0:=St.enter (N:=fn.ntmps) hun hm hsz hvs hN1;generalize hact:({ tmps:=vs++Array.replicate (fn.ntmps-vs.size) undef,defers:=[] }:Act)=act at h0;have e1:(execOp act.eval o1).run P w=.ok .recover w:=by simp[execOp,ho1,resolve,invoke,builtin]
 have p1:=d8 (dst:=some ai) (t:=(AS.init args bin).t) (v:=v) (a:=pv) h0.size h0.fr (Grow.refl g w) (by unfold dstOk;exact G6 hN2) hv;have p2:=d8 (dst:=some bi) (v:=v) (a:=pv) p1.1 p1.2 (Grow.refl g w) (by unfold dstOk;exact G6 hN3) hv;have hev:(act.put (some ai) v).eval (.tmp ai)=v:=by show(act.tmps.setIfInBounds ai v).getD ai undef=v;rw[bI (by rw[h0.size];exact hN2),Gw rfl]
 have e2:(execOp (act.put (some ai) v).eval o2).run P w=.ok (.value v) w:=by simp[execOp,ho2,hev]
 have w1:Region.wanted o1 (yielded #[o1,o2] act.tmps)=true:=by simp[Region.wanted,hg1]
 have w2:∀t,Region.wanted o2 (yielded #[o1,o2] t)=true:=fun t=>by simp[Region.wanted,hg2]
 have key:∀cs',(∃u',settle u'=.returning/\cs'={ c₀ with mode:=u' }::cs)->wpOpsS P #[o1,o2] (Exit.thenS (rest.wpS P (bodyPostS P fn c₀ cs fun e u' w'=>settle u'=.returning/\∃g',Grow g w g' w'/\MSt g' w' (km bout)/\iE g' bout.length/\n8.is g' w' e)) (bodyPostS P fn c₀ cs fun e u' w'=>settle u'=.returning/\∃g',Grow g w g' w'/\MSt g' w' (km bout)/\iE g' bout.length/\n8.is g' w' e)) [1] (act.put (some ai) v) cs' w:=by
  rintro _ ⟨u2,hu2,rfl⟩;have hg:(#[o1,o2]:Array Oper)[1]?=some o2:=rfl;unfold wpOpsS;rw[hg];simp only[w2,I6,e2];rw[JC,hd2];unfold wpOpsS;show rest.wpS P _ ((act.put (some ai) v).put (some bi) v) _ w;have hst:St (g.at []) w fn.ntmps g ((act.put (some ai) v).put (some bi) v) w (⟨(bi,pv)::(ai,pv)::uC 0 args,AN 0 bin,bin.length⟩:LS).st:=by
   refine⟨p2.1,h0.defers,fun i a hi=>p2.2 i a ?_,?_,fun h hh=>hun h (GB hh (Ir _ _)),Grow.at _ _ _⟩
   ·show(bif Nat.beq i bi then some pv else bif Nat.beq i ai then some pv else args[i]?)=some a;have hi:lk ((bi,pv)::(ai,pv)::uC 0 args) i=some a:=hi;rw[bZ,bZ,numL_lk] at hi;simp only[x5,I6,Kf] at hi;rw[iH i bi,iH i ai];exact hi
   ·have:(⟨(bi,pv)::(ai,pv)::uC 0 args,AN 0 bin,bin.length⟩:LS).st.m=ofL bin:=by
     funext i;exact(numB_lk bin 0 i).trans (by simp[ofL])
    rw[this];exact hm
  refine wpS_of_wp (H1 (aF hT hmix rest _ _ h (g.at []) g w w _ ⟨J0,hun⟩ hst) ?_);rintro e act' w' ⟨x,s,g',⟨ls,rfl,h1⟩,h2,h3⟩;obtain⟨he,v',r1,r2⟩:=mI hT (fn:=fn) hun (mZ _) (by rw[HZ];exact(xx hbo).symm) h1 h2 h3;rcases he with rfl|rfl<;>exact⟨h2.defers,u2,rfl,v',r1,hu2,r2⟩
 have hg:(#[o1,o2]:Array Oper)[0]?=some o1:=rfl;show wpOpsS P #[o1,o2] _ [0,1] act (c₀::cs) w;unfold wpOpsS;rw[hg];simp only[w1,I6,e1,hd1];rcases hrec with hrec|⟨hrec,hv0,hue⟩
 ·rw[hrec];exact key _ ⟨u',hu',rfl⟩
 ·rw[hrec,<-hv0];refine key _ ⟨u,by rw[<-hue];exact hu',?_⟩;rw[<-hu]
end
def oe(P:Program)(T:Ty)(k d:Nat)(b:Bool)(cl:List AV)(pv:AV)(rs:List ResultVar)(res:AV)(bout:List (Option Blk))(s:LS):Prop:=
 ∃(ρ sn:List Nat)(as:List AV)(apv:AV)(bin':List Blk)(bout':List (Option Blk)),dc s.st.m s.nx (cl++[pv]) ρ ρ sn (as++[apv]) bin' n8 bout'/\tH P d b as apv bin' bout' /\
  Nat.blt s.nx HMod=true/\∃ ρ',dN k ρ'=true/\ρ'.length=bout.length/\jg T ρ' rs (.ret res) bout .ret ⟨s.st.t,bL s.st.m (callUp ρ sn n8 bout'),s.nx+1⟩
def Gn(P:Program)(T:Ty)(k d:Nat)(cl:List AV)(rs:List ResultVar)(res:AV)(bout:List (Option Blk)):QL
 | .normal,s|.ret,s=>oe P T k d false cl (.tr (.v .nilIface)) rs res bout s
 | .pan a,s=>oe P T k d true cl a rs res bout s
 | .exit _,_=>False
section
variable {P:Program} {T:Ty}
theorem gR(hT:TOk P T){fn:Func}{k d N:Nat}{b:Bool}{cl:List AV}{pv:AV}{res:AV}{bout:List (Option Blk)}{s:LS}(h:oe P T k d b cl pv fn.results.toList res bout s)
  {g g1 g':Gh} {w w1 w':World} {D:List Deferred} {act':Act} {cs:Array Value} {v:Value} {u:FrameMode} (hun:∀h,k<=h->g h=.un) (hG:Grow g w g1 w1) (h2:St (g1.at D) w1 N g' act' w' s.st)
  (hsz:cs.size=cl.length) (hcs:∀(i:Nat)(v:Value)(a:AV),cs[i]?=some v->cl[i]?=some a->Rep g' w' v a) (hv:Rep g' w' v pv) (hr:uF b v u) :
  Leaves P fn act'.tmps (fun e w'=>∃g',Grow g w g' w'/\MSt g' w' (km bout)/\iE g' bout.length/\(AE.ret res).is g' w' e) [{ target:=.fn (.func d) cs,args:=#[] }] u w':=by
 obtain⟨ρ,sn,as,apv,bin',bout',hfit,hc,hnb,ρ',hρ,hρl,hfin⟩:=h;have hnb:s.nx<HMod:=oo hnb;have hne:u≠.run:=by
  cases b with
  |false=>rw[hr.2];simp
  |true=>rw[show u=.panicking [{ v,recovered:=false }] from hr];simp
 refine leaves_cons hne (f:=d) (args:=cs) ?_ ?_
 ·simp only[invoke];rw[hc.callable];simp
 have hlen:cl.length=as.length:=by have:=(ij hfit.args).1;simp at this;exact this
 have:=fj hfit (Run:=fun R=>CallsD P d cs u w' fun e u' w''=>settle u'=.returning/\R e w'') (fun R R' h1 h2=>h1.mono fun e u' w'' q=>⟨q.1,h2 e w'' q.2⟩) g' w' s.st.m (cs.push v)
  (fun hunc hmc hl hvs=>by
   refine hc.run _ w' cs v u hunc hmc (by simp at hl;exact hl) (fun i x a e1 e2=>?_) ?_ hr
   ·have hi:i<cs.size:=(GI.1 e1).1;refine hvs i x a ?_ ?_;·rw[HK,GN JQ];exact e1
    ·rw[v9 JQ];exact e2
   ·refine hvs cs.size v apv JX ?_;rw[wS JQ,(JQ:cs.size-as.length=0)];rfl)
  h2.mem hnb (fun k hk=>h2.un k (Ee hk.symm)) (fun p hp=>(o7 p hp).1) (by simp;omega) (fun i x a e1 e2=>by
   by_cases hi:i<cs.size
   ·rw[HK,GN JQ] at e1;rw[v9 JQ] at e2;exact hcs i x a e1 e2
   ·have hi2:=(GI.1 e1).1;simp at hi2;have hi3:i=cs.size:=JQ;subst hi3;rw[HK,Gw rfl] at e1;rw[wS JQ,(JQ:cs.size-cl.length=0)] at e2;cases e1;cases e2;exact hv)
 refine this.mono fun e u' w'' hq=>?_;obtain⟨hset,gn,q1,q2,q3,q4⟩:=hq;cases e with
 |returned v'=>
  show Leaves P fn act'.tmps _ [] (settle u') w'';rw[hset];have hst:St (g.at D) w N gn act' w'' ⟨s.st.t,bL s.st.m (callUp ρ sn n8 bout'),s.nx+1⟩:=
   ⟨h2.size,h2.defers,fun i a hi=>⟨(h2.fr i a hi).1,((h2.fr i a hi).2).grow q3⟩,q2,fun h hh=>q4 h (by have:s.nx+1<=h % HMod:=hh;omega) (h2.un h (by show s.nx<=h % HMod;have:s.nx+1<=h % HMod:=hh;omega)),((hG.trans h2.grow.of_at).trans q3).to_at⟩
  obtain⟨_,v2,r1,r2⟩:=mI hT (fn:=fn) (x:=.ret) (e:=.ret) hun hρ hρl hfin hst trivial;exact⟨v2,r1,r2⟩
 |panicked ch=>exact q1.elim
 |outgrown=>exact q1.elim
theorem vu{g:Gh}{w:World}{ev:Operand->Option AV}{ρ:Operand->Value}(hev:∀x b,ev x=some b->Rep g w (ρ x) b){co:Array Operand}{cl:List AV}(h:evs ev co.toList=some cl):
  (co.map ρ).size=cl.length/\∀(i:Nat)(v:Value)(a:AV),(co.map ρ)[i]?=some v->cl[i]?=some a->Rep g w v a:=by
 obtain⟨e1,e2⟩:=kW hev _ _ h;exact⟨by simpa using e1,fun i v a q1 q2=>e2 i v a (by simpa using q1) q2⟩
theorem Rep.low{gn g':Gh}{w':World}{k:Nat}(hok:∀b,okB g' w' b->okB gn w' b)(hh:∀i,i<k->gn i=g' i){x:Value}{a:AV}(hr:Rep g' w' x a):a.lowH k=true->Rep gn w' x a:=by
 have hdl:∀ {i:Nat} {q:HS},Nat.blt i k=true->g' i=q->gn i=q:=fun{i q} hb hq=>(hh i (oo hb)).trans hq;have cells:∀ {cs:Array Value} {l:List AV},(∀(i:Nat)(c:Value)(a:AV),cs[i]?=some c->l[i]?=some a->a.lowH k=true->Rep gn w' c a)->ep k l=true ->
   ∀(i:Nat)(c:Value)(a:AV),cs[i]?=some c->l[i]?=some a->Rep gn w' c a:=fun ih hb i c a e1 e2=>ih i c a e1 e2 (belowL_get hb e2)
 induction hr with
 |und=>intro _;exact .und
 |tr h=>intro _;exact .tr (h.mono fun b hb=>⟨hok b hb,rfl⟩)
 |agg h1 h2 h3 ih=>intro hb;exact .agg h1 h2 (cells ih hb)
 |tup h1 h3 ih=>intro hb;exact .tup h1 (cells ih hb)
 |ptrD h1 h2=>intro hb;exact .ptrD (hdl hb h1) h2
 |ptr h1=>intro hb;exact .ptr (hdl hb h1)
 |vptD h1 h2=>intro hb;exact .vptD (hdl hb h1) h2
 |vpt h1=>intro hb;exact .vpt (hdl hb h1)
 |slD h1 h2=>intro hb;exact .slD (hdl hb h1) h2
 |sl h1 h2=>intro hb;exact .sl (hdl hb h1) h2
 |slN h1=>intro hb;exact .slN (hdl hb h1)
 |ept f h1 h2 h3=>intro _;exact .ept f (hok _ h1) h2 fun j t hj=>(h3 j t hj).mono fun b hb=>⟨hok b hb,rfl⟩
 |fn h1 h3 ih=>intro hb;exact .fn h1 (cells ih hb)
 |ifc ht h1 ih=>intro hb;exact .ifc ht (ih hb)
 |bnd hf h1 ih=>intro hb;exact .bnd hf (ih hb)
 |psl h1 ih=>intro hb;exact .psl (ih hb)
 |frz h1 h2 _ ih=>intro hb;exact .frz (hok _ h1) h2 (ih (belowL_get (l:=[_]) (i:=0) hb rfl))
 |win h1 h2 h3 ih=>intro hb;exact .win (ih hb) h2 h3
 |mpD h1 h2=>intro hb;exact .mpD (hdl hb h1) h2
 |mp h1=>intro hb;exact .mp (hdl hb h1)
 |ful h1 h2=>intro _;exact .ful (h1.mono fun b hb=>⟨hok b hb,rfl⟩) h2
theorem CN{k:Nat}{ln:List ((Nat×Nat)×(Nat×Nat))}{i j h len:Nat}(hl:(ln.all fun p=>Nat.blt p.2.1 k)=true)(hq:lnk ln i j=some (h,len)):Nat.blt h k=true:=by
 induction ln with
 |nil=>cases hq
 |cons p r ih=>
  obtain⟨⟨a,b⟩,x,l⟩:=p;rw[Ik,t4] at hl;change(bif Nat.beq b j&&Nat.beq a i then some (x,l) else lnk r i j)=some (h,len) at hq;cases hc:(Nat.beq b j&&Nat.beq a i) with
  |true=>rw[hc] at hq;cases hq;exact hl.1
  |false=>rw[hc] at hq;exact ih hl.2 hq
theorem fE.low{gn g':Gh}{w':World}{k:Nat}(hok:∀b,okB g' w' b->okB gn w' b)(hh:∀i,i<k->gn i=g' i){l:Loc}{F:Nat->Prop}{b:Blk}(hr:fE g' w' l F b)(hb:b.lowH k=true):fE gn w' l F b:=by
 cases b with
 |cells t as=>
  obtain⟨j,cs,rfl,e,h1,h2,h3⟩:=hr;exact⟨j,cs,rfl,e,h1,h2,fun i c a e1 e2=>(h3 i c a e1 e2).low hok hh (belowL_get hb e2)⟩
 |vec e n B rows=>
  obtain⟨hB,hn,hv⟩:=hr;refine⟨hB,hn,?_⟩;rcases hv with hv|⟨j,cap,cur,rfl,e1,e2,e3,e4,e5,e6⟩
  ·exact .inl hv
  ·exact .inr ⟨j,cap,cur,rfl,e1,e2,e3,e4,e5,fun i t hi=>by obtain⟨c,c1,c2⟩:=e6 i t hi;exact⟨c,c1,c2.mono fun b hb=>⟨hok b hb,rfl⟩⟩⟩
 |map kd es=>
  obtain⟨j,ents,clock,rfl,e1,e2,e3,e4⟩:=hr;exact⟨j,ents,clock,rfl,e1,e2,e3,fun i q t hi=>by obtain⟨en,c1,c2,c3⟩:=e4 i q t hi;exact⟨en,c1,c2,c3.mono fun b hb=>⟨hok b hb,rfl⟩⟩⟩
 |mpa kd es=>
  obtain⟨j,ents,clock,rfl,e1,e2,e3,e4⟩:=hr;exact⟨j,ents,clock,rfl,e1,e2,e3,fun i q t hi=>by obtain⟨en,c1,c2,c3⟩:=e4 i q t hi;exact⟨en,c1,c2,c3.low hok hh (GQ.1 hb (q,t) (i3 hi))⟩⟩
 |itr h0 n s=>
  obtain⟨r,b,rfl,e1,e2⟩:=hr;exact⟨r,b,rfl,e1,e2.low hok hh (show(AV.mp h0).lowH k=true from hb)⟩
 |fns e B h0 fs=>
  obtain⟨hB,hv⟩:=hr;refine⟨hB,?_⟩;rcases hv with hv|⟨j,cap,cur,rfl,e1,e2,e3,e4,e5⟩
  ·exact .inl hv
  ·exact .inr ⟨j,cap,cur,rfl,e1,e2,e3,e4,fun i p hi=>by obtain⟨c,c1,c2⟩:=e5 i p hi;exact⟨c,c1,c2.low hok hh (qG hb)⟩⟩
 |own n B rows ln=>
  obtain⟨hB,hn,hv⟩:=hr;refine⟨hB,hn,?_⟩;rcases hv with hv|⟨j,cap,cur,e,Fs,rfl,e1,e2,e3,e4,e5,e6,e7,e8⟩
  ·exact .inl hv
  ·exact .inr ⟨j,cap,cur,e,Fs,rfl,e1,e2,e3,e4,e5,e6,e7,fun i j row t c q1 q2 q3=>⟨fun q=>(e8 i j row t c q1 q2 q3).1 q,fun h' len q=>((e8 i j row t c q1 q2 q3).2 h' len q).low hok hh (CN hb q)⟩⟩
def vS(g:Gh)(k:Nat):Gh:=⟨fun i=>if i<k then g i else .un,g.X,g.D,g.F⟩
theorem bE{g:Gh}{k h b:Nat}(ho:cd (vS g k) h b):cd g h b:=by
 obtain⟨l,e1,e2⟩:=ho;change(if h<k then g h else HS.un)=.live l at e1;split at e1;·exact⟨l,e1,e2⟩
 ·cases e1
theorem fK{g:Gh}{k i:Nat}(h:i<k):vS g k i=g i:=by simp[vS,h]
theorem mc{g:Gh}{w:World}{k b:Nat}(h:okB g w b):okB (vS g k) w b:=⟨h.1,h.2.1,fun i hi=>h.2.2 i (bE hi)⟩
theorem Grow.cut{g g1:Gh}{w w1:World}{k:Nat}(h:Grow g w g1 w1)(hk:∀i,k<=i->g i=.un):Grow g w (vS g1 k) w1:=by
 refine⟨h.os,h.tape,h.output,h.size,h.block,h.xb,h.X,fun i hi=>?_,fun i l hi=>?_,fun i b hi=>h.new i b (bE hi)⟩
 ·have:i<k:=by
   rcases HD i k with q|q
   ·exact q
   ·exact absurd (hk i q) hi
  rw[fK this];exact h.un i hi
 ·change(if i<k then g1 i else HS.un)=.live l at hi;split at hi;·exact h.live i l hi
  ·cases hi
def DL(k0:Nat)(s:LS)(k:Nat):Bool:=Nat.ble k0 k&&(s.tl.all (fun p=>p.2.lowH k)&&s.bl.all fun p=>Nat.blt p.1 k&&(match p.2 with|some b=>b.lowH k|none=>true))
theorem zg{α:Type}{l:List (Nat×α)}{i:Nat}{a:α}(h:lk l i=some a):(i,a)∈l:=xH h
theorem Ctr.guard(cuts:List Nat)(hT:TOk P T)(hmix:P.follows .mixedOrders=true){f d t i0 i1:Nat}{fn:Func}{ops0:Array Oper}{o1 o2:Oper}{c:Code}{co:Array Operand}(hf:P.funcs[f]?=some fn)
  (hb:fn.body=some (.seq (.region i0 ops0 false) (.seq (.region i1 #[o1,o2] false) c))) (hcall:Callable P f)
  (ho1:o1.op=.makeFunc (.func d) #[] co) (hd1:o1.dst=some t) (hg1:o1.guard=none) (ho2:o2.op=.defer { callee:=.value (.tmp t),args:=#[],argTypes:=#[] }) (hd2:o2.dst=none) (hg2:o2.guard=none)
  {args:List AV} {bin:List Blk} {res:AV} {bout:List (Option Blk)} (hN:(Nat.ble args.length fn.ntmps&&Nat.blt t fn.ntmps)=true)
  (h:SOk (AS.init args bin)->ma XT P T bin.length fn.ntmps cuts (.region i0 ops0 false) (fun x s=>x=.normal/\DL bin.length s s.nx=true/\∃cl,evs (evA s.st.t) co.toList=some cl /\
   ma XT P T s.nx fn.ntmps cuts c (Gn P T bin.length d cl fn.results.toList res bout) ⟨(t,.fn d cl)::s.tl,s.bl,s.nx⟩) (nL args bin)):Ctr P f args bin (.ret res) bout:=by
 refine⟨hcall,fun g w vs hun hm hsz hvs=>calls_of_wp_defers hf hb (Km ?_)⟩;simp only[t4] at hN;have hN1:=oo hN.1;have hN2:t<fn.ntmps:=oo hN.2;have h0:=St.enter (N:=fn.ntmps) hun hm hsz hvs hN1;have hok:SOk (AS.init args bin):=h0.ok;have hw:=aF hT hmix _ _ _ (h hok);rw[ga] at hw;refine H1 (hw (g.at []) g w w _ ⟨J0,hun⟩ h0) ?_;rintro e act1 w1 ⟨x,s,g1,⟨ls,rfl,rfl,hlow,cl,hcl,h1⟩,h2,h3⟩;have hkk:bin.length<=ls.nx:=by unfold DL at hlow;simp only[t4] at hlow;exact oo hlow.1
 obtain⟨g1,h2⟩:∃g1',St (g.at []) w fn.ntmps g1' act1 w1 ls.st/\∀i,ls.nx<=i->g1' i=.un:=by
  unfold DL at hlow;simp only[t4,GQ] at hlow
  replace hlow:=hlow.2
  refine⟨vS g1 ls.nx,⟨h2.size,h2.defers,fun i a hi=>⟨(h2.fr i a hi).1,(h2.fr i a hi).2.low (fun b hb=>mc hb) (fun i hi=>fK hi) (hlow.1 _ (zg hi))⟩,?_,fun i hi=>?_,h2.grow.cut fun i hi=>hun i (GB hkk hi)⟩,fun i hi=>?_⟩
  ·refine⟨fun h b hb=>?_,fun h h' b e1 e2=>h2.mem.inj h h' b (bE e1) (bE e2),fun h b e1=>h2.mem.lt h b (bE e1),h2.mem.xlt,fun h b e1=>h2.mem.xl h b (bE e1),fun b Q hq=>⟨⟨(h2.mem.gl b Q hq).1.1,fun h ho=>(h2.mem.gl b Q hq).1.2 h (bE ho)⟩,(h2.mem.gl b Q hq).2⟩⟩;have hb':(lk ls.bl h).join=some b:=hb;have hb2:lk ls.bl h=some (some b):=by
    cases e:lk ls.bl h with
    |none=>rw[e] at hb';cases hb'
    |some x=>rw[e] at hb';exact E8 some hb'
   obtain⟨q1,q2⟩:=(by simpa using hlow.2 _ (zg hb2):Nat.blt h ls.nx=true/\b.lowH ls.nx=true);obtain⟨l,e1,e2⟩:=h2.mem.blk h b hb;exact⟨l,(fK (oo q1)).trans e1,e2.low (fun b hb=>mc hb) (fun i hi=>fK hi) q2⟩
  ·have:ls.nx<=i:=GB hi (Ir _ _);simp[vS,J2.2 this]
  ·simp[vS,J2.2 hi]
 obtain⟨h2,hun1⟩:=h2;cases e with
 |normal=>
  show(Code.seq (.region i1 #[o1,o2] false) c).wp P _ act1 w1;refine Km (If ?_);obtain⟨v1,v2⟩:=vu (iu h2.fr) hcl;generalize hcs:co.map act1.eval=cs at v1 v2;have e1:(execOp act1.eval o1).run P w1=.ok (.value (.func (.func d) #[] cs)) w1:=by rw[<-hcs];simp[execOp,ho1,Instr.makeFunc]
  have w1':Region.wanted o1 (yielded #[o1,o2] act1.tmps)=true:=by simp[Region.wanted,hg1]
  have w2:∀t,Region.wanted o2 (yielded #[o1,o2] t)=true:=fun t=>by simp[Region.wanted,hg2]
  have hfn:Rep g1 w1 (.func (.func d) #[] cs) (.fn d cl):=.fn v1 v2;have p1:=d8 (dst:=some t) (v:=.func (.func d) #[] cs) (a:=.fn d cl) h2.size h2.fr (Grow.refl g1 w1) (by unfold dstOk;exact G6 hN2) hfn;have hev:(act1.put (some t) (.func (.func d) #[] cs)).eval (.tmp t)=.func (.func d) #[] cs:=by show(act1.tmps.setIfInBounds t _).getD t undef=_;rw[bI (by rw[h2.size];exact hN2),Gw rfl]
  have e2:(execOp (act1.put (some t) (.func (.func d) #[] cs)).eval o2).run P w1=.ok (.defer { target:=.fn (.func d) cs,args:=#[] }) w1:=by simp[execOp,ho2,resolve,Deferred.ofValue,hev]
  show wpList P #[o1,o2] _ [o1,o2] act1 w1;unfold wpList;rw[Gw w1'];refine .inl ?_;unfold Oper.wp;rw[e1,JC,hd1];unfold wpList;rw[Gw (w2 _)];refine .inl ?_;unfold Oper.wp;rw[e2,Oper.upon_defer,hd2];unfold wpList;show c.wp P _ { act1.put (some t) (.func (.func d) #[] cs) with defers:={ target:=.fn (.func d) cs,args:=#[] }::act1.defers } w1;have hdf:act1.defers=[]:=h2.defers;rw[hdf];have hst:St (g1.at [{ target:=.fn (.func d) cs,args:=#[] }]) w1 fn.ntmps g1 { act1.put (some t) (.func (.func d) #[] cs) with defers:=[{ target:=.fn (.func d) cs,args:=#[] }] } w1 (⟨(t,.fn d cl)::ls.tl,ls.bl,ls.nx⟩:LS).st:=by refine⟨p1.1,rfl,fun i a hi=>p1.2 i a ?_,h2.mem,h2.un,Grow.at _ _ _⟩;show(bif Nat.beq i t then some (AV.fn d cl) else lk ls.tl i)=some a;have hi:lk ((t,AV.fn d cl)::ls.tl) i=some a:=hi;rw[bZ] at hi;rw[iH i t];exact hi
  refine H1 (aF hT hmix c _ _ h1 (g1.at [{ target:=.fn (.func d) cs,args:=#[] }]) g1 w1 w1 _ ⟨J0,hun1⟩ hst) ?_;rintro e act' w' ⟨x,s',g',⟨ls',rfl,h4⟩,h5,h6⟩;have hG:Grow g w g1 w1:=h2.grow.of_at;have hcs':∀(i:Nat)(v:Value)(a:AV),cs[i]?=some v->cl[i]?=some a->Rep g' w' v a:=fun i v a q1 q2=>(v2 i v a q1 q2).grow h5.grow.of_at;have hdf':act'.defers=[{ target:=.fn (.func d) cs,args:=#[] }]:=h5.defers;have hnil:Rep g' w' .nilIface (.tr (.v .nilIface)):=.tr (.v trivial);cases x with
  |normal=>cases e with
   |normal=>
    show Leaves P fn act'.tmps _ act'.defers .returning w';rw[hdf'];exact gR hT h4 hun hG h5 v1 hcs' hnil JY
   |_=>exact h6.elim
  |ret=>cases e with
   |ret=>
    show Leaves P fn act'.tmps _ act'.defers .returning w';rw[hdf'];exact gR hT h4 hun hG h5 v1 hcs' hnil JY
   |_=>exact h6.elim
  |exit i=>exact h4.elim
  |pan a=>cases e with
   |panic ch=>
    obtain⟨v,rfl,hv⟩:=h6;show Leaves P fn act'.tmps _ act'.defers (.panicking [{ v,recovered:=false }]) w';rw[hdf'];exact gR hT h4 hun hG h5 v1 hcs' hv rfl
   |_=>exact h6.elim
 |_=>exact h3.elim
theorem oe.by{k d:Nat}{b:Bool}{cl:List AV}{pv:AV}{rs:List ResultVar}{res:AV}{bout:List (Option Blk)}{s:LS}(ρ sn:List Nat){as:List AV}{apv:AV}{bin':List Blk}{bout':List (Option Blk)}(hc:tH P d b as apv bin' bout')
  (h1:decide ρ.Nodup=true) (h2:Nat.beq ρ.length bin'.length=true) (h3:Nat.beq bout'.length bin'.length=true) (h4:cF ρ.length bout'=true) (h5:cvL s.st.m ρ [] (dA ρ sn) (cl++[pv]) (as++[apv]))
  (h6:cvO s.st.m ρ (dA ρ sn) 0 (bin'.map some)) (h7:(ρ++sn).all (fun k=>(s.st.m k).isSome)=true) (ρ':List Nat) (h9:dN k ρ'=true) (h10:Nat.beq ρ'.length bout.length=true)
  (h:jg T ρ' rs (.ret res) bout .ret ⟨s.st.t,bL s.st.m (callUp ρ sn n8 bout'),s.nx+1⟩) (h0:Nat.blt s.nx HMod=true:=by rfl):oe P T k d b cl pv rs res bout s:=by
 refine⟨ρ,sn,as,apv,bin',bout',⟨of_decide_eq_true h1,xx h2,by rw[Hm];simp[dt],(xx h3).trans (xx h2).symm,h4,h5,?_,fun k hk=>?_,rfl⟩,hc,h0,ρ',h9,xx h10,h⟩
 ·have:=m8 h6;have e:km (bin'.map some)=ofL bin':=by
   funext i;unfold km ofL;rw[z5];cases bin'[i]?<;>rfl
  rw[e] at this;exact this
 ·exact GV.1 (GQ.1 h7 k hk)
end
inductive Anc(o:Nat->Option Nat):Nat->Nat->Prop
 |refl (n:Nat):Anc o n n
 |up {a n j:Nat}:n≠0->o n=some j->Anc o a j->Anc o a n
inductive Av(M:Nat)(P:Nat->List Nat)(d:Nat):Nat->Prop
 |zero:0≠d->Av M P d 0
 |step {p i:Nat}:Av M P d p->p∈P i->i≠d->i<M->Av M P d i
structure uu(o:Nat->Option Nat):Prop where
 zero:o 0=some 0
 lt:∀i j,0<i->o i=some j->j<i/\(o j).isSome=true
theorem Anc.le{o:Nat->Option Nat}(h:uu o){a n:Nat}(ha:Anc o a n):a<=n:=by
 induction ha with
 |refl=>exact t9 _
 |up h0 h1 _ ih=>have:=(h.lt _ _ JQ h1).1;omega
theorem Anc.trans{o:Nat->Option Nat}{a b c:Nat}(h1:Anc o a b)(h2:Anc o b c):Anc o a c:=by
 induction h2 with
 |refl=>exact h1
 |up q0 q1 _ ih=>exact .up q0 q1 ih
theorem gx{o:Nat->Option Nat}{a n j:Nat}(h0:n≠0)(h1:o n=some j):Anc o a n<->a=n\/Anc o a j:=by
 constructor
 ·intro h;cases h with
  |refl=>exact .inl rfl
  |up _ q1 h=>rw[h1] at q1;cases q1;exact .inr h
 ·rintro(rfl|h);·exact .refl _
  ·exact .up h0 h1 h
theorem gk{o:Nat->Option Nat}{a:Nat}:Anc o a 0<->a=0:=by
 constructor
 ·intro h;cases h with
  |refl=>rfl
  |up q=>exact absurd rfl q
 ·rintro rfl;exact .refl _
theorem gg{o:Nat->Option Nat}{a n:Nat}(h1:o n=none):Anc o a n<->a=n:=by
 constructor
 ·intro h;cases h with
  |refl=>rfl
  |up _ q1=>rw[h1] at q1;cases q1
 ·rintro rfl;exact .refl _
theorem Anc.some{o:Nat->Option Nat}(h:uu o){a n:Nat}(ha:Anc o a n)(hn:(o n).isSome=true):(o a).isSome=true:=by
 induction ha with
 |refl=>exact hn
 |up h0 h1 _ ih=>exact ih (h.lt _ _ JQ h1).2
theorem iS{o:Nat->Option Nat}(h:uu o){a b j x:Nat}(hab:b<a)(hj:o a=some j):(Anc o x a/\Anc o x b)<->(Anc o x j/\Anc o x b):=by
 rw[gx JQ hj];constructor
 ·rintro⟨rfl|q,hb⟩;·have:=Anc.le h hb;omega
  ·exact⟨q,hb⟩
 ·exact fun q=>⟨.inr q.1,q.2⟩
def kE(o:Nat->Option Nat)(n b:Nat):Nat->Option Nat:=fun i=>if i=n then some b else o i
theorem bf{o:Nat->Option Nat}{n b:Nat}:kE o n b n=some b:=by simp[kE]
theorem bB{o:Nat->Option Nat}{n b i:Nat}(h:i≠n):kE o n b i=o i:=by simp[kE,h]
theorem uu.upd{o:Nat->Option Nat}(h:uu o){n b:Nat}(h0:0<n)(hb:b<n)(hs:(o b).isSome=true):uu (kE o n b):=by
 refine⟨by rw[bB JQ];exact h.zero,fun i j hi hj=>?_⟩;have some':∀k,(o k).isSome=true->(kE o n b k).isSome=true:=fun k hk=>by
  by_cases e:k=n;·rw[e,bf];rfl
  ·rw[bB e];exact hk
 by_cases e:i=n
 ·rw[e,bf] at hj;cases hj;exact⟨JQ,some' _ hs⟩
 ·rw[bB e] at hj;obtain⟨q1,q2⟩:=h.lt i j hi hj;exact⟨q1,some' _ q2⟩
theorem C7{o:Nat->Option Nat}(h:uu o){n b:Nat}(h0:0<n)(hb:b<n)(hs:(o b).isSome=true)(a:Nat):∀x,Anc (kE o n b) a x<->(n<=a/\Anc o a x)\/(a<n/\((Anc o n x/\Anc o a b)\/(¬ Anc o n x/\Anc o a x))):=by
 intro x;induction x using Nat.strongRecOn with
 |ind x ih=>
  by_cases hx:x<n
  ·
   have hnx:¬ Anc o n x:=fun q=>by have:=Anc.le h q;omega
   have key:Anc (kE o n b) a x<->Anc o a x:=by
    by_cases x0:x=0;·rw[x0,gk,gk]
    ·cases hj:o x with
     |none=>rw[gg hj,gg (by rw[bB JQ];exact hj)]
     |some j=>
      have hjx:=(h.lt x j JQ hj).1;rw[gx x0 hj,gx x0 (by rw[bB JQ];exact hj),ih j hjx];have hnj:¬ Anc o n j:=fun q=>by have:=Anc.le h q;omega
      constructor
      ·rintro(q|⟨_,q⟩|⟨_,⟨q,_⟩|⟨_,q⟩⟩);·exact .inl q
       ·exact .inr q
       ·exact absurd q hnj
       ·exact .inr q
      ·rintro(q|q);·exact .inl q
       ·by_cases e:n<=a;·exact .inr (.inl ⟨e,q⟩)
        ·exact .inr (.inr ⟨JQ,.inr ⟨hnj,q⟩⟩)
   rw[key];constructor
   ·intro q;by_cases e:n<=a;·exact .inl ⟨e,q⟩
    ·exact .inr ⟨JQ,.inr ⟨hnx,q⟩⟩
   ·rintro(⟨_,q⟩|⟨_,⟨q,_⟩|⟨_,q⟩⟩);·exact q
    ·exact absurd q hnx
    ·exact q
  ·by_cases hxn:x=n
   ·subst hxn;have hup:=h.upd h0 hb hs;rw[gx JQ bf,ih b hb];have hnb:¬ Anc o x b:=fun q=>by have:=Anc.le h q;omega
    constructor
    ·rintro(q|⟨q1,q2⟩|⟨q1,⟨q,_⟩|⟨_,q⟩⟩);·exact .inl ⟨JQ,q ▸ .refl _⟩
     ·have:=Anc.le h q2;omega
     ·exact absurd q hnb
     ·exact .inr ⟨q1,.inl ⟨.refl _,q⟩⟩
    ·rintro(⟨q1,q2⟩|⟨q1,⟨_,q⟩|⟨q,_⟩⟩);·have:=Anc.le h q2;exact .inl JQ
     ·exact .inr (.inr ⟨q1,.inr ⟨hnb,q⟩⟩)
     ·exact absurd (.refl _) q
   ·have hu:kE o n b x=o x:=bB hxn;cases hj:o x with
    |none=>
     rw[gg (by rw[hu];exact hj),gg hj,gg hj];constructor;·intro q;exact .inl ⟨JQ,q⟩
     ·rintro(⟨_,q⟩|⟨_,⟨q,_⟩|⟨_,q⟩⟩);·exact q
      ·omega
      ·exact q
    |some j=>
     have hjx:=(h.lt x j JQ hj).1;rw[gx JQ (by rw[hu];exact hj),gx JQ hj,gx JQ hj,ih j hjx];constructor
     ·rintro(q|⟨q1,q2⟩|⟨q1,⟨q,q2⟩|⟨q,q2⟩⟩);·exact .inl ⟨JQ,.inl q⟩
      ·exact .inl ⟨q1,.inr q2⟩
      ·exact .inr ⟨q1,.inl ⟨.inr q,q2⟩⟩
      ·exact .inr ⟨q1,.inr ⟨fun w=>w.elim JQ q,.inr q2⟩⟩
     ·rintro(⟨q1,q|q⟩|⟨q1,⟨q|q,q2⟩|⟨q,q2|q2⟩⟩);·exact .inl q
      ·exact .inr (.inl ⟨q1,q⟩)
      ·omega
      ·exact .inr (.inr ⟨q1,.inl ⟨q,q2⟩⟩)
      ·exact .inl q2
      ·exact .inr (.inr ⟨q1,.inr ⟨fun w=>q (.inr w),q2⟩⟩)
structure om(M:Nat)(P:Nat->List Nat)(t:Nat->Nat)(k:Nat)(o:Nat->Option Nat):Prop where
 up:uu o
 dn:∀i j,j<i->(o i).isSome=true->(o j).isSome=true
 did:∀i,i<k->(o i).isSome=true
 most:∀i,(o i).isSome=true->i<M
 tr:∀i j,0<i->o i=some j->Anc (fun x=>some (t x)) j (t i)
 dom:∀i,(o i).isSome=true->∀d,¬ Av M P d i->Anc o d i
 shr:∀i j,0<i->o i=some j->∀z,(∀p∈P i,(o p).isSome=true->Anc o z p)->Anc o z j
 ahd:∀i j,k<=i->0<i->o i=some j->∀a,k<=a->Anc o a j->Anc o a (t i)
 now:∀i j,i<k->0<i->o i=some j->Anc o j (t i)
def sN(P:Nat->List Nat)(o:Nat->Option Nat)(n b:Nat):Prop:=∀x,Anc o x b<->∀p∈P n,(o p).isSome=true->Anc o x p
theorem BK{M:Nat}{P:Nat->List Nat}{t:Nat->Nat}(ht:∀i,0<i->i<M->t i∈P i/\t i<i){n x d:Nat}(h:Anc (fun x=>some (t x)) n x)(hx:x<M)(hd:d<n)(ha:Av M P d n):Av M P d x:=by
 induction h with
 |refl=>exact ha
 | @up x j h0 h1 h2 ih=>
  cases h1;obtain⟨q1,q2⟩:=ht x JQ hx;have hle:∀ {a y:Nat},Anc (fun x=>some (t x)) a y->y<M->a<=y:=by
   intro a y h;induction h with
   |refl=>intro _;exact t9 _
   | @up y j g0 g1 g2 ih=>
    intro hy;cases g1;have:=ht y JQ hy;have:=ih JQ;omega
  have:=hle h2 JQ;exact .step (ih JQ) q1 JQ hx
theorem om.tanc{M:Nat}{P:Nat->List Nat}{t:Nat->Nat}{k:Nat}{o:Nat->Option Nat}(h:om M P t k o){a x:Nat}(ha:Anc o a x):Anc (fun x=>some (t x)) a x:=by
 induction ha with
 |refl=>exact .refl _
 | @up x j h0 h1 h2 ih=>exact .up h0 rfl (ih.trans (h.tr x j JQ h1))
theorem om.step{M:Nat}{P:Nat->List Nat}{t:Nat->Nat}(ht:∀i,0<i->i<M->t i∈P i/\t i<i){n b:Nat}{o:Nat->Option Nat}(h:om M P t n o)(h0:0<n)(hn:n<M)(hb:sN P o n b):
  om M P t (n+1) (kE o n b)/\b<n/\(∀c,o n=some c->b<=c):=by
 obtain⟨tp,tl⟩:=ht n h0 hn;have hbt:Anc o b (t n):=(hb b).1 (.refl _) _ tp (h.did _ tl);have hbn:b<n:=by have:=Anc.le h.up hbt;omega
 have hbs:=h.did b hbn;have hup:=h.up.upd h0 hbn hbs;have hau:=fun a x=>C7 h.up h0 hbn hbs a x;have mono:∀z p,(o p).isSome=true->Anc (kE o n b) z p->Anc o z p:=fun z p hp hz=>by
  rcases(hau z p).1 hz with⟨_,q⟩|⟨q1,⟨q,q2⟩|⟨_,q⟩⟩
  ·exact q
  ·have hns:=Anc.some h.up q hp;obtain⟨c,hc⟩:=GV.1 hns;have:Anc o z c:=h.shr n c h0 hc z fun p hp hs=>((hb z).1 q2) p hp hs;exact(Anc.up JQ hc this).trans q
  ·exact q
 have low:∀z x,x<n->(Anc (kE o n b) z x<->Anc o z x):=fun z x hx=>by
  rw[hau];have hnx:¬ Anc o n x:=fun q=>by have:=Anc.le h.up q;omega
  constructor
  ·rintro(⟨_,q⟩|⟨_,⟨q,_⟩|⟨_,q⟩⟩);·exact q
   ·exact absurd q hnx
   ·exact q
  ·intro q;by_cases e:n<=z;·exact .inl ⟨e,q⟩
   ·exact .inr ⟨JQ,.inr ⟨hnx,q⟩⟩
 have some':∀i,(kE o n b i).isSome=true->i≠n->(o i).isSome=true:=fun i hi e=>by rwa [bB e] at hi
 have hdom:∀d,¬ Av M P d n->d=n\/Anc o d b:=fun d hd=>by
  by_cases e:d=n;·exact .inl e
  ·refine .inr ((hb d).2 fun p hp hs=>h.dom p hs d fun q=>hd (.step q hp (fun w=>e w.symm) hn))
 refine⟨⟨hup,?_,?_,?_,?_,?_,?_,?_,?_⟩,hbn,fun c hc=>?_⟩
 ·intro i j hij hi;by_cases e:j=n;·rw[e,bf];rfl
  ·rw[bB e];by_cases e2:i=n;·exact h.did j JQ
   ·exact h.dn i j hij (some' i hi e2)
 ·intro i hi;by_cases e:i=n;·rw[e,bf];rfl
  ·rw[bB e];exact h.did i JQ
 ·intro i hi;by_cases e:i=n;·rw[e];exact hn
  ·exact h.most i (some' i hi e)
 ·intro i j hi hj;by_cases e:i=n
  ·rw[e,bf] at hj;cases hj;rw[e];exact h.tanc hbt
  ·rw[bB e] at hj;exact h.tr i j hi hj
 ·intro i hi d hd;by_cases e:i=n
  ·rw[e];rw[e] at hd;rcases hdom d hd with rfl|q
   ·exact .refl _
   ·exact .up JQ bf ((low d b hbn).2 q)
  ·have hi:=some' i hi e;have hA:=h.dom i hi d hd;rw[hau];by_cases e1:n<=d;·exact .inl ⟨e1,hA⟩
   ·refine .inr ⟨JQ,?_⟩;by_cases e2:Anc o n i
    ·refine .inl ⟨e2,?_⟩;have:¬ Av M P d n:=fun q=>hd (BK ht (h.tanc e2) (h.most i hi) JQ q);rcases hdom d this with q|q
     ·omega
     ·exact q
    ·exact .inr ⟨e2,hA⟩
 ·intro i j hi hj z hz;have hz':∀p∈P i,(o p).isSome=true->Anc o z p:=fun p hp hs=>by
   refine mono z p hs (hz p hp ?_);by_cases e:p=n;·rw[e,bf];rfl
   ·rw[bB e];exact hs
  by_cases e:i=n
  ·subst e;rw[bf] at hj;cases hj;rw[low z b hbn];exact(hb z).2 hz'
  ·rw[bB e] at hj;have hA:=h.shr i j hi hj z hz';rw[hau];by_cases e1:n<=z;·exact .inl ⟨e1,hA⟩
   ·refine .inr ⟨JQ,?_⟩;by_cases e2:Anc o n j
    ·refine .inl ⟨e2,?_⟩;have hnj:=Anc.le h.up e2;have hji:=(h.up.lt i j hi hj).1;have him:i<M:=h.most i (by rw[hj];rfl);obtain⟨tp2,tl2⟩:=ht i hi him;have hat:=h.ahd i j JQ hi hj n (t9 _) e2;have hts:(o (t i)).isSome=true:=h.dn i (t i) tl2 (by rw[hj];rfl);have hzt:=hz (t i) tp2 (by
      by_cases e3:t i=n;·rw[e3,bf];rfl
      ·rw[bB e3];exact hts)
     rcases(hau z (t i)).1 hzt with⟨q,_⟩|⟨_,⟨_,q⟩|⟨q,_⟩⟩
     ·omega
     ·exact q
     ·exact absurd hat q
    ·exact .inr ⟨e2,hA⟩
 ·intro i j hi h1 hj a ha hA;have e:i≠n:=JQ;rw[bB e] at hj;rcases(hau a j).1 hA with⟨_,q⟩|⟨q,_⟩
  ·exact(hau a (t i)).2 (.inl ⟨JQ,h.ahd i j JQ h1 hj a JQ q⟩)
  ·omega
 ·intro i j hi h1 hj;by_cases e:i=n
  ·subst e;rw[bf] at hj;cases hj;exact(low _ _ tl).2 hbt
  ·rw[bB e] at hj;have him:i<M:=h.most i (by rw[hj];rfl);obtain⟨_,tl2⟩:=ht i h1 him;exact(low _ _ JQ).2 (h.now i j JQ h1 hj)
 ·have:Anc o b c:=h.shr n c h0 hc b fun p hp hs=>((hb b).1 (.refl _)) p hp hs;exact Anc.le h.up this
theorem om.again{M:Nat}{P:Nat->List Nat}{t:Nat->Nat}{o:Nat->Option Nat}(h:om M P t M o):om M P t 1 o where
 up:=h.up
 dn:=h.dn
 did:=fun i hi=>by rw[(JQ:i=0),h.up.zero];rfl
 most:=h.most
 tr:=h.tr
 dom:=h.dom
 shr:=h.shr
 ahd:=fun i j _ h1 hj a _ hA=>hA.trans (h.now i j (h.most i (by rw[hj];rfl)) h1 hj)
 now:=fun i j hi h1 _=>JQ
theorem om.start{M:Nat}(hM:0<M)(P:Nat->List Nat)(t:Nat->Nat):om M P t 1 (fun i=>if i=0 then some 0 else none) where
 up:=⟨rfl,fun i j hi hj=>by simp[(JQ:i≠0)] at hj⟩
 dn:=fun i j hj hi=>by
  by_cases e:i=0;·omega
  ·simp[e] at hi
 did:=fun i hi=>by rw[(JQ:i=0)];rfl
 most:=fun i hi=>by
  by_cases e:i=0;·omega
  ·simp[e] at hi
 tr:=fun i j hi hj=>by simp[(JQ:i≠0)] at hj
 dom:=fun i hi d hd=>by
  by_cases e:i=0
  ·subst e;rw[gk];by_cases e2:d=0;·exact e2
   ·exact absurd (.zero (fun w=>e2 w.symm)) hd
  ·simp[e] at hi
 shr:=fun i j hi hj=>by simp[(JQ:i≠0)] at hj
 ahd:=fun i j _ hi hj=>by simp[(JQ:i≠0)] at hj
 now:=fun i j _ hi hj=>by simp[(JQ:i≠0)] at hj
theorem Ca{M:Nat}{P:Nat->List Nat}{t:Nat->Nat}{o:Nat->Option Nat}(h:om M P t M o)(hfix:∀n b,0<n->n<M->o n=some b->sN P o n b)(hP:∀i,i<M->∀p∈P i,p<M)(d:Nat){x:Nat}(hx:x<M):Anc o d x<->¬ Av M P d x:=by
 constructor
 ·intro hA hav;have:∀y,Av M P d y->¬ Anc o d y:=by
   intro y hy;induction hy with
   |zero hd=>rw[gk];exact fun e=>hd e.symm
   | @step p i hp hpi hid hi ih=>
    intro q;by_cases e:i=0
    ·rw[e,gk] at q;exact hid JQ
    ·obtain⟨j,hj⟩:=GV.1 (h.did i hi);rw[gx e hj] at q;rcases q with q|q
     ·exact hid q.symm
     ·exact ih ((hfix i j JQ hi hj d).1 q p hpi (h.did p (hP i hi p hpi)))
  exact this x hav hA
 ·intro hd;exact h.dom x (h.did x hx) d hd
inductive Rch(fol:Nat->List Nat)(cut:Int):Nat->Prop
 |zero:Rch fol cut 0
 |step {a b:Nat}:Rch fol cut a->(a:Int)≠cut->b∈fol a->Rch fol cut b
theorem Rch.all{fol:Nat->List Nat}{cut:Int}{a:Nat}(h:Rch fol cut a):Rch fol (-1) a:=by
 induction h with
 |zero=>exact .zero
 |step _ _ h2 ih=>exact .step ih JQ h2
theorem Rch.lt{fol:Nat->List Nat}{N:Nat}(hN:0<N)(hf:∀a,∀b∈fol a,b<N){cut:Int}{a:Nat}(h:Rch fol cut a):a<N:=by
 cases h with
 |zero=>exact hN
 |step _ _ h=>exact hf _ _ h
def Dm(fol:Nat->List Nat)(a b:Nat):Prop:=Rch fol (-1) a/\Rch fol (-1) b/\(b=a\/¬ Rch fol (a:Int) b)
theorem Dm.trans{fol:Nat->List Nat}{a b c:Nat}(h1:Dm fol a b)(h2:Dm fol b c):Dm fol a c:=by
 refine⟨h1.1,h2.2.1,?_⟩;by_cases e:c=a;·exact .inl e
 refine .inr fun h=>?_;rcases h1.2.2 with q1|q1
 ·rcases h2.2.2 with q2|q2
  ·exact e (q2.trans q1)
  ·rw[q1] at q2;exact q2 h
 rcases h2.2.2 with q2|q2
 ·rw[q2] at h;exact q1 h
 have:∀y,Rch fol (a:Int) y->Rch fol (b:Int) y:=by
  intro y hy;induction hy with
  |zero=>exact .zero
  | @step p i hp hpa hpi ih=>
   refine .step ih (fun w=>?_) hpi;have:p=b:=JQ;exact q1 (this ▸ hp)
 exact q2 (this c h)
theorem Dm.total{fol:Nat->List Nat}{a b c:Nat}(h1:Dm fol a c)(h2:Dm fol b c):Dm fol a b\/Dm fol b a:=by
 by_cases e:a=b;·exact .inl ⟨h1.1,h2.1,.inl e.symm⟩
 by_cases q1:Rch fol (a:Int) b
 ·by_cases q2:Rch fol (b:Int) a
  ·
   have:∀y,Rch fol (-1) y->(Rch fol (a:Int) y/\Rch fol (b:Int) y)\/(Rch fol (a:Int) y/\y≠a)\/(Rch fol (b:Int) y/\y≠b):=by
    intro y hy;induction hy with
    |zero=>exact .inl ⟨.zero,.zero⟩
    | @step p i hp _ hpi ih=>
     by_cases ea:p=a
     ·subst ea;have hb:Rch fol (b:Int) i:=.step q2 JQ hpi;by_cases ei:i=b;·subst ei;exact .inl ⟨q1,hb⟩
      ·exact .inr (.inr ⟨hb,ei⟩)
     ·by_cases eb:p=b
      ·subst eb;have ha:Rch fol (a:Int) i:=.step q1 JQ hpi;by_cases ei:i=a;·subst ei;exact .inl ⟨ha,q2⟩
       ·exact .inr (.inl ⟨ha,ei⟩)
      ·rcases ih with⟨g1,g2⟩|⟨g,g1⟩|⟨g,g1⟩
       ·exact .inl ⟨.step g1 JQ hpi,.step g2 JQ hpi⟩
       ·have ha:Rch fol (a:Int) i:=.step g JQ hpi;by_cases ei:i=a;·subst ei;exact .inl ⟨ha,q2⟩
        ·exact .inr (.inl ⟨ha,ei⟩)
       ·have hb:Rch fol (b:Int) i:=.step g JQ hpi;by_cases ei:i=b;·subst ei;exact .inl ⟨q1,hb⟩
        ·exact .inr (.inr ⟨hb,ei⟩)
   rcases this c h1.2.1 with⟨g1,g2⟩|⟨g,g1⟩|⟨g,g1⟩
   ·rcases h1.2.2 with w1|w1
    ·rcases h2.2.2 with w2|w2
     ·exact absurd (w1.symm.trans w2) e
     ·exact absurd g2 w2
    ·exact absurd g1 w1
   ·rcases h1.2.2 with w|w
    ·exact absurd w g1
    ·exact absurd g w
   ·rcases h2.2.2 with w|w
    ·exact absurd w g1
    ·exact absurd g w
  ·exact .inr ⟨h2.1,h1.1,.inr q2⟩
 ·exact .inl ⟨h1.1,h2.1,.inr q1⟩
theorem Dm.anti{fol:Nat->List Nat}{a b:Nat}(h1:Dm fol a b)(h2:Dm fol b a):a=b:=by
 refine HE fun e=>?_;have q1:¬ Rch fol (a:Int) b:=h1.2.2.elim (fun w=>absurd w.symm e) id;have q2:¬ Rch fol (b:Int) a:=h2.2.2.elim (fun w=>absurd w e) id;have:∀y,Rch fol (-1) y->Rch fol (a:Int) y/\Rch fol (b:Int) y:=by
  intro y hy;induction hy with
  |zero=>exact⟨.zero,.zero⟩
  | @step p i hp _ hpi ih=>
   by_cases ea:p=a;·exact absurd (ea ▸ ih.2) q2
   ·by_cases eb:p=b;·exact absurd (eb ▸ ih.1) q1
    ·exact⟨.step ih.1 JQ hpi,.step ih.2 JQ hpi⟩
 exact q1 (this b h1.2.1).1
abbrev wN:=List Bool×List Nat×List (Nat×Nat)
def A0(fol:Nat->List Nat):wN->wN
 |(seen,post,[])=>(seen,post,[])
 |(seen,post,(v,k)::st)=>match(fol v)[k]? with
  |none=>(seen,post++[v],st)
  |some to=>match seen.getD to true with
   |true=>(seen,post,(v,k+1)::st)
   |false=>(seen.set to true,post,(to,0)::(v,k+1)::st)
inductive vD(fol:Nat->List Nat):wN->List Nat->Prop
 |fin (seen:List Bool) (post:List Nat):vD fol (seen,post,[]) post
 |step {s:wN} {r:List Nat}:s.2.2≠[]->vD fol (A0 fol s) r->vD fol s r
theorem vD.next{fol:Nat->List Nat}{s:wN}{r:List Nat}(h:vD fol s r)(hs:s.2.2≠[]):vD fol (A0 fol s) r:=by
 cases h with
 |fin=>exact absurd rfl hs
 |step _ h=>exact h
theorem vD.done{fol:Nat->List Nat}{seen:List Bool}{post r:List Nat}(h:vD fol (seen,post,[]) r):r=post:=by
 cases h with
 |fin=>rfl
 |step q _=>exact absurd rfl q
def Bq(fol:Nat->List Nat):List (Nat×Nat)->Prop
 |[]=>True
 |[x]=>x.1=0
 |x::y::r=>x.1∈fol y.1/\Bq fol (y::r)
structure rf(fol:Nat->List Nat)(N:Nat)(s:wN):Prop where
 len:s.1.length=N
 seen:∀x,s.1[x]?=some true<->x∈s.2.1\/x∈s.2.2.map (·.1)
 nodup:(s.2.1++s.2.2.map (·.1)).Nodup
 chain:Bq fol s.2.2
 par:∀A x B,s.2.1=A++x::B->x≠0->∃p,x∈fol p/\(p∈B\/p∈s.2.2.map (·.1))
 rch:∀x,(x∈s.2.1\/x∈s.2.2.map (·.1))->Rch fol (-1) x
 clos:∀x∈s.2.1,∀y∈fol x,s.1[y]?=some true
 open_:∀v∈s.2.2,∀j,j<v.2->∀y,(fol v.1)[j]?=some y->s.1[y]?=some true
 top:∀v∈s.2.2,v.2<=(fol v.1).length
 zero:s.1[0]?=some true
def aS(l:List Bool):Nat:=(l.filter fun b=>!b).length
def yZ(fol:Nat->List Nat)(s:wN):Nat:=4*aS s.1+(s.2.2.map fun v=>(fol v.1).length-v.2+1).sum
theorem ff{l:List Bool}{i:Nat}(h:l[i]?=some false):aS (l.set i true)+1=aS l:=by
 induction l generalizing i with
 |nil=>simp at h
 |cons b l ih=>
  cases i with
  |zero=>
   have hb:b=false:=by simpa using h
   subst hb;rfl
  |succ i=>
   have:=ih (i:=i) (by simpa using h);show aS (b::l.set i true)+1=aS (b::l);cases b
   ·show(aS (l.set i true)+1)+1=aS l+1;omega
   ·exact this
theorem nE{fol:Nat->List Nat}(h2:∀a,(fol a).length<=2){N:Nat}{s:wN}(hI:rf fol N s)(hN:∀a,∀b∈fol a,b<N)(hs:s.2.2≠[]):yZ fol (A0 fol s)<yZ fol s:=by
 obtain⟨seen,post,st⟩:=s;cases st with
 |nil=>exact absurd rfl hs
 |cons vk st=>
  obtain⟨v,k⟩:=vk;unfold A0;simp only;have hk:=hI.top (v,k) (.head _);simp only at hk;cases hf:(fol v)[k]? with
  |none=>
   simp only[yZ,GO,Jv];omega
  |some to=>
   have hk2:=(a9.1 hf).1;simp only;cases hb:seen.getD to true with
   |true=>
    simp only[yZ,GO,Jv];omega
   |false=>
    have hto:to<seen.length:=by have:=hI.len;simp only at this;rw[this];exact hN v to (i3 hf)
    have hse:seen[to]?=some false:=by rw[t5,ab hto] at hb;rw[ab hto];simpa using hb
    have:=ff hse;have:=h2 to;simp only[yZ,GO,Jv];omega
theorem cC{l:List Bool}{i x:Nat}(hi:i<l.length):(l.set i true)[x]?=some true<->x=i\/l[x]?=some true:=by
 by_cases e:x=i
 ·subst e;simp[hi]
 ·rw[GW (fun w=>e w.symm)];simp[e]
theorem qZ{fol:Nat->List Nat}{N:Nat}(hN:∀a,∀b∈fol a,b<N){s:wN}(hI:rf fol N s):rf fol N (A0 fol s):=by
 obtain⟨seen,post,st⟩:=s;cases st with
 |nil=>exact hI
 |cons vk st=>
  obtain⟨v,k⟩:=vk;obtain⟨hlen,hseen,hnd,hch,hpar,hrch,hclos,hop,htop,hz⟩:=hI;simp only[GO] at hlen hseen hnd hch hpar hrch hclos hop htop hz;unfold A0;simp only;cases hf:(fol v)[k]? with
  |none=>
   have hk:(fol v).length<=k:=Jq.1 hf;refine⟨hlen,fun x=>?_,?_,?_,fun A x B e hx=>?_,fun x hx=>?_,fun x hx y hy=>?_,fun w hw=>hop w (.tail _ hw),fun w hw=>htop w (.tail _ hw),hz⟩
   ·rw[hseen];simp only[FK,F5,Hr,Is];constructor
    ·rintro(h|h|h);·exact .inl (.inl h)
     ·exact .inl (.inr h)
     ·exact .inr h
    ·rintro((h|h)|h);·exact .inl h
     ·exact .inr (.inl h)
     ·exact .inr (.inr h)
   ·simp only[GH,JF];exact hnd
   ·cases st with
    |nil=>exact True.intro
    |cons y r=>exact hch.2
   ·simp only at e;rcases List.append_eq_append_iff.1 e with⟨D,e1,e2⟩|⟨D,e1,e2⟩
    ·cases D with
     |nil=>
      simp only[G7] at e1;rw[HA] at e2;cases e2;cases st with
      |nil=>exact absurd hch hx
      |cons y r=>exact⟨y.1,hch.1,.inr JX⟩
     |cons d D=>
      simp at e2
    ·cases D with
     |nil=>
      simp only[G7] at e1;rw[HA] at e2;cases e2;cases st with
      |nil=>exact absurd hch hx
      |cons y r=>exact⟨y.1,hch.1,.inr JX⟩
     |cons d D=>
      rw[H8] at e2;cases e2;obtain⟨p,h1,h2⟩:=hpar A x D e1 hx;refine⟨p,h1,?_⟩;rcases h2 with h2|h2
      ·exact .inl (by simp[h2])
      ·rcases F5.1 h2 with h2|h2
       ·exact .inl (by simp[h2])
       ·exact .inr h2
   ·simp only[FK,F5,Hr,Is] at hx;refine hrch x ?_;rcases hx with(hx|hx)|hx
    ·exact .inl hx
    ·exact .inr (by simp[hx])
    ·exact .inr (.tail _ hx)
   ·simp only[FK,F5,Hr,Is] at hx;rcases hx with hx|rfl
    ·exact hclos x hx y hy
    ·obtain⟨j,hj,e⟩:=Gy.1 hy;exact hop (x,k) (.head _) j (by simp only;omega) y (by rw[ab hj,e])
  |some to=>
   have hk2:=(a9.1 hf).1;have hto:to<seen.length:=by rw[hlen];exact hN v to (i3 hf)
   simp only;cases hb:seen.getD to true with
   |true=>
    have hse:seen[to]?=some true:=by rw[t5,ab hto] at hb;rw[ab hto];simpa using hb
    refine⟨hlen,hseen,hnd,?_,hpar,hrch,hclos,fun w hw j hj y hy=>?_,fun w hw=>?_,hz⟩
    ·cases st with
     |nil=>exact hch
     |cons y r=>exact hch
    ·rcases F5.1 hw with rfl|hw
     ·simp only at hj hy;by_cases e:j=k;·subst e;rw[hf] at hy;cases hy;exact hse
      ·exact hop (v,k) (.head _) j (by simp only;omega) y hy
     ·exact hop w (.tail _ hw) j hj y hy
    ·rcases F5.1 hw with rfl|hw
     ·exact hk2
     ·exact htop w (.tail _ hw)
   |false=>
    have hse:seen[to]?=some false:=by rw[t5,ab hto] at hb;rw[ab hto];simpa using hb
    have hnew:¬ (to∈post\/to∈v::st.map (·.1)):=fun w=>by have:=(hseen to).2 w;rw[hse] at this;cases this
    have hms:=fun x=>cC (x:=x) hto;refine⟨by simp only[G0];exact hlen,fun x=>?_,?_,⟨i3 hf,?_⟩,fun A x B e hx=>?_,fun x hx=>?_,fun x hx y hy=>(hms y).2 (.inr (hclos x hx y hy)),fun w hw j hj y hy=>?_,fun w hw=>?_,(hms 0).2 (.inr hz)⟩
    ·simp only[GO];rw[hms,hseen];simp only[F5];constructor
     ·rintro(h|h|h|h);·exact .inr (.inl h)
      ·exact .inl h
      ·exact .inr (.inr (.inl h))
      ·exact .inr (.inr (.inr h))
     ·rintro(h|h|h|h);·exact .inr (.inl h)
      ·exact .inl h
      ·exact .inr (.inr (.inl h))
      ·exact .inr (.inr (.inr h))
    ·simp only[GO];have hp:(post++to::v::st.map (·.1)).Perm (to::(post++v::st.map (·.1))):=List.perm_middle;exact hp.nodup_iff.2 (II.2 ⟨fun w=>hnew (FK.1 w),hnd⟩)
    ·cases st with
     |nil=>exact hch
     |cons y r=>exact hch
    ·obtain⟨p,h1,h2⟩:=hpar A x B e hx;refine⟨p,h1,h2.imp id fun w=>?_⟩;simp only[GO];exact .tail _ w
    ·simp only[GO,F5] at hx;rcases hx with hx|rfl|hx
     ·exact hrch x (.inl hx)
     ·exact .step (hrch v (.inr (.head _))) JQ (i3 hf)
     ·exact hrch x (.inr (by simpa using hx))
    ·rcases F5.1 hw with rfl|hw
     ·simp only at hj;omega
     ·rcases F5.1 hw with rfl|hw
      ·simp only at hj hy;by_cases e:j=k;·subst e;rw[hf] at hy;cases hy;exact(hms to).2 (.inl rfl)
       ·exact(hms y).2 (.inr (hop (v,k) (.head _) j (by simp only;omega) y hy))
      ·exact(hms y).2 (.inr (hop w (.tail _ hw) j hj y hy))
    ·rcases F5.1 hw with rfl|hw
     ·exact x5 _
     ·rcases F5.1 hw with rfl|hw
      ·exact hk2
      ·exact htop w (.tail _ hw)
theorem qU{fol:Nat->List Nat}(h2:∀a,(fol a).length<=2){N:Nat}(hN:∀a,∀b∈fol a,b<N):∀(n:Nat)(s:wN),yZ fol s<n->rf fol N s->∃r sn,vD fol s r/\rf fol N (sn,r,[])
 |0,_,h,_=>absurd h (Hl _)
 |n+1,s,h,hI=>by
  by_cases hs:s.2.2=[]
  ·obtain⟨seen,post,st⟩:=s;simp only at hs;subst hs;exact⟨post,seen,.fin _ _,hI⟩
  ·obtain⟨r,sn,q1,q2⟩:=qU h2 hN n (A0 fol s) (by have:=nE h2 hI hN hs;omega) (qZ hN hI);exact⟨r,sn,.step hs q1,q2⟩
structure c9(fol:Nat->List Nat)(ord:List Nat):Prop where
 zero:ord[0]?=some 0
 nodup:ord.Nodup
 mem:∀x,x∈ord<->Rch fol (-1) x
 par:∀i x,ord[i]?=some x->i≠0->∃(j p:Nat),j<i/\ord[j]?=some p/\x∈fol p
theorem rf.ord{fol:Nat->List Nat}{N:Nat}{sn:List Bool}{r:List Nat}(h:rf fol N (sn,r,[])):c9 fol r.reverse:=by
 obtain⟨hlen,hseen,hnd,hch,hpar,hrch,hclos,hop,htop,hz⟩:=h;simp only[Kg,G7,Hr,Is] at hlen hseen hnd hpar hrch hclos hz;have h0:0∈r:=(hseen 0).1 hz;have hmem:∀x,x∈r<->Rch fol (-1) x:=fun x=>by
  refine⟨fun hx=>hrch x (by simpa using hx),fun hx=>?_⟩;induction hx with
  |zero=>exact h0
  |step _ _ hb ih=>exact(hseen _).1 (hclos _ ih _ hb)
 have hp:∀(i x:Nat),r.reverse[i]?=some x->x≠0->∃(j p:Nat),j<i/\r.reverse[j]?=some p/\x∈fol p:=by
  intro i x hi hx;have hlt:=(a9.1 hi).1;rw[H5] at hlt;rw[IY hlt] at hi;have hlt2:=(a9.1 hi).1;have e:r=r.take (r.length-1-i)++x::r.drop (r.length-1-i+1):=by conv=>lhs;rw[<-IX (r.length-1-i) r,HN hlt2,(a9.1 hi).2]
  obtain⟨p,h1,h2⟩:=hpar _ _ _ e hx;obtain⟨j,hj,e2⟩:=Gy.1 h2;rw[Hu] at hj;refine⟨i-1-j,p,JQ,?_,h1⟩;rw[IY JQ,<-e2,List.getElem_drop,ab JQ];congr 2;omega
 have hne:r≠[]:=fun w=>by rw[w] at h0;cases h0
 have hrl:0<r.length:=List.length_pos_iff.2 hne;have hzero:r.reverse[0]?=some 0:=by
  have hlt:0<r.reverse.length:=by rw[H5];exact hrl
  by_cases e:r.reverse[0]=0;·rw[ab hlt,e]
  ·obtain⟨j,_,hj,_⟩:=hp 0 _ (ab hlt) e;omega
 refine⟨hzero,(List.reverse_perm r).nodup_iff.2 hnd,fun x=>by rw[I3];exact hmem x,fun i x hi h0i=>?_⟩;refine hp i x hi fun e=>?_;subst e;have hnr:r.reverse.Nodup:=(List.reverse_perm r).nodup_iff.2 hnd;have hlt:=(a9.1 hi).1;have:=(I4 (h₀:=(a9.1 hzero).1) (h₁:=hlt) hnr).1 (by rw[(a9.1 hzero).2,(a9.1 hi).2]);omega
theorem rf.start(fol:Nat->List Nat){N:Nat}(h0:0<N):rf fol N ((List.replicate N false).set 0 true,[],[(0,0)]):=by
 have hl:0<(List.replicate N false).length:=by rw[GE];exact h0
 have hm:=fun x=>cC (l:=List.replicate N false) (x:=x) hl;refine⟨JX,fun x=>?_,JX,rfl,fun A x B e=>by simp at e,fun x hx=>?_,fun x hx=>by simp at hx,fun v hv j hj=>?_,fun v hv=>?_,(hm 0).2 JZ⟩
 ·rw[hm];constructor
  ·rintro(h|h);·exact .inr (by simp[h])
   ·have:=i3 h;simp at this
  ·rintro(h|h);·cases h
   ·exact .inl (by simpa using h)
 ·have:x=0:=by simpa using hx
  rw[this];exact .zero
 ·have:v=(0,0):=by simpa using hv
  rw[this] at hj;exact absurd hj (Hl j)
 ·have:v=(0,0):=by simpa using hv
  rw[this];exact x5 _
def jh(fol:Nat->List Nat)(x:Nat)(v:Int):Prop:=
 (v=-1/\(x=0\/¬ Rch fol (-1) x))\/(x≠0/\∃a:Nat,v=a/\a≠x/\Dm fol a x/\∀c,c≠x->Dm fol c x->Dm fol c a)
theorem qh{fol:Nat->List Nat}{a:Nat}(h:a≠0):¬ Dm fol a 0:=fun q=>q.2.2.elim (fun w=>h w.symm) (fun w=>w .zero)
theorem BU{fol:Nat->List Nat}{x:Nat}(h:Rch fol (-1) x):Dm fol 0 x:=by
 refine⟨.zero,h,?_⟩;by_cases e:x=0;·exact .inl e
 ·refine .inr fun q=>?_;have:∀y,Rch fol ((0:Nat):Int) y->y=0:=by
   intro y hy;induction hy with
   |zero=>rfl
   |step _ h _ ih=>rw[ih] at h;exact absurd rfl h
  exact e (this x q)
theorem gN{fol:Nat->List Nat}{x:Nat}(h:Rch fol (-1) x):Dm fol x x:=⟨h,h,.inl rfl⟩
theorem qc{fol:Nat->List Nat}{x:Nat}{u v:Int}(hu:jh fol x u)(hv:jh fol x v):u=v:=by
 rcases hu with⟨rfl,h1⟩|⟨h0,a,rfl,ha,hd,hm⟩
 ·rcases hv with⟨rfl,_⟩|⟨h0,b,rfl,hb,hd,_⟩
  ·rfl
  ·rcases h1 with h1|h1
   ·exact absurd h1 h0
   ·exact absurd hd.2.1 h1
 ·rcases hv with⟨rfl,h1⟩|⟨_,b,rfl,hb,hd2,hm2⟩
  ·rcases h1 with h1|h1
   ·exact absurd h1 h0
   ·exact absurd hd.2.1 h1
  ·rw[Dm.anti (hm2 a ha hd) (hm b hb hd2)]
theorem pI{fol:Nat->List Nat}{N:Nat}(hN:0<N)(hf:∀a,∀b∈fol a,b<N)(x:Nat):∃v,jh fol x v:=by
 by_cases h0:x=0;·exact⟨-1,.inl ⟨rfl,.inl h0⟩⟩
 by_cases hr:Rch fol (-1) x
 ·have:∀n,(∀a,a<n->¬ (a≠x/\Dm fol a x))\/∃m,(m≠x/\Dm fol m x)/\∀a,a<n->a≠x->Dm fol a x->Dm fol a m:=by
   intro n;induction n with
   |zero=>exact .inl fun a h=>absurd h (Hl a)
   |succ n ih=>
    by_cases hS:n≠x/\Dm fol n x
    ·rcases ih with ih|⟨m,h1,h2⟩
     ·refine .inr ⟨n,hS,fun a ha h1 h2=>?_⟩;by_cases e:a=n;·rw[e];exact gN hS.2.1
      ·exact absurd ⟨h1,h2⟩ (ih a JQ)
     ·by_cases q:Dm fol m n
      ·refine .inr ⟨n,hS,fun a ha g1 g2=>?_⟩;by_cases e:a=n;·rw[e];exact gN hS.2.1
       ·exact(h2 a JQ g1 g2).trans q
      ·refine .inr ⟨m,h1,fun a ha g1 g2=>?_⟩;by_cases e:a=n;·rw[e];exact(Dm.total h1.2 hS.2).resolve_left q
       ·exact h2 a JQ g1 g2
    ·rcases ih with ih|⟨m,h1,h2⟩
     ·refine .inl fun a ha=>?_;by_cases e:a=n;·rw[e];exact hS
      ·exact ih a JQ
     ·refine .inr ⟨m,h1,fun a ha g1 g2=>?_⟩;by_cases e:a=n;·subst e;exact absurd ⟨g1,g2⟩ hS
      ·exact h2 a JQ g1 g2
  rcases this N with h|⟨m,h1,h2⟩
  ·exact absurd ⟨fun w=>h0 w.symm,BU hr⟩ (h 0 hN)
  ·exact⟨m,.inr ⟨h0,m,rfl,h1.1,h1.2,fun c g1 g2=>h2 c (g2.1.lt hN hf) g1 g2⟩⟩
 ·exact⟨-1,.inl ⟨rfl,.inr hr⟩⟩
noncomputable def uy(fol:Nat->List Nat)(x:Nat):Int:=Classical.epsilon (jh fol x)
theorem idomI_is{fol:Nat->List Nat}{N:Nat}(hN:0<N)(hf:∀a,∀b∈fol a,b<N)(x:Nat):jh fol x (uy fol x):=Classical.epsilon_spec (pI hN hf x)
theorem lT{fol:Nat->List Nat}{N:Nat}(hN:0<N)(hf:∀a,∀b∈fol a,b<N){x:Nat}{v:Int}(h:jh fol x v):uy fol x=v:=qc (idomI_is hN hf x) h
noncomputable def fy(fol:Nat->List Nat)(N:Nat):List Int:=(List.range N).map (uy fol)
def gI(fol:Nat->List Nat)(ord:List Nat)(i:Nat):List Nat:=(List.range ord.length).filter fun p=>(fol (ord.getD p 0)).contains (ord.getD i 0)
theorem eL{fol:Nat->List Nat}{ord:List Nat}{i p:Nat}:p∈gI fol ord i<->p<ord.length/\ord.getD i 0∈fol (ord.getD p 0):=by simp[gI]
theorem bR{ord:List Nat}{i x:Nat}(h:ord[i]?=some x):ord.getD i 0=x:=by rw[t5,h];rfl
theorem c9.inj{fol:Nat->List Nat}{ord:List Nat}(h:c9 fol ord){i j x:Nat}(h1:ord[i]?=some x)(h2:ord[j]?=some x):i=j:=by have a:=(a9.1 h1);have b:=(a9.1 h2);exact(I4 (h₀:=a.1) (h₁:=b.1) h.nodup).1 (a.2.trans b.2.symm)
theorem c9.place{fol:Nat->List Nat}{ord:List Nat}(h:c9 fol ord){x:Nat}(hx:Rch fol (-1) x):∃i:Nat,ord[i]?=some x:=by obtain⟨i,hi,e⟩:=Gy.1 ((h.mem x).2 hx);exact⟨i,by rw[ab hi,e]⟩
theorem c9.rch{fol:Nat->List Nat}{ord:List Nat}(h:c9 fol ord){i x:Nat}(hx:ord[i]?=some x):Rch fol (-1) x:=(h.mem x).1 (i3 hx)
theorem D3{fol:Nat->List Nat}{ord:List Nat}(h:c9 fol ord){d i x y:Nat}(hd:ord[d]?=some y)(hi:ord[i]?=some x):Av ord.length (gI fol ord) d i<->i≠d/\Rch fol (y:Int) x:=by
 constructor
 ·intro hA;induction hA generalizing x with
  |zero hd0=>
   rw[h.zero] at hi;cases hi;exact⟨hd0,.zero⟩
  | @step p i hp hpi hid hil ih=>
   obtain⟨p1,p2⟩:=eL.1 hpi;obtain⟨z,hz⟩:∃z,ord[p]?=some z:=⟨_,ab p1⟩;obtain⟨q1,q2⟩:=ih hz;rw[bR hi,bR hz] at p2;refine⟨hid,.step q2 (fun w=>q1 ?_) p2⟩;have:z=y:=JQ;subst this;exact h.inj hz hd
 ·rintro⟨hid,hr⟩;induction hr generalizing i with
  |zero=>
   have:=h.inj hi h.zero;subst this;exact .zero hid
  | @step a b ha hay hab ih=>
   obtain⟨p,hp⟩:=h.place ha.all;have hpd:p≠d:=fun w=>by subst w;rw[hp] at hd;cases hd;exact hay rfl
   refine .step (ih hp hpd) (eL.2 ⟨(a9.1 hp).1,by rw[bR hi,bR hp];exact hab⟩) hid (a9.1 hi).1
theorem wg{fol:Nat->List Nat}{ord:List Nat}(h:c9 fol ord){d i x y:Nat}(hd:ord[d]?=some y)(hi:ord[i]?=some x):¬ Av ord.length (gI fol ord) d i<->Dm fol y x:=by
 rw[D3 h hd hi];constructor
 ·intro q;refine⟨h.rch hd,h.rch hi,?_⟩;by_cases e:i=d;·subst e;rw[hi] at hd;cases hd;exact .inl rfl
  ·exact .inr fun w=>q ⟨e,w⟩
 ·rintro⟨_,_,rfl|q⟩ ⟨w1,w2⟩;·exact w1 (h.inj hi hd)
  ·exact q w2
def outD(ord:List Nat)(N:Nat)(o:Nat->Option Nat):List Int:=(List.range N).map fun x=>bif ord.contains x then(match o (ord.idxOf x) with|some j=>((ord.getD j 0:Nat):Int)|none=>-1) else -1
theorem c9.idx{fol:Nat->List Nat}{ord:List Nat}(h:c9 fol ord){i x:Nat}(hi:ord[i]?=some x):ord.idxOf x=i:=by have hm:x∈ord:=i3 hi;have hl:=IF.2 hm;refine h.inj (x:=x) ?_ hi;rw[ab hl,Jk hl]
theorem eG{fol:Nat->List Nat}{ord:List Nat}(h:c9 fol ord){N:Nat}{o:Nat->Option Nat}{i x:Nat}(hi:ord[i]?=some x)(hx:x<N):(outD ord N o)[x]?=some (match o i with|some j=>((ord.getD j 0:Nat):Int)|none=>-1):=by have hm:ord.contains x=true:=GJ.2 (i3 hi);simp only[outD,z5,GZ hx,G5,hm,h.idx hi,r7]
theorem iX{ord:List Nat}{N:Nat}{o:Nat->Option Nat}{x:Nat}(hi:x∉ord)(hx:x<N):(outD ord N o)[x]?=some (-1):=by
 have hm:ord.contains x=false:=by simpa using hi
 simp only[outD,z5,GZ hx,G5,hm,lh]
theorem zU{fol:Nat->List Nat}{ord:List Nat}(h:c9 fol ord){N:Nat}{o:Nat->Option Nat}{n b x y:Nat}(hn:ord[n]?=some x)(hb:ord[b]?=some y):outD ord N (kE o n b)=(outD ord N o).set x (y:Int):=by
 refine GT fun k=>?_;by_cases hk:k<N
 ·by_cases e:k=x
  ·subst e;rw[GD (by simp[outD,hk]),eG h hn hk,bf];simp only[bR hb]
  ·rw[GW (fun w=>e w.symm)];by_cases hm:k∈ord
   ·obtain⟨i,hi,e2⟩:=Gy.1 hm;have hi2:ord[i]?=some k:=by rw[ab hi,e2]
    have hin:i≠n:=fun w=>by subst w;rw[hi2] at hn;cases hn;exact e rfl
    rw[eG h hi2 hk,eG h hi2 hk,bB hin]
   ·rw[iX hm hk,iX hm hk]
 ·rw[yB (by simp[outD];omega),yB (by simp[outD];omega)]
def tF(M:Nat)(o:Nat->Option Nat):Nat:=((List.range M).map fun i=>match o i with|some j=>j|none=>M).sum
theorem wj{M:Nat}{o:Nat->Option Nat}{n b:Nat}(hn:n<M)(hb:b<n)(hc:∀c,o n=some c->b<=c)(hne:o n≠some b):tF M (kE o n b)<tF M o:=by
 unfold tF;have key:∀(l:List Nat),l.Nodup->n∈l->(∀i∈l,i<M)->(l.map fun i=>match kE o n b i with|some j=>j|none=>M).sum<(l.map fun i=>match o i with|some j=>j|none=>M).sum:=by
  intro l;induction l with
  |nil=>intro _ h;cases h
  |cons i l ih=>
   intro hnd hm hl;obtain⟨h1,h2⟩:=II.1 hnd;simp only[GO,Jv];by_cases e:i=n
   ·subst e;have hsame:(l.map fun k=>match kE o i b k with|some j=>j|none=>M)=l.map fun k=>match o k with|some j=>j|none=>M:=by
     refine Hv fun k hk=>?_;rw[bB (fun w=>h1 (by rw[<-w];exact hk))]
    rw[hsame,bf];cases ho:o i with
    |none=>simp only;omega
    |some c=>
     have:=hc c ho;have:b≠c:=fun w=>hne (by rw[ho,w]);simp only;omega
   ·rw[bB e];have:=ih h2 ((F5.1 hm).resolve_left (fun w=>e w.symm)) (fun k hk=>hl k (.tail _ hk));omega
 exact key (List.range M) Jz (G3.2 hn) (fun i hi=>G3.1 hi)
theorem wm{fol:Nat->List Nat}{ord:List Nat}{N:Nat}(hN:0<N)(hf:∀a,∀b∈fol a,b<N)(h:c9 fol ord){t:Nat->Nat}{o:Nat->Option Nat}(hI:om ord.length (gI fol ord) t ord.length o)(hfix:∀n b,0<n->n<ord.length->o n=some b->sN (gI fol ord) o n b):(outD ord N o).set 0 (-1)=fy fol N:=by
 have hA:=fun d {x} hx=>Ca hI hfix (fun i hi p hp=>(eL.1 hp).1) d (x:=x) hx;refine GT fun k=>?_;by_cases hk:k<N
 ·have hr:(fy fol N)[k]?=some (uy fol k):=by simp[fy,hk]
  rw[hr];by_cases e:k=0
  ·subst e;rw[GD (by simp[outD,hk]),lT hN hf (.inl ⟨rfl,.inl rfl⟩)]
  ·rw[GW (fun w=>e w.symm)];by_cases hm:k∈ord
   ·obtain⟨i,hi,e2⟩:=Gy.1 hm;have hi2:ord[i]?=some k:=by rw[ab hi,e2]
    have hi0:i≠0:=fun w=>by subst w;rw[h.zero] at hi2;cases hi2;exact e rfl
    obtain⟨j,hj⟩:=GV.1 (hI.did i hi);have hji:=(hI.up.lt i j JQ hj).1;obtain⟨y,hy⟩:∃y,ord[j]?=some y:=⟨_,ab JQ⟩;rw[eG h hi2 hk,hj];simp only[bR hy];rw[lT hN hf (v:=(y:Int)) (.inr ⟨e,y,rfl,fun w=>by subst w;have:=h.inj hy hi2;omega,?_,fun c hc1 hc2=>?_⟩)];·exact(wg h hy hi2).1 ((hA j hi).1 (.up hi0 hj (.refl _)))
    ·obtain⟨d,hd⟩:=h.place hc2.1;have:=(hA d hi).2 ((wg h hd hi2).2 hc2);rw[gx hi0 hj] at this;rcases this with w|w
     ·subst w;rw[hd] at hi2;cases hi2;exact absurd rfl hc1
     ·exact(wg h hd hy).1 ((hA d JQ).1 w)
   ·rw[iX hm hk,lT hN hf (.inl ⟨rfl,.inr fun w=>hm ((h.mem k).2 w)⟩)]
 ·rw[yB (by simp[outD];omega),yB (by simp[fy];omega)]
open Classical in
noncomputable def rchL(fol:Nat->List Nat)(cut:Int)(N:Nat):List Bool:=(List.range N).map fun x=>decide (Rch fol cut x)
theorem dl{fol:Nat->List Nat}{cut:Int}{N:Nat}:(rchL fol cut N).length=N:=by simp[rchL]
theorem kf{fol:Nat->List Nat}{cut:Int}{N x:Nat}(hx:x<N):(rchL fol cut N)[x]?=some true<->Rch fol cut x:=by
 classical
 simp[rchL,hx]
structure oX(fol:Nat->List Nat)(cut:Int)(N:Nat)(out:List Bool)(pend:List Nat):Prop where
 len:out.length=N
 zero:out[0]?=some true
 rch:∀x,out[x]?=some true->Rch fol cut x
 pnd:∀x∈pend,out[x]?=some true
 clos:∀x,out[x]?=some true->x∈pend\/(x:Int)=cut\/∀y∈fol x,out[y]?=some true
structure x3(fol:Nat->List Nat)(cut:Int)(N:Nat)(out:List Bool)(pend:List Nat)(at_ j:Nat):Prop where
 len:out.length=N
 zero:out[0]?=some true
 rch:∀x,out[x]?=some true->Rch fol cut x
 pnd:∀x∈pend,out[x]?=some true
 clos:∀x,out[x]?=some true->x∈pend\/(x:Int)=cut\/(∀y∈fol x,out[y]?=some true)\/(x=at_/\∀i y,i<j->(fol at_)[i]?=some y->out[y]?=some true)
 cur:out[at_]?=some true
 nc:(at_:Int)≠cut
theorem oX.start{fol:Nat->List Nat}{cut:Int}{N:Nat}(hN:0<N):oX fol cut N ((List.replicate N false).set 0 true) [0]:=by
 have hm:=fun x=>cC (l:=List.replicate N false) (i:=0) (x:=x) (by simpa using hN);have h1:∀x,((List.replicate N false).set 0 true)[x]?=some true->x=0:=fun x hx=>by
  rcases(hm x).1 hx with h|h
  ·exact h
  ·have:=i3 h;simp at this
 refine⟨JX,(hm 0).2 JZ,fun x hx=>?_,fun x hx=>?_,fun x hx=>.inl ?_⟩;·rw[h1 x hx];exact .zero
 ·have:x=0:=by simpa using hx
  rw[this];exact(hm 0).2 (.inl rfl)
 ·rw[h1 x hx];simp
theorem oX.lt{fol:Nat->List Nat}{cut:Int}{N:Nat}{out:List Bool}{pend:List Nat}(h:oX fol cut N out pend){x:Nat}(hx:x∈pend):x<N:=by have:=(a9.1 (h.pnd x hx)).1;rw[h.len] at this;exact this
theorem oX.cut{fol:Nat->List Nat}{cut:Int}{N:Nat}{out:List Bool}{pend rest:List Nat}{at_:Nat}(h:oX fol cut N out pend)(hp:∀x,x∈pend<->x=at_\/x∈rest)(hc:(at_:Int)=cut):oX fol cut N out rest:=
 ⟨h.len,h.zero,h.rch,fun x hx=>h.pnd x ((hp x).2 (.inr hx)),fun x hx=>by
  rcases h.clos x hx with q|q
  ·rcases(hp x).1 q with e|q
   ·exact .inr (.inl (by rw[e];exact hc))
   ·exact .inl q
  ·exact .inr q⟩
theorem oX.take{fol:Nat->List Nat}{cut:Int}{N:Nat}{out:List Bool}{pend rest:List Nat}{at_:Nat}(h:oX fol cut N out pend)(hp:∀x,x∈pend<->x=at_\/x∈rest)(hc:(at_:Int)≠cut):x3 fol cut N out rest at_ 0:=
 ⟨h.len,h.zero,h.rch,fun x hx=>h.pnd x ((hp x).2 (.inr hx)),fun x hx=>by
  rcases h.clos x hx with q|q|q
  ·rcases(hp x).1 q with e|q
   ·exact .inr (.inr (.inr ⟨e,fun i y hi=>absurd hi (Hl i)⟩))
   ·exact .inl q
  ·exact .inr (.inl q)
  ·exact .inr (.inr (.inl q)),h.pnd at_ ((hp at_).2 JZ),hc⟩
theorem x3.skip{fol:Nat->List Nat}{cut:Int}{N:Nat}{out:List Bool}{pend:List Nat}{at_ j y:Nat}(h:x3 fol cut N out pend at_ j)(hy:(fol at_)[j]?=some y)(ho:out[y]?=some true):x3 fol cut N out pend at_ (j+1):=
 ⟨h.len,h.zero,h.rch,h.pnd,fun x hx=>by
  rcases h.clos x hx with q|q|q|⟨q,q2⟩
  ·exact .inl q
  ·exact .inr (.inl q)
  ·exact .inr (.inr (.inl q))
  ·refine .inr (.inr (.inr ⟨q,fun i z hi hz=>?_⟩));by_cases e:i=j;·subst e;rw[hy] at hz;cases hz;exact ho
   ·exact q2 i z JQ hz,h.cur,h.nc⟩
theorem x3.push{fol:Nat->List Nat}{cut:Int}{N:Nat}{out:List Bool}{pend pend':List Nat}{at_ j y:Nat}(h:x3 fol cut N out pend at_ j)(hy:(fol at_)[j]?=some y)(ho:out[y]?=some false)(hp:∀x,x∈pend'<->x=y\/x∈pend):x3 fol cut N (out.set y true) pend' at_ (j+1):=by
 have hyl:=(a9.1 ho).1;have hm:=fun x=>cC (l:=out) (i:=y) (x:=x) hyl;refine⟨by rw[G0];exact h.len,(hm 0).2 (.inr h.zero),fun x hx=>?_,fun x hx=>?_,fun x hx=>?_,(hm at_).2 (.inr h.cur),h.nc⟩
 ·rcases(hm x).1 hx with e|q
  ·rw[e];exact .step (h.rch at_ h.cur) h.nc (i3 hy)
  ·exact h.rch x q
 ·rcases(hp x).1 hx with e|q
  ·exact(hm x).2 (.inl e)
  ·exact(hm x).2 (.inr (h.pnd x q))
 ·rcases(hm x).1 hx with e|hx
  ·exact .inl ((hp x).2 (.inl e))
  ·rcases h.clos x hx with q|q|q|⟨q,q2⟩
   ·exact .inl ((hp x).2 (.inr q))
   ·exact .inr (.inl q)
   ·exact .inr (.inr (.inl fun z hz=>(hm z).2 (.inr (q z hz))))
   ·refine .inr (.inr (.inr ⟨q,fun i z hi hz=>?_⟩));by_cases e:i=j;·subst e;rw[hy] at hz;cases hz;exact(hm y).2 (.inl rfl)
    ·exact(hm z).2 (.inr (q2 i z JQ hz))
theorem x3.fin{fol:Nat->List Nat}{cut:Int}{N:Nat}{out:List Bool}{pend:List Nat}{at_ j:Nat}(h:x3 fol cut N out pend at_ j)(hj:(fol at_).length<=j):oX fol cut N out pend:=
 ⟨h.len,h.zero,h.rch,h.pnd,fun x hx=>by
  rcases h.clos x hx with q|q|q|⟨q,q2⟩
  ·exact .inl q
  ·exact .inr (.inl q)
  ·exact .inr (.inr q)
  ·subst q;refine .inr (.inr fun y hy=>?_);obtain⟨i,hi,e⟩:=Gy.1 hy;exact q2 i y JQ (by rw[ab hi,e])⟩
theorem oX.fin{fol:Nat->List Nat}{cut:Int}{N:Nat}{out:List Bool}(h:oX fol cut N out []):out=rchL fol cut N:=by
 have key:∀x,Rch fol cut x->out[x]?=some true:=by
  intro x hx;induction hx with
  |zero=>exact h.zero
  | @step a b _ hc hb ih=>
   rcases h.clos a ih with q|q|q
   ·cases q
   ·exact absurd q hc
   ·exact q b hb
 refine GT fun x=>?_;by_cases hx:x<N
 ·have hl:x<out.length:=by rw[h.len];exact hx
  have h2:x<(rchL fol cut N).length:=by rw[dl];exact hx
  rw[ab hl,ab h2];congr 1;have q1:out[x]=true<->Rch fol cut x:=by
   constructor;·intro w;exact h.rch x (by rw[ab hl,w])
   ·intro w;have:=key x w;rw[ab hl] at this;exact vx this
  have q2:(rchL fol cut N)[x]=true<->Rch fol cut x:=by
   rw[<-kf hx,ab h2];constructor;·intro w;rw[w]
   ·intro w;exact vx w
  cases a:out[x]<;>cases b:(rchL fol cut N)[x];·rfl
  ·rw[q2.1 b |> q1.2] at a;cases a
  ·rw[q1.1 a |> q2.2] at b;cases b
  ·rfl
 ·rw[yB (by rw[h.len];omega),yB (by rw[dl];omega)]
def bj(fol:Nat->List Nat)(n k:Nat):List Nat:=(List.range n).filter fun i=>(fol i).contains k
def aheadL(fol:Nat->List Nat)(N:Nat):List (List Nat):=(List.range N).map fun k=>bj fol N k
theorem pq{fol:Nat->List Nat}{n k:Nat}:bj fol (n+1) k=bj fol n k++(bif (fol n).contains k then[n] else[]):=by
 unfold bj;rw[Hk,Ho];cases h:(fol n).contains k with
 |true=>simpa using h
 |false=>simpa using h
theorem cV{fol:Nat->List Nat}{n k i:Nat}:i∈bj fol n k<->i<n/\k∈fol i:=by simp[bj]
def bY(fol:Nat->List Nat)(N n j:Nat):List (List Nat):=(List.range N).map fun k=>bj fol n k++(bif ((fol n).take j).contains k then[n] else[])
theorem o9{fol:Nat->List Nat}{N:Nat}:bY fol N 0 0=List.replicate N []:=by
 refine GT fun i=>?_;by_cases h:i<N;·simp[bY,bj,h]
 ·rw[yB (by simp[bY];omega),yB (by simp;omega)]
theorem oM{fol:Nat->List Nat}{N n j:Nat}(hj:(fol n).length<=j):bY fol N n j=bY fol N (n+1) 0:=by unfold bY;refine Hv fun k _=>?_;rw[vG hj,pq];simp
theorem rW{fol:Nat->List Nat}{N:Nat}:bY fol N N 0=aheadL fol N:=by unfold bY aheadL;refine Hv fun k _=>?_;simp
theorem eA{fol:Nat->List Nat}{N n j k:Nat}(hk:k<N):(bY fol N n j)[k]?=some (bj fol n k++(bif ((fol n).take j).contains k then[n] else[])):=by simp[bY,hk]
theorem sL{fol:Nat->List Nat}{N n j k:Nat}(hk:(fol n)[j]?=some k)(hkN:k<N)(hnd:(fol n).Nodup):bY fol N n (j+1)=(bY fol N n j).set k (bj fol n k++[n])/\(bY fol N n j)[k]?=some (bj fol n k):=by
 have htk:(fol n).take (j+1)=(fol n).take j++[k]:=by rw[List.take_succ,hk];rfl
 have hnk:((fol n).take j).contains k=false:=by
  have hk2:=a9.1 hk;have:¬ k∈(fol n).take j:=fun hm=>by obtain⟨i,hi,e⟩:=Gy.1 hm;rw[DK] at hi;rw[List.getElem_take] at e;have:=(I4 (h₀:=JQ) (h₁:=hk2.1) hnd).1 (e.trans hk2.2.symm);omega
  simpa using this
 refine⟨GT fun x=>?_,by rw[eA hkN,hnk];simp⟩;by_cases hx:x<N
 ·by_cases e:x=k
  ·subst e;rw[GD (by simp[bY,hx]),eA hx,htk];simp
  ·rw[GW (fun w=>e w.symm),eA hx,eA hx,htk];have:((fol n).take j++[k]).contains x=((fol n).take j).contains x:=by
    simp[e]
   rw[this]
 ·rw[yB (by simp[bY];omega),yB (by simp[bY];omega)]
theorem pL{o:Nat->Option Nat}(h:uu o):∀(n a b:Nat),a+b<=n->(o a).isSome=true->(o b).isSome=true->∃m,(o m).isSome=true/\∀x,Anc o x m<->(Anc o x a/\Anc o x b)
 |n,a,b,hn,ha,hb=>by
  by_cases e:a=b;·subst e;exact⟨a,ha,fun x=>⟨fun q=>⟨q,q⟩,fun q=>q.1⟩⟩
  ·cases n with
   |zero=>omega
   |succ n=>
    by_cases hlt:b<a
    ·obtain⟨j,hj⟩:=GV.1 ha;obtain⟨h1,h2⟩:=h.lt a j JQ hj;obtain⟨m,q1,q2⟩:=pL h n j b JQ h2 hb;exact⟨m,q1,fun x=>(q2 x).trans (iS h hlt hj).symm⟩
    ·obtain⟨j,hj⟩:=GV.1 hb;obtain⟨h1,h2⟩:=h.lt b j JQ hj;obtain⟨m,q1,q2⟩:=pL h n a j JQ ha h2;refine⟨m,q1,fun x=>(q2 x).trans ?_⟩;have:=iS h (a:=b) (b:=a) (x:=x) JQ hj;exact⟨fun w=>(this.2 ⟨w.2,w.1⟩).symm,fun w=>(this.1 ⟨w.2,w.1⟩).symm⟩
theorem Ce{o:Nat->Option Nat}(h:uu o){a b:Nat}(hq:∀x,Anc o x a<->Anc o x b):a=b:=by have h1:=Anc.le h ((hq a).1 (.refl _));have h2:=Anc.le h ((hq b).2 (.refl _));omega
def fu(o:Nat->Option Nat)(l:List Nat)(b:Option Nat):Prop:=match b with
 |none=>∀p∈l,o p=none
 |some m=>(o m).isSome=true/\(∃p∈l,(o p).isSome=true)/\∀x,Anc o x m<->∀p∈l,(o p).isSome=true->Anc o x p
theorem fu.skip{o:Nat->Option Nat}{l:List Nat}{b:Option Nat}{p:Nat}(h:fu o l b)(hp:o p=none):fu o (l++[p]) b:=by
 cases b with
 |none=>
  intro q hq;rcases FK.1 hq with hq|hq
  ·exact h q hq
  ·rw[xB.1 hq];exact hp
 |some m=>
  obtain⟨h1,⟨p0,h2,h3⟩,h4⟩:=h;refine⟨h1,⟨p0,by simp[h2],h3⟩,fun x=>(h4 x).trans ⟨fun w q hq hs=>?_,fun w q hq hs=>w q (by simp[hq]) hs⟩⟩;rcases FK.1 hq with hq|hq
  ·exact w q hq hs
  ·rw[xB.1 hq,hp] at hs;cases hs
theorem fu.first{o:Nat->Option Nat}{l:List Nat}{p:Nat}(h:fu o l none)(hp:(o p).isSome=true):fu o (l++[p]) (some p):=by
 refine⟨hp,⟨p,JX,hp⟩,fun x=>⟨fun w q hq hs=>?_,fun w=>w p JX hp⟩⟩;rcases FK.1 hq with hq|hq
 ·rw[h q hq] at hs;cases hs
 ·rw[xB.1 hq];exact w
theorem fu.more{o:Nat->Option Nat}{l:List Nat}{p m k:Nat}(h:fu o l (some m))(hp:(o p).isSome=true)(hk:(o k).isSome=true)(hm:∀x,Anc o x k<->(Anc o x m/\Anc o x p)):fu o (l++[p]) (some k):=by
 obtain⟨h1,⟨p0,h2,h3⟩,h4⟩:=h;refine⟨hk,⟨p0,by simp[h2],h3⟩,fun x=>(hm x).trans ⟨fun w q hq hs=>?_,fun w=>⟨(h4 x).2 fun q hq hs=>w q (by simp[hq]) hs,w p JX hp⟩⟩⟩;rcases FK.1 hq with hq|hq
 ·exact(h4 x).1 w.1 q hq hs
 ·rw[xB.1 hq];exact w.2
theorem c9.tree{f:Nat->List Nat}{ord:List Nat}(h:c9 f ord):∃t:Nat->Nat,∀i,0<i->i<ord.length->t i∈gI f ord i/\t i<i:=by
 have:∀i,∃j,0<i->i<ord.length->j∈gI f ord i/\j<i:=fun i=>by
  by_cases hi:0<i/\i<ord.length
  ·obtain⟨j,p,h1,h2,h3⟩:=h.par i _ (ab hi.2) JQ;refine⟨j,fun _ _=>⟨eL.2 ⟨(a9.1 h2).1,?_⟩,h1⟩⟩;rw[bR h2,bR (ab hi.2)];exact h3
  ·exact⟨0,fun a b=>absurd ⟨a,b⟩ hi⟩
 exact⟨fun i=>(this i).choose,fun i h1 h2=>(this i).choose_spec h1 h2⟩
def uv(ord:List Nat)(l:List Nat):List Nat:=(l.filter fun p=>ord.contains p).map ord.idxOf
theorem xd(ord l:List Nat)(p:Nat):uv ord (l++[p])=bif ord.contains p then uv ord l++[ord.idxOf p] else uv ord l:=by
 unfold uv;rw[Ho];cases h:ord.contains p with
 |true=>rw[HX h,FP];rfl
 |false=>rw[HY (by rw[h];decide),H0,G7];rfl
theorem i9{f:Nat->List Nat}{ord:List Nat}(h:c9 f ord){N i x:Nat}(hN:∀y∈ord,y<N)(hi:ord[i]?=some x)(q:Nat):q∈uv ord (bj f N x)<->q∈gI f ord i:=by
 rw[eL,bR hi];simp only[uv,GM,HB,cV];constructor
 ·rintro⟨p,⟨⟨_,h1⟩,h2⟩,rfl⟩;have hm:p∈ord:=GJ.1 h2;have hl:=IF.2 hm;refine⟨hl,?_⟩;rw[bR (x:=p) (by rw[ab hl,Jk hl])];exact h1
 ·rintro⟨h1,h2⟩;have hq:=ab h1;rw[bR hq] at h2;have hm:=i3 hq;exact⟨ord[q],⟨⟨hN _ hm,h2⟩,GJ.2 hm⟩,h.idx hq⟩
theorem fu.fin{f:Nat->List Nat}{ord:List Nat}(h:c9 f ord){N i x:Nat}(hN:∀y∈ord,y<N)(hi:ord[i]?=some x){o:Nat->Option Nat}{t:Nat->Nat}(ht:t i∈gI f ord i)(hs:(o (t i)).isSome=true){b:Option Nat}(hm:fu o (uv ord (bj f N x)) b):∃m,b=some m/\(o m).isSome=true/\sN (gI f ord) o i m:=by
 cases b with
 |none=>
  have:=hm (t i) ((i9 h hN hi _).2 ht);rw[this] at hs;cases hs
 |some m=>
  refine⟨m,rfl,hm.1,fun z=>(hm.2.2 z).trans ⟨fun w p hp hps=>w p ((i9 h hN hi _).2 hp) hps,fun w p hp hps=>w p ((i9 h hN hi _).1 hp) hps⟩⟩
theorem B3{o:Nat->Option Nat}{n b:Nat}(h:o n=some b):kE o n b=o:=by
 funext i;by_cases e:i=n;·rw[e,bf,h]
 ·rw[bB e]
def rF:Nat->Option Nat:=fun i=>if i=0 then some 0 else none
theorem sF{f:Nat->List Nat}{ord:List Nat}(h:c9 f ord){N:Nat}(hN:0<N):outD ord N rF=(List.replicate N (-1)).set 0 0:=by
 refine GT fun k=>?_;by_cases hk:k<N
 ·by_cases e:k=0
  ·subst e;rw[GD (by simpa using hk),eG h h.zero hk];show some ((ord.getD 0 0:Nat):Int)=_;rw[bR h.zero];rfl
  ·rw[GW (fun w=>e w.symm),G1,Gw hk];by_cases hm:k∈ord
   ·obtain⟨i,hi,e2⟩:=Gy.1 hm;have hi2:ord[i]?=some k:=by rw[ab hi,e2]
    have hi0:i≠0:=fun w=>by subst w;rw[h.zero] at hi2;cases hi2;exact e rfl
    rw[eG h hi2 hk];simp[rF,hi0]
   ·rw[iX hm hk]
 ·rw[yB (by simp[outD];omega),yB (by simp;omega)]
def iB(N i:Nat):List Int:=List.replicate i (-1)++List.replicate (N-i) 0
theorem xG{N i:Nat}(h:i<N):(iB N i).set i (-1)=iB N (i+1):=by unfold iB;rw[Ia _ _ JX,GE,Hm,(JQ:N-i=(N-(i+1))+1),Ie,List.set_cons_zero,List.replicate_succ',GH];rfl
inductive oq(fol:Nat->List Nat)(h:Nat):Nat->Prop
 |back {a:Nat}:Dm fol h a->h∈fol a->a≠h->oq fol h a
 |pre {n p:Nat}:oq fol h n->n∈fol p->Rch fol (-1) p->p≠h->oq fol h p
def o4(fol:Nat->List Nat)(h:Nat):Prop:=∃a,Dm fol h a/\h∈fol a
def InLoop(fol:Nat->List Nat)(h n:Nat):Prop:=o4 fol h/\(n=h\/oq fol h n)
theorem oq.ne{fol:Nat->List Nat}{h n:Nat}(hl:oq fol h n):n≠h:=by
 cases hl with
 |back _ _ q=>exact q
 |pre _ _ _ q=>exact q
theorem oq.rch{fol:Nat->List Nat}{h n:Nat}(hl:oq fol h n):Rch fol (-1) n:=by
 cases hl with
 |back q=>exact q.2.1
 |pre _ _ q=>exact q
open Classical in
noncomputable def depthN(fol:Nat->List Nat)(i n:Nat):Nat:=((List.range i).filter fun h=>decide (InLoop fol h n)).length
noncomputable def cJ(fol:Nat->List Nat)(N i:Nat):List Nat:=(List.range N).map (depthN fol i)
noncomputable def nt(fol:Nat->List Nat)(N:Nat):List Nat:=cJ fol N N
open Classical in
theorem j8(fol:Nat->List Nat)(i n:Nat):depthN fol (i+1) n=depthN fol i n+(if InLoop fol i n then 1 else 0):=by unfold depthN;rw[Hk,Ho,uR];congr 1;by_cases h:InLoop fol i n<;>simp[h]
theorem vI(fol:Nat->List Nat)(i n:Nat):depthN fol i n<=i:=by
 classical
 have:=HO (fun h=>decide (InLoop fol h n)) (List.range i)
 rwa [HZ] at this
theorem fe(fol:Nat->List Nat)(N i:Nat):(cJ fol N i).length=N:=by simp[cJ]
theorem vd{fol:Nat->List Nat}{N i n:Nat}(h:n<N):(cJ fol N i)[n]?=some (depthN fol i n):=by simp[cJ,h]
theorem pt(fol:Nat->List Nat)(N:Nat):cJ fol N 0=List.replicate N 0:=by
 refine GT fun x=>?_;by_cases hx:x<N;·rw[vd hx];simp[depthN,hx]
 ·rw[yB (by rw[fe];omega),yB (by simp;omega)]
theorem oK{fol:Nat->List Nat}{N i:Nat}(h:∀n,¬ InLoop fol i n):cJ fol N (i+1)=cJ fol N i:=by
 classical
 unfold cJ;refine Hv fun n _=>?_;rw[j8,GN (h n)];rfl
structure fC(fol:Nat->List Nat)(h:Nat)(S pend:List Nat):Prop where
 nd:S.Nodup
 ok:∀x∈S,InLoop fol h x
 okp:∀x∈pend,InLoop fol h x
 clos:∀n∈S,n≠h->∀p,n∈fol p->Rch fol (-1) p->p∈S\/p∈pend
 back:∀a,Dm fol h a->h∈fol a->a∈S\/a∈pend
 head:o4 fol h->h∈S
theorem fC.rch{fol:Nat->List Nat}{h:Nat}(hr:Rch fol (-1) h){x:Nat}(hx:InLoop fol h x):Rch fol (-1) x:=by
 rcases hx.2 with rfl|q
 ·exact hr
 ·exact q.rch
theorem fC.fin{fol:Nat->List Nat}{h:Nat}{S:List Nat}(hI:fC fol h S [])(x:Nat):x∈S<->InLoop fol h x:=by
 refine⟨hI.ok x,fun hx=>?_⟩;obtain⟨hb,rfl|hl⟩:=hx;·exact hI.head hb
 ·clear hb;induction hl with
  |back a b _=>exact(hI.back _ a b).resolve_right JX
  |pre hn hp hr _ ih=>exact(hI.clos _ ih hn.ne _ hp hr).resolve_right JX
theorem fC.seen{fol:Nat->List Nat}{h:Nat}{S pend rest:List Nat}{n:Nat}(hI:fC fol h S pend)(hp:∀x,x∈pend<->x=n\/x∈rest)(hn:n∈S):fC fol h S rest where
 nd:=hI.nd
 ok:=hI.ok
 okp:=fun x hx=>hI.okp x ((hp x).2 (.inr hx))
 clos:=fun a ha hne p h1 h2=>(hI.clos a ha hne p h1 h2).elim .inl fun q=>((hp p).1 q).elim (fun e=>.inl (by rw[e];exact hn)) .inr
 back:=fun a h1 h2=>(hI.back a h1 h2).elim .inl fun q=>((hp a).1 q).elim (fun e=>.inl (by rw[e];exact hn)) .inr
 head:=hI.head
structure jA(fol:Nat->List Nat)(h:Nat)(S pend:List Nat)(n:Nat)(l:List Nat):Prop where
 nd:S.Nodup
 ok:∀x∈S,InLoop fol h x
 okp:∀x∈pend,InLoop fol h x
 clos:∀a∈S,a≠h->a≠n->∀p,a∈fol p->Rch fol (-1) p->p∈S\/p∈pend
 cur:∀p∈l,Rch fol (-1) p->p∈S\/p∈pend
 back:∀a,Dm fol h a->h∈fol a->a∈S\/a∈pend
 head:h∈S
 neh:n≠h
theorem fC.take{fol:Nat->List Nat}{h:Nat}{S pend rest:List Nat}{n:Nat}(hI:fC fol h S pend)(hp:∀x,x∈pend<->x=n\/x∈rest)(hn:n∉S):jA fol h (S++[n]) rest n []:=by
 have hin:=hI.okp n ((hp n).2 (.inl rfl));have hh:=hI.head hin.1;have hne:n≠h:=fun e=>hn (by rw[e];exact hh);have up:∀ {p},p∈S\/p∈pend->p∈S++[n]\/p∈rest:=fun{p} w=>w.elim (fun q=>.inl (by simp[q])) fun q=>((hp p).1 q).elim (fun e=>.inl (by simp[e])) .inr;refine⟨?_,fun x hx=>?_,fun x hx=>hI.okp x ((hp x).2 (.inr hx)),fun a ha h1 h2 p h3 h4=>?_,fun p hp=>(by cases hp),fun a h1 h2=>up (hI.back a h1 h2),by simp[hh],hne⟩;·exact HW.2 ⟨hI.nd,JX,fun a ha b hb=>by rw[xB.1 hb];exact fun e=>hn (e ▸ ha)⟩
 ·rcases FK.1 hx with q|q
  ·exact hI.ok x q
  ·rw[xB.1 q];exact hin
 ·rcases FK.1 ha with q|q
  ·exact up (hI.clos a q h1 p h3 h4)
  ·exact absurd (xB.1 q) h2
theorem jA.skip{fol:Nat->List Nat}{h:Nat}{S pend l:List Nat}{n p:Nat}(hJ:jA fol h S pend n l)(hp:¬ Rch fol (-1) p):jA fol h S pend n (l++[p]):=
 ⟨hJ.nd,hJ.ok,hJ.okp,hJ.clos,fun q hq hr=>by
   rcases FK.1 hq with w|w
   ·exact hJ.cur q w hr
   ·rw[xB.1 w] at hr;exact absurd hr hp,hJ.back,hJ.head,hJ.neh⟩
theorem jA.push{fol:Nat->List Nat}{h:Nat}{S pend pend' l:List Nat}{n p:Nat}(hJ:jA fol h S pend n l)(hnS:n∈S)(hp:Rch fol (-1) p)(hnp:n∈fol p)(hm:∀x,x∈pend'<->x=p\/x∈pend):jA fol h S pend' n (l++[p]):=by
 have up:∀ {q},q∈S\/q∈pend->q∈S\/q∈pend':=fun{q} w=>w.imp id fun e=>(hm q).2 (.inr e);refine⟨hJ.nd,hJ.ok,fun x hx=>?_,fun a ha h1 h2 q h3 h4=>up (hJ.clos a ha h1 h2 q h3 h4),fun q hq hr=>?_,fun a h1 h2=>up (hJ.back a h1 h2),hJ.head,hJ.neh⟩
 ·rcases(hm x).1 hx with rfl|q
  ·have hin:=hJ.ok n hnS;have hl:=hin.2.resolve_left hJ.neh;by_cases e:x=h;·exact⟨hin.1,.inl e⟩
   ·exact⟨hin.1,.inr (.pre hl hnp hp e)⟩
  ·exact hJ.okp x q
 ·rcases FK.1 hq with w|w
  ·exact up (hJ.cur q w hr)
  ·exact .inr ((hm q).2 (.inl (xB.1 w)))
theorem jA.fin{fol:Nat->List Nat}{N h:Nat}{S pend:List Nat}{n:Nat}(hf:∀a,∀b∈fol a,b<N)(hfd:∀a,N<=a->fol a=[])(hJ:jA fol h S pend n (bj fol N n)):fC fol h S pend:=by
 refine⟨hJ.nd,hJ.ok,hJ.okp,fun a ha h1 p h2 h3=>?_,hJ.back,fun _=>hJ.head⟩;by_cases e:a=n
 ·subst e;refine hJ.cur p (cV.2 ⟨?_,h2⟩) h3;refine HE fun w=>?_;rw[hfd p JQ] at h2;cases h2
 ·exact hJ.clos a ha h1 e p h2 h3
structure gT(fol:Nat->List Nat)(h:Nat)(S pend l:List Nat):Prop where
 s:S=[]/\pend=[]\/S=[h]/\pend≠[]
 ok:∀x∈pend,Dm fol h x/\h∈fol x
 all:∀a∈l,Dm fol h a->a∈pend
theorem gT.start(fol:Nat->List Nat)(h:Nat):gT fol h [] [] []:=⟨.inl ⟨rfl,rfl⟩,fun _ h=>(by cases h),fun _ h=>(by cases h)⟩
theorem gT.skip{fol:Nat->List Nat}{h:Nat}{S pend l:List Nat}{p:Nat}(hB:gT fol h S pend l)(hp:¬ Dm fol h p):gT fol h S pend (l++[p]):=
 ⟨hB.s,hB.ok,fun a ha hd=>by
   rcases FK.1 ha with q|q
   ·exact hB.all a q hd
   ·rw[xB.1 q] at hd;exact absurd hd hp⟩
theorem gT.push{fol:Nat->List Nat}{h:Nat}{S pend l:List Nat}{p:Nat}(hB:gT fol h S pend l)(hp:Dm fol h p)(hh:h∈fol p):gT fol h [h] (pend++[p]) (l++[p]):=by
 refine⟨.inr ⟨rfl,JX⟩,fun x hx=>?_,fun a ha hd=>?_⟩
 ·rcases FK.1 hx with q|q
  ·exact hB.ok x q
  ·rw[xB.1 q];exact⟨hp,hh⟩
 ·rcases FK.1 ha with q|q
  ·simp[hB.all a q hd]
  ·simp[xB.1 q]
theorem gT.fin{fol:Nat->List Nat}{N h:Nat}{S pend:List Nat}(hfd:∀a,N<=a->fol a=[])(hB:gT fol h S pend (bj fol N h)):fC fol h S pend:=by
 have hall:∀a,Dm fol h a->h∈fol a->a∈pend:=fun a h1 h2=>by
  have hlt:a<N:=by refine HE fun w=>?_;rw[hfd a JQ] at h2;cases h2
  exact hB.all a (cV.2 ⟨hlt,h2⟩) h1
 rcases hB.s with⟨rfl,rfl⟩|⟨rfl,hb⟩
 ·refine⟨JX,fun _ h=>(by cases h),fun _ h=>(by cases h),fun _ h=>(by cases h),fun a h1 h2=>.inr (hall a h1 h2),fun⟨a,h1,h2⟩=>(by cases hall a h1 h2)⟩
 ·obtain⟨a,ha⟩:=List.exists_mem_of_ne_nil pend hb;have hbk:o4 fol h:=⟨a,hB.ok a ha⟩;refine⟨JX,fun x hx=>⟨hbk,.inl (xB.1 hx)⟩,fun x hx=>⟨hbk,?_⟩,fun a ha hne=>absurd (xB.1 ha) hne,fun a h1 h2=>.inr (hall a h1 h2),fun _=>JX⟩;by_cases e:x=h;·exact .inl e
  ·exact .inr (.back (hB.ok x hx).1 (hB.ok x hx).2 e)
theorem ow{α:Type}{p q:α->Bool}:∀ {l:List α},(∀x∈l,p x=true->q x=true)->(∃x∈l,q x=true/\p x=false)->(l.filter p).length<(l.filter q).length
 |[],_,h=>by obtain⟨x,hx,_⟩:=h;cases hx
 |x::l,h,he=>by
  have hle:(l.filter p).length<=(l.filter q).length:=by
   have:∀l:List α,(∀x∈l,p x=true->q x=true)->(l.filter p).length<=(l.filter q).length:=by
    intro l;induction l with
    |nil=>intro _;exact t9 _
    |cons y l ih=>
     intro h;have:=ih fun x hx=>h x (.tail _ hx);have h2:=h y (.head _);cases hp:p y<;>cases hq:q y<;>simp[hp,hq] at h2 |-<;>omega
   exact this l fun x hx=>h x (.tail _ hx)
  have h2:=h x (.head _);obtain⟨y,hy,h3,h4⟩:=he;rcases F5.1 hy with rfl|hy
  ·simp[h3,h4];omega
  ·have:=ow (p:=p) (q:=q) (l:=l) (fun x hx=>h x (.tail _ hx)) ⟨y,hy,h3,h4⟩;cases hp:p x<;>cases hq:q x<;>simp[hp,hq] at h2 |-<;>omega
open Classical in
noncomputable def vH(fol:Nat->List Nat)(N n:Nat):Nat:=((List.range N).filter fun a=>decide (Dm fol a n)).length
theorem BJ{fol:Nat->List Nat}{N n a:Nat}(hn:n<N)(ha:a≠n)(h:Dm fol a n):vH fol N a<vH fol N n:=by
 classical
 refine ow (fun x _ hx=>GC ((of_decide_eq_true hx).trans h)) ⟨n,G3.2 hn,GC (gN h.2.1),Gz fun q=>ha (Dm.anti h q)⟩
theorem idom_up{fol:Nat->List Nat}{n:Nat}{v:Int}(hv:jh fol n v)(hr:Rch fol (-1) n):(v=-1/\∀h,Dm fol h n<->h=n)\/∃a:Nat,v=a/\a≠n/\Dm fol a n/\∀h,Dm fol h n<->h=n\/Dm fol h a:=by
 rcases hv with⟨rfl,h|h⟩|⟨h0,a,rfl,ha,hd,hm⟩
 ·subst h;refine .inl ⟨rfl,fun h=>⟨fun q=>HE fun w=>qh w q,fun e=>?_⟩⟩;rw[e];exact gN hr
 ·exact absurd hr h
 ·refine .inr ⟨a,rfl,ha,hd,fun h=>⟨fun q=>?_,fun q=>?_⟩⟩
  ·by_cases e:h=n;·exact .inl e
   ·exact .inr (hm h e q)
  ·rcases q with rfl|q
   ·exact gN hr
   ·exact q.trans hd
def sK(D:Nat->Nat)(S seen:List Nat)(N:Nat):List Nat:=(List.range N).map fun n=>D n+(seen.any fun i=>S[i]?==some n).toNat
theorem iL(D:Nat->Nat)(S seen:List Nat)(N:Nat):(sK D S seen N).length=N:=by simp[sK]
theorem pf{D:Nat->Nat}{S seen:List Nat}{N n:Nat}(h:n<N):(sK D S seen N)[n]?=some (D n+(seen.any fun i=>S[i]?==some n).toNat):=by simp[sK,h]
theorem zu(D:Nat->Nat)(S:List Nat)(N:Nat):sK D S [] N=(List.range N).map D:=by simp[sK]
theorem wz{S:List Nat}(h:S.Nodup){i j x:Nat}(h1:S[i]?=some x)(h2:S[j]?=some x):i=j:=by have a:=a9.1 h1;have b:=a9.1 h2;exact(I4 (h₀:=a.1) (h₁:=b.1) h).1 (a.2.trans b.2.symm)
theorem xV{D:Nat->Nat}{S seen:List Nat}{N i x:Nat}(hnd:S.Nodup)(hi:S[i]?=some x)(hx:x<N)(hns:i∉seen):(sK D S seen N)[x]?=some (D x)/\sK D S (seen++[i]) N=(sK D S seen N).set x (D x+1):=by
 have hno:(seen.any fun k=>S[k]?==some x)=false:=by
  rw[Iq];intro k hk w;have hk2:S[k]?=some x:=by simpa using w
  exact hns (wz hnd hk2 hi ▸ hk)
 refine⟨by rw[pf hx,hno];rfl,GT fun n=>?_⟩;by_cases hn:n<N
 ·rw[pf hn];by_cases e:n=x
  ·subst e;rw[GD (by rw[iL];exact hn),List.any_append,hno,IG,List.any_nil,hi];simp
  ·rw[GW (fun w=>e w.symm),pf hn,List.any_append];have:(List.any [i] fun k=>S[k]?==some n)=false:=by
    rw[IG,List.any_nil,hi,I7];simpa using fun w=>e w.symm
   rw[this,I7]
 ·rw[yB (by rw[iL];omega),yB (by rw[G0,iL];omega)]
theorem Ak{fol:Nat->List Nat}{h N:Nat}{S seen:List Nat}(hS:∀x,x∈S<->InLoop fol h x)(hall:∀i,i<S.length->i∈seen):sK (depthN fol h) S seen N=cJ fol N (h+1):=by
 classical
 unfold sK cJ;refine Hv fun n _=>?_;rw[j8];congr 1;by_cases hn:InLoop fol h n
 ·rw[Gw hn];obtain⟨i,hi,e⟩:=Gy.1 ((hS n).2 hn);have:(seen.any fun k=>S[k]?==some n)=true:=by
   rw[Ix];exact⟨i,hall i hi,by rw[ab hi,e];simp⟩
  rw[this];rfl
 ·rw[GN hn];have:(seen.any fun k=>S[k]?==some n)=false:=by
   rw[Iq];intro k _ w;have hk:S[k]?=some n:=by simpa using w
   exact hn ((hS n).1 (i3 hk))
  rw[this];rfl
theorem yM{fol:Nat->List Nat}{h:Nat}(hr:¬ Rch fol (-1) h)(n:Nat):¬ InLoop fol h n:=fun q=>by obtain⟨⟨a,h1,_⟩,_⟩:=q;exact hr h1.1
end Go.Proofs.YtapmdfcmpglieaaGreatDoor.am
