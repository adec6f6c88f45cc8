/- The abstract machine: a function that takes its blocks over under other handles. The abstract machine: regions that draw their order, where something -/
import Derived.Test.YtapmdfcmpglieaaGreatDoorV4
import Derived.Test.YtapmdfcmpglieaaGreatDoorV1
import Derived.WalkKit
set_option linter.all false
namespace Go.Proofs.YtapmdfcmpglieaaGreatDoor.am
open Go
set_option linter.unusedSimpArgs false
def Fp(k nx:Nat)(ρ:List Nat):Bool:=Nat.beq ρ.length k&&decide ρ.Nodup&&Nat.ble k nx&&Nat.ble nx HMod&&(List.range k).all fun i=>match ρ[i]? with|some h=>(Nat.beq h i||Nat.ble k h)&&Nat.blt h nx|none=>false
def EP(ρ:List Nat):List Nat->List Blk->List (Nat×Option Blk)
 |h::r,b::l=>(h,some (b.out ρ))::EP ρ r l
 |_,_=>[]
def mvL(ρ:List Nat)(nx:Nat)(args:List AV)(bin:List Blk):LS:=⟨uC 0 (pC ρ args),EP ρ ρ bin,nx⟩
def gmv(g:Gh)(k:Nat)(ρ:List Nat):Gh:=⟨fun h=>match idx ρ h with|some i=>g i|none=>if h<k then(match g h with|.un=>.un|_=>.dead) else g h,g.X,g.D,fun h b=>match idx ρ h with|some i=>g.F i b|none=>g.F h b⟩
theorem v6(ρ0:List Nat):∀(ρ:List Nat)(bin:List Blk),ρ.length=bin.length->∀h,lkM (EP ρ0 ρ bin) h=match idx ρ h with|some i=>(bin[i]?).map (Blk.out ρ0)|none=>none
 |[],[],_,h=>rfl
 |k::r,b::l,hl,h=>by
  have ih:=v6 ρ0 r l (by simpa using hl) h;unfold lkM at ih |-
  unfold EP;rw[bZ];unfold idx;cases hb:Nat.beq k h with
  |true=>rfl
  |false=>
   rw[lh,lh,ih];cases idx r h with
   |none=>rfl
   |some i=>simp
 |[],_::_,hl,_=>by simp at hl
 |_::_,[],hl,_=>by simp at hl
section
variable {X:Gh->World->Prop} {P:Program} {N:Nat} {c:Code} {Q:AX->AS->Prop} {args:List AV} {bin:List Blk} {ρ:List Nat} {nx:Nat}
theorem Wp.mv(hρ:Fp bin.length nx ρ=true)(ha:ep bin.length args=true)(hb:bin.all (Blk.lowH bin.length)=true)(h:Wp X P bin.length N c Q (mvL ρ nx args bin).st):Wp X P bin.length N c Q (AS.init args bin):=by
 intro g0 g w0 w act hk hs;refine h g0 (gmv g bin.length ρ) w0 w act hk ?_;unfold Fp at hρ;simp only[t4,GR] at hρ;obtain⟨⟨⟨⟨q1,q2⟩,q3⟩,q4⟩,q5⟩:=hρ;have q1:=xx q1;have q3:=oo q3;have q4:=oo q4;have hr:∀i h,ρ[i]?=some h->(h=i\/bin.length<=h)/\h<nx:=fun i h hi=>by have hlt:=(a9.1 hi).1;have:=GQ.1 q5 i (G3.2 JQ);rw[hi] at this;simp only[t4,Ib] at this;exact⟨this.1.imp xx oo,oo this.2⟩
 have hun:∀h,bin.length<=h % HMod->g h=.un:=hs.un;have hnew:∀i h,idx ρ h=some i->h=i\/(bin.length<=h/\g h=.un):=fun i h hi=>by
  obtain⟨e1,e2⟩:=hr i h (cP hi);rcases e1 with e1|e1
  ·exact .inl e1
  ·exact .inr ⟨e1,hun h (by rw[Ht JQ];exact e1)⟩
 have hlt:∀i h,idx ρ h=some i->i<bin.length:=fun i h hi=>by have:=(a9.1 (cP hi)).1;omega
 have hget:∀i h,idx ρ h=some i->gmv g bin.length ρ h=g i:=fun i h hi=>by show(match idx ρ h with|some i=>g i|none=>_)=_;rw[hi]
 have hnone:∀h,idx ρ h=none->bin.length<=h->gmv g bin.length ρ h=g h:=fun h hi hk=>by show(match idx ρ h with|some i=>g i|none=>if h<bin.length then _ else g h)=_;rw[hi];exact GN JQ
 have hdead:∀h,idx ρ h=none->h<bin.length->∀l,gmv g bin.length ρ h≠.live l:=fun h hi hk l e=>by have e2:(match idx ρ h with|some i=>g i|none=>if h<bin.length then(match g h with|.un=>.un|_=>.dead) else g h)=.live l:=e;rw[hi] at e2;simp only[Gw hk] at e2;cases hg:g h<;>rw[hg] at e2<;>cases e2
 have hF:∀i h,idx ρ h=some i->(gmv g bin.length ρ).F h=g.F i:=fun i h hi=>by funext b;show(match idx ρ h with|some i=>g.F i b|none=>g.F h b)=_;rw[hi]
 have owns:∀h b,cd (gmv g bin.length ρ) h b->(∃i,idx ρ h=some i/\cd g i b)\/(idx ρ h=none/\bin.length<=h/\cd g h b):=fun h b ho=>by
  obtain⟨l,e1,e2⟩:=ho;cases hi:idx ρ h with
  |some i=>
   refine .inl ⟨i,rfl,l,(hget i h hi).symm.trans e1,?_⟩;rw[hF i h hi] at e2;exact e2
  |none=>
   rcases HD h bin.length with q|q
   ·exact absurd e1 (hdead h hi q l)
   ·refine .inr ⟨rfl,q,l,(hnone h hi q).symm.trans e1,?_⟩;have e3:l.b=some b\/(match idx ρ h with|some i=>g.F i b|none=>g.F h b):=e2;rw[hi] at e3;exact e3
 have owns2:∀h b,cd (gmv g bin.length ρ) h b->∃i,cd g i b:=fun h b ho=>(owns h b ho).elim (fun⟨i,_,e⟩=>⟨i,e⟩) fun⟨_,_,e⟩=>⟨h,e⟩;have hok:∀b,okB g w b->okB (gmv g bin.length ρ) w b:=fun b hb=>⟨hb.1,hb.2.1,fun h ho=>by obtain⟨i,e⟩:=owns2 h b ho;exact hb.2.2 i e⟩;have hh:∀i h,ρ[i]?=some h->gmv g bin.length ρ h=g i:=fun i h hi=>hget i h (qy q2 hi);have hm:=hs.mem;have hmem:∀h b',(mvL ρ nx args bin).st.m h=some b'->∃i b,idx ρ h=some i/\bin[i]?=some b/\b'=b.out ρ:=fun h b' hb'=>by
  have e:lkM (EP ρ ρ bin) h=some b':=hb';rw[v6 ρ ρ bin q1] at e;cases hi:idx ρ h with
  |none=>rw[hi] at e;cases e
  |some i=>
   rw[hi] at e;simp only[z9] at e;obtain⟨b,e1,e2⟩:=e;exact⟨i,b,rfl,e1,e2.symm⟩
 refine⟨hs.size,hs.defers,fun i a hi=>?_,⟨fun h b' hb'=>?_,fun h h' b e1 e2=>?_,fun h b e=>?_,hm.xlt,fun h b e=>?_,fun b Q hq=>?_⟩,fun h hh2=>?_,?_⟩
 ·have e:lk (uC 0 (pC ρ args)) i=some a:=hi;rw[numL_lk,Gw (x5 _),Kf,bP,z9] at e;obtain⟨a0,e1,rfl⟩:=e;obtain⟨e2,e3⟩:=hs.fr i a0 e1;exact⟨e2,e3.out q1.symm hok hh (belowL_get ha e1)⟩
 ·obtain⟨i,b,e1,e2,rfl⟩:=hmem h b' hb';obtain⟨l,e3,e4⟩:=hm.blk i b e2;refine⟨l,(hget i h e1).trans e3,?_⟩;rw[hF i h e1];exact e4.out q1.symm hok hh (GQ.1 hb b (i3 e2))
 ·rcases owns h b e1 with⟨i,a1,a2⟩|⟨a1,a2,a3⟩<;>rcases owns h' b e2 with⟨i',b1,b2⟩|⟨b1,b2,b3⟩
  ·have:=hm.inj i i' b a2 b2;subst this;have c1:=cP a1;rw[cP b1] at c1;exact(vx c1).symm
  ·have:=hm.inj i h' b a2 b3;have:=hlt i h a1;omega
  ·have:=hm.inj h i' b a3 b2;have:=hlt i' h' b1;omega
  ·exact hm.inj h h' b a3 b3
 ·obtain⟨i,e⟩:=owns2 h b e;exact hm.lt i b e
 ·obtain⟨i,e⟩:=owns2 h b e;exact hm.xl i b e
 ·exact⟨⟨(hm.gl b Q hq).1.1,fun h ho=>by obtain⟨i,e⟩:=owns2 h b ho;exact(hm.gl b Q hq).1.2 i e⟩,(hm.gl b Q hq).2⟩
 ·have hh3:nx<=h % HMod:=hh2;have hle:=Ir h HMod;have hi:idx ρ h=none:=by
   cases hi:idx ρ h with
   |none=>rfl
   |some i=>have:=(hr i h (cP hi)).2;omega
  rw[hnone h hi JQ];exact hun h JQ
 ·refine hs.grow.trans ⟨rfl,rfl,rfl,t9 _,fun _ _=>rfl,fun _ _=>rfl,rfl,fun h hh2=>?_,fun h l e=>?_,fun h b e=>.inl (owns2 h b e)⟩
  ·cases hi:idx ρ h with
   |some i=>
    rw[hget i h hi];rcases hnew i h hi with rfl|⟨_,e⟩
    ·exact hh2
    ·exact absurd e hh2
   |none=>
    rcases HD h bin.length with q|q
    ·intro e;have e2:(match idx ρ h with|some i=>g i|none=>if h<bin.length then(match g h with|.un=>.un|_=>.dead) else g h)=.un:=e;rw[hi] at e2;simp only[Gw q] at e2;cases hg:g h<;>first|exact hh2 hg|(rw[hg] at e2;cases e2)|(simp[hg] at e2)
    ·rw[hnone h hi q];exact hh2
  ·cases hi:idx ρ h with
   |some i=>
    rw[hget i h hi] at e;rcases hnew i h hi with rfl|⟨_,e2⟩
    ·exact .inl e
    ·exact .inr e2
   |none=>
    rcases HD h bin.length with q|q
    ·exact absurd e (hdead h hi q l)
    ·rw[hnone h hi q] at e;exact .inl e
end
theorem Ctr.mv(cuts ρ0:List Nat)(nx:Nat){P:Program}{T:Ty}(hT:TOk P T)(hmix:P.follows .mixedOrders=true){f:Nat}{fn:Func}{c:Code}(hf:P.funcs[f]?=some fn)(hb:fn.body=some c)(hcall:Callable P f){args:List AV}{bin:List Blk}{res:AE}{bout:List (Option Blk)}
  (hN:Nat.ble args.length fn.ntmps=true) (h:SOk (AS.init args bin)->ma XT P T bin.length fn.ntmps cuts c (fun x s=>∃ ρ,dN bin.length ρ=true/\ρ.length=bout.length/\jg T ρ fn.results.toList res bout x s.st) (mvL ρ0 nx args bin))
  (h1:Fp bin.length nx ρ0=true:=by exact rfl) (h2:ep bin.length args=true:=by exact rfl) (h3:bin.all (Blk.lowH bin.length)=true:=by exact rfl):Ctr P f args bin res bout:=
 Ctr.introR hT hf hb hcall hN fun hok=>Wp.mv h1 h2 h3 (by refine(aF hT hmix c _ _ (h hok)).mono fun x s hx=>?_;obtain⟨ls,rfl,hx⟩:=hx;exact hx)
def tW(V:Mem->Prop)(P:Program)(N:Nat)(ops:Array Oper)(nh:Nat):List Oper->Nat->AS->List Rc->AS->Prop
 |[],_,s,[],sf=>sf=s
 | o::r,i,s,c::cs,sf=>dstOk N o.dst=true/\bV ops s.t o c.run/\mN s.m (nh+i) c.rd c.up/\(c.run=true->rm V P o (nh+i) (evR ops o s.t) c.rd c.up c.a)/\(c.run=false->c.a = .und/\c.up=[]) /\
   tW V P N ops nh r (i+1) (s.put o.dst c.a c.up) cs sf
 |_,_,_,_,_=>False
section
variable {P:Program} {T:Ty} {N:Nat} {ops:Array Oper} {nh:Nat} {g0:Gh} {w0:World} {V:Mem->Prop}
theorem tW.at{R:Nat->Rc}{s0:AS}:∀(l:List Oper)(i:Nat)(s:AS)(cs:List Rc)(sf:AS),tW V P N ops nh l i s cs sf->(∀j,l[j]?=ops[i+j]?)->(∀j,j<l.length->R (i+j)=recAt cs j)->s=ar ops R s0 (List.range i) ->
  sf=ar ops R s0 (List.range (i+l.length))/\cs.length=l.length/\∀j o,l[j]?=some o->dstOk N o.dst=true/\bV ops (ar ops R s0 (List.range (i+j))).t o (R (i+j)).run/\mN (ar ops R s0 (List.range (i+j))).m (nh+(i+j)) (R (i+j)).rd (R (i+j)).up /\
   ((R (i+j)).run=true->rm V P o (nh+(i+j)) (evR ops o (ar ops R s0 (List.range (i+j))).t) (R (i+j)).rd (R (i+j)).up (R (i+j)).a)/\((R (i+j)).run=false->(R (i+j)).a=.und/\(R (i+j)).up=[]):=by
 intro l;induction l with
 |nil=>
  intro i s cs sf h _ _ hs;cases cs with
  |nil=>exact⟨by rw[show sf=s from h,hs];rfl,rfl,fun j o h=>by simp at h⟩
  |cons=>exact h.elim
 |cons o r ih=>
  intro i s cs sf h hl hR hs;cases cs with
  |nil=>exact h.elim
  |cons c cs=>
   obtain⟨h1,h2,h3,h4,h5,h6⟩:=h;have hRi:R i=c:=by have:=hR 0 JX;simpa[recAt] using this
   have ho:ops[i]?=some o:=by have:=hl 0;simpa using this.symm
   have hd:dG ops i=o.dst:=by simp[dG,ho]
   obtain⟨q1,q2,q3⟩:=ih (i+1) (s.put o.dst c.a c.up) cs sf h6 (fun j=>by have:=hl (j+1);rw[(JQ:i+(j+1)=i+1+j)] at this;simpa using this)
    (fun j hj=>by have:=hR (j+1) (by simp;omega);rw[(JQ:i+(j+1)=i+1+j)] at this;simpa[recAt] using this)
    (by rw[Hk,foldS_snoc,hd,hRi,<-hs])
   refine⟨by rw[q1,E0,(JQ:i+(r.length+1)=i+1+r.length)],by simp[q2],fun j o' hj=>?_⟩;cases j with
   |zero=>
    simp at hj;subst hj;rw[HR,hRi,<-hs];exact⟨h1,h2,h3,h4,h5⟩
   |succ j=>
    have:=q3 j o' (by simpa using hj)
    rwa [(JQ:i+1+j=i+(j+1))] at this
def Vm(h t:Nat)(cs:List AV)(m:Mem):Prop:=∃l,m h=some (.cells t l)/\l.take cs.length=cs
def VUp(h t:Nat)(cs:List AV)(up:List (Nat×Option Blk)):Prop:=match lk up h with
 |none=>True
 |some (some (.cells t' l))=>t'=t/\l.take cs.length=cs
 |_=>False
theorem VUp.ok{h t:Nat}{cs:List AV}{up:List (Nat×Option Blk)}(hu:VUp h t cs up){m:Mem}(hV:Vm h t cs m):Vm h t cs (bL m up):=by
 unfold VUp at hu;unfold Vm bL;split at hu;·rename_i e;rw[e];exact hV
 ·rename_i t' l e;obtain⟨rfl,hu⟩:=hu;rw[e];exact⟨l,rfl,hu⟩
 ·exact hu.elim
def y8(T:Ty)(h:Nat)(cs:List AV)(ev:Operand->Option AV):Op->Option AV
 | .nilCheck x=>match ev x with
  |some (.ptr h' o)=>bif Nat.beq h' h then some (.ptr h' o) else none
  |_=>none
 | .fieldAddr ty x f=>match lk T ty,ev x with
  |some ⟨.struct fs,_,_,_,_⟩,some (.ptr h' o)=>bif Nat.beq h' h then(match fs[f]? with
   |some (ft,off)=>match lk T ft with
    |some ti=>bif Nat.beq ti.size 0 then none else some (.ptr h' (o+off))
    |none=>none
   |none=>none) else none
  |_,_=>none
 | .load ty x=>match lk T ty,ev x with
  |some i,some (.ptr h' o)=>bif Nat.beq h' h&&i.d.agg&&Nat.ble (o+i.size) cs.length then some (.agg ((cs.drop o).take i.size)) else none
  |_,_=>none
 |_=>none
theorem lP{α:Type}{l cs:List α}(h:l.take cs.length=cs){o n:Nat}(hle:o+n<=cs.length):(l.drop o).take n=(cs.drop o).take n:=by
 refine GT fun i=>?_;rw[Ba,Ba,GA,GA];split;·rw[<-h,Ba,Gw JQ]
 ·rfl
theorem x9(hT:TOk P T){o:Oper}{h t:Nat}{cs:List AV}{ev:Operand->Option AV}{a:AV}(hnb:nh<HMod)(hs:y8 T h cs ev o.op=some a):rm (Vm h t cs) P o nh ev [] [] a:=by
 intro g w m act Kc Q hm hn hV _ hev hk;obtain⟨l,hml,hcs⟩:=hV;have key:LOk P o m nh ev (fun a' rd up=>a'=a/\rd=[(h,.cells t l)]/\up=[]):=by
  generalize hop:o.op=op at hs;unfold y8 at hs;split at hs
  ·rename_i x;split at hs;case h_2=>cases hs
   rename_i h' of hx;cases hb:Nat.beq h' h with
   |false=>rw[hb] at hs;cases hs
   |true=>
    rw[hb,r7] at hs;obtain rfl:=xx hb;cases hs;exact l_nilCheckP hop hx hml aut
  ·rename_i ty x f;split at hs;case h_2=>cases hs
   rename_i fs s1 s2 s3 s4 h' of e1 hx;cases hb:Nat.beq h' h with
   |false=>rw[hb] at hs;cases hs
   |true=>
    rw[hb,r7] at hs;obtain rfl:=xx hb;split at hs;case h_2=>cases hs
    rename_i ft off e2;split at hs;case h_2=>cases hs
    rename_i ti e3;cases hz:Nat.beq ti.size 0 with
    |true=>rw[hz] at hs;cases hs
    |false=>
     rw[hz,lh] at hs;cases hs;refine l_fieldAddr hT hop hx ?_;unfold eV;simp only[e1,e2,e3,hz,lh,hml];exact⟨J0,J0,J0⟩
  ·rename_i ty x;split at hs;case h_2=>cases hs
   rename_i i h' of e1 hx;cases hb:(Nat.beq h' h&&i.d.agg&&Nat.ble (of+i.size) cs.length) with
   |false=>rw[hb] at hs;cases hs
   |true=>
    rw[hb,r7] at hs;simp only[t4] at hb;obtain⟨⟨hb,hag⟩,hle⟩:=hb;obtain rfl:=xx hb;have hle:=oo hle;have hll:cs.length<=l.length:=by have:=E8 List.length hcs;rw[DK] at this;omega
    cases hs;refine vh hT hop hx ?_;unfold vR;simp only[e1,hml,hag,r7];rw[show Nat.ble (of+i.size) l.length=true from G6 JQ,r7,lP hcs hle];first|exact aut|exact⟨trivial,trivial,trivial⟩|simp
  ·cases hs
 obtain⟨a',rd,up,⟨rfl,rfl,rfl⟩,h1,h2,h3⟩:=key;obtain⟨g',w',hr,e1,e2,e3⟩:=h3 g w m act.eval hm (hn nh (Ht hnb)) h1 hev;have e3:∀h,h % HMod≠nh->g h=.un->g' h=.un:=fun h q=>e3 h fun e=>q (by rw[e];exact Ht hnb);unfold Oper.wp;rcases hr with⟨v,hr,hv⟩|⟨hr,rfl⟩
 ·rw[hr];exact hk v w' g' hv e1 e2 e3
 ·rw[hr];exact hk undef w' g' .und e1 e2 e3
noncomputable def jn(P:Program)(T:Ty)(N:Nat)(ops:Array Oper)(nh h t:Nat)(cs:List AV)(Q:LS->Prop)(l:List Oper):RF:=
 List.rec (motive:=fun _=>RF) (fun i tl bl acc=>bN ops acc=true/\fN (nh+i) fun n=>Q ⟨tl,bl,n⟩)
  (fun o _ ih i tl bl acc=>bif dstOk N o.dst then(match o.guard with
   |none=>match y8 T h cs (evR ops o (lk tl)) o.op with
    |some a=>il tl o.dst a fun tl=>ih (i+1) tl bl (acc++[⟨[],[]⟩])
    |none=>fU P T false o (nh+i) (evR ops o (lk tl)) (lkM bl) (fun a rd up=>VUp h t cs up/\il tl o.dst a fun tl=>kn up bl fun bl=>ih (i+1) tl bl (acc++[⟨rd.map (·.1),up.map (·.1)⟩])) (fun _ _ _=>False)
   |some _=>False) else False) l
theorem nw(nh h t:Nat)(cs:List AV)(Q:LS->Prop)(o:Oper)(l:List Oper)(i:Nat)(tl:List (Nat×AV))(bl:List (Nat×Option Blk))(acc:List Ft):jn P T N ops nh h t cs Q (o::l) i tl bl acc=bif dstOk N o.dst then(match o.guard with
   |none=>match y8 T h cs (evR ops o (lk tl)) o.op with
    |some a=>il tl o.dst a fun tl=>jn P T N ops nh h t cs Q l (i+1) tl bl (acc++[⟨[],[]⟩])
    |none=>fU P T false o (nh+i) (evR ops o (lk tl)) (lkM bl) (fun a rd up=>VUp h t cs up/\il tl o.dst a fun tl=>kn up bl fun bl=>jn P T N ops nh h t cs Q l (i+1) tl bl (acc++[⟨rd.map (·.1),up.map (·.1)⟩])) (fun _ _ _=>False)
   |some _=>False) else False:=rfl
theorem oE(hT:TOk P T)(nh h t:Nat)(cs:List AV)(Q:LS->Prop)(n:Nat):∀(l:List Oper)(i:Nat)(tl:List (Nat×AV))(bl:List (Nat×Option Blk))(acc:List Ft),nh+(i+l.length)<=HMod->jn P T N ops nh h t cs Q l i tl bl acc ->
  ∃rs sf,tW (Vm h t cs) P N ops nh l i (LS.st ⟨tl,bl,n⟩) rs sf/\bN ops (acc++rs.map Rc.ft)=true/\(∀c∈rs,VUp h t cs c.up)/\∃ls:LS,ls.st={ sf with nx:=nh+(i+l.length) }/\Q ls:=by
 intro l;induction l with
 |nil=>
  intro i tl bl acc _ hh;have hh:bN ops acc=true/\fN (nh+i) (fun n=>Q ⟨tl,bl,n⟩):=hh;rw[nO] at hh;exact⟨[],_,rfl,by simpa using hh.1,JX,_,rfl,hh.2⟩
 |cons o r ih=>
  intro i tl bl acc hb hh;rw[E0] at hb;have hnb:nh+i<HMod:=JQ;rw[nw] at hh;cases hd:dstOk N o.dst with
  |false=>rw[hd] at hh;exact hh.elim
  |true=>
  rw[hd,r7] at hh;simp only[eP,eI] at hh;split at hh;case h_2=>exact hh.elim
  rename_i hg;have hw:bV ops (lk tl) o true:=by simp[bV,hg]
  split at hh
  ·rename_i a hs;obtain⟨rs,sf,q1,q2,q3,ls,q4,q5⟩:=ih (i+1) _ _ _ JQ hh;rw[show LS.st ⟨cw tl o.dst a,bl,n⟩=(LS.st ⟨tl,bl,n⟩).put o.dst a [] from gf tl bl n o.dst a []] at q1;refine⟨⟨a,[],[],true⟩::rs,sf,⟨hd,hw,⟨JX,JX⟩,fun _=>x9 hT hnb hs,fun h=>(by cases h),q1⟩,by simpa[Rc.ft] using q2,fun c hc=>?_,ls,?_,q5⟩
   ·rcases F5.1 hc with rfl|hc
    ·exact trivial
    ·exact q3 c hc
   ·rw[q4,E0,(JQ:i+1+r.length=i+(r.length+1))]
  ·rcases astep_ok hnb hT hh with⟨a,rd,up,hK,hru,hws⟩|⟨a,rd,up,hK,hru,hws⟩
   ·obtain⟨hv,hK⟩:=hK (fun h=>by cases h);obtain⟨rs,sf,q1,q2,q3,ls,q4,q5⟩:=ih (i+1) _ _ _ JQ hK;rw[gf] at q1;refine⟨⟨a,rd,up,true⟩::rs,sf,⟨hd,hw,hru,fun _=>fun g w m act Kc Q p1 p2 _ p3 p4 p5=>hws g w m act Kc Q p1 p2 p3 p4 (fun _=>p5) (fun h=>by cases h),fun h=>(by cases h),q1⟩,by simpa[Rc.ft] using q2,fun c hc=>?_,ls,?_,q5⟩
    ·rcases F5.1 hc with rfl|hc
     ·exact hv
     ·exact q3 c hc
    ·rw[q4,E0,(JQ:i+1+r.length=i+(r.length+1))]
   ·exact(hK (fun h=>by cases h)).elim
theorem np{X:Gh->World->Prop}{k id h t:Nat}{cs:List AV}{Q:QL}{tl:List (Nat×AV)}{bl:List (Nat×Option Blk)}{nx:Nat}(hT:TOk P T)(hmix:P.follows .mixedOrders=true)(hb:nx+ops.size<=HMod)(hV:Vm h t cs (lkM bl))
  (hh:jn P T N ops nx h t cs (fun s'=>SOk s'.st->Q .normal s') ops.toList 0 tl bl []):Wp X P k N (.region id ops true) (Ql Q) (LS.mk tl bl nx).st:=by
 intro g0 g w0 w act hk hs;have hInv:∀(R:Nat->Rc),Inv g0 w0 N ops nx R (LS.mk tl bl nx).st (fun i=>(Array.replicate ops.size false).getD i true) act { w with drawn:=w.drawn+1 }:=by
  intro R;refine⟨hs.size,hs.defers,g,?_⟩;have e:(List.range ops.size).filter (fun i=>(Array.replicate ops.size false).getD i true)=[]:=by rw[Ii];intro k hk;have:=G3.1 hk;simp[Array.getD,this]
  rw[e];have hg:Grow g w g { w with drawn:=w.drawn+1 }:=⟨rfl,rfl,rfl,t9 _,fun _ _=>rfl,fun _ _=>rfl,rfl,fun _ h=>h,fun _ _ h=>.inl h,fun h b e=>.inl ⟨h,e⟩⟩;refine⟨fun i a ha=>⟨(hs.fr i a ha).1,((hs.fr i a ha).2).grow hg⟩,⟨fun k b hb=>?_,hs.mem.inj,hs.mem.lt,hs.mem.xlt,hs.mem.xl,hs.mem.gl.grow hg⟩,fun h hh _=>hs.un h hh,hs.grow.trans hg⟩;obtain⟨l,e1,e2⟩:=hs.mem.blk k b hb;exact⟨l,e1,e2.grow hg fun _ _=>rfl⟩
 have hli:∀i,i<ops.size->(Array.replicate ops.size false).getD i true=true->∀d∈deps ops i,(Array.replicate ops.size false).getD d true=true:=fun i hi hl=>by simp[Array.getD,hi] at hl
 refine JW hmix ?_;obtain⟨rs,sf,h1,h2,hu,ls,h3,h4⟩:=oE hT nx h t cs _ nx ops.toList 0 tl bl [] (by simpa using hb) hh;obtain⟨q1,q2,q3⟩:=tW.at (R:=recAt rs) (s0:=(LS.mk tl bl nx).st) ops.toList 0 _ rs sf h1 (fun j=>JX) (fun j _=>JX) rfl;simp only[E7,BQ] at q1 q2 q3 h3;refine kT (sp:=fun _=>false) (M:=fun _=>True) (V:=Vm h t cs) (nh:=nx) (s0:=(LS.mk tl bl nx).st) (g0:=g0) (w0:=w0) (N:=N) (by simpa using h2) hV (fun i hi m hm=>?_) (fun i o _ ho=>q3 i o (by simpa using ho)) (fun _ _ _ _=>trivial) (fun _ _ h=>by cases h) (fun listed act w _ hall hI=>?_) ops.size _ act _ JX (GB In JX) hli trivial (hInv _)
 ·refine VUp.ok (hu _ ?_) hm;unfold recAt;rw[t5,ab JQ];exact List.getElem_mem _
 ·obtain⟨g,hst⟩:=iP hall hI;rw[<-q1] at hst;rw[<-h3] at hst;exact⟨.normal,_,g,⟨ls,rfl,h4 hst.ok⟩,hst,J0⟩
end
theorem gL:∀(N:Nat)(l:List Nat),l.Nodup->(∀x∈l,x<N)->l.length<=N
 |0,l,_,h=>by
  cases l with
  |nil=>exact t9 _
  |cons x l=>exact absurd (h x (.head _)) (Hl x)
 |N+1,l,hn,h=>by
  by_cases hm:N∈l
  ·have:=gL N (l.erase N) (hn.erase N) (fun x hx=>by
    have:=(hn.mem_erase_iff).1 hx;have:=h x this.2;omega)
   rw[Jw hm] at this;omega
  ·have:=gL N l hn (fun x hx=>by
    have:=h x hx;have:x≠N:=fun w=>hm (w ▸ hx);omega)
   omega
theorem sQ{fol:Nat->List Nat}{n k:Nat}:(bj fol n k).length<=n:=by
 have:=HO (fun i=>(fol i).contains k) (List.range n)
 rwa [HZ] at this
end Go.Proofs.YtapmdfcmpglieaaGreatDoor.am
namespace Go.Proofs.YtapmdfcmpglieaaGreatDoor.ws
open Go Go.RowKit
theorem B6{k:IntKind}{a b:Int}(h:a=b):Ending.returned (.int k a)=.returned (.int k b):=by rw[h]
theorem gp{a b:Bool}(h:a=b):Ending.returned (.bool a)=.returned (.bool b):=by rw[h]
theorem FT{a b:ByteArray}(h:a=b):Ending.returned (.string a)=.returned (.string b):=by rw[h]
def shN(b:Int):Nat:=(b % 64).toNat
def F2(a b:Int):Int:=IntKind.i64.wrap ((BitVec.ofInt 64 a &&& BitVec.ofInt 64 b).toNat)
def bor(a b:Int):Int:=IntKind.i64.wrap ((BitVec.ofInt 64 a ||| BitVec.ofInt 64 b).toNat)
def FZ(a b:Int):Int:=IntKind.i64.wrap ((BitVec.ofInt 64 a ^^^ BitVec.ofInt 64 b).toNat)
def quo(a b:Int):Int:=if b=0 then 0 else wrap64 (a.tdiv b)
def tr(c:Bool):Int:=if c then 1 else 0
def rem(a b:Int):Int:=if b=0 then a else wrap64 (a-wrap64 (quo a b*b))
def doV(op:Nat)(a b:Int):Int:=
 match op with
 |1=>wrap64 (a+b)|2=>wrap64 (a-b)|3=>wrap64 (a*b)|4=>quo a b|5=>rem a b
 |6=>F2 a b|7=>bor a b|8=>FZ a b
 |9=>wrap64 (a*2^shN b)|10=>a / 2^shN b
 |11=>tr (a==b)|12=>tr (a != b)|13=>tr (decide (a<b))|14=>tr (decide (a<=b))
 |15=>tr (decide (b<a))|16=>tr (decide (b<=a))|_=>0
def Gu(op:Nat)(a:Int):Int:=
 match op with
 |17=>wrap64 (-a)|18=>tr (a==0)|_=>0
theorem nk(b:Int):(BitVec.ofInt 64 b &&& BitVec.ofInt 64 63).toNat=shN b:=by have e:(BitVec.ofInt 64 63).toNat=2^6-1:=JS;rw[BitVec.toNat_and,e,Nat.and_two_pow_sub_one_eq_mod,BitVec.toNat_ofInt];unfold shN;omega
theorem A9(b:Int):shN b<64:=by unfold shN;omega
theorem DG(b:Int):shN (IntKind.u64.wrap b)=shN b:=by unfold shN;rw[IntKind.wrap_u64];omega
theorem DP(b:Int):bits BinOp.and IntKind.u64 (IntKind.u64.wrap b) 63=((shN b:Nat):Int):=by have h:=A9 b;show IntKind.u64.wrap ((BitVec.ofInt 64 (IntKind.u64.wrap b) &&& BitVec.ofInt 64 63).toNat:Nat)=_;rw[nk,DG,IntKind.wrap_u64];omega
theorem Dk(b:Int):bits BinOp.and IntKind.i64 b 63=((shN b:Nat):Int):=by have h:=A9 b;show IntKind.i64.wrap ((BitVec.ofInt 64 b &&& BitVec.ofInt 64 63).toNat:Nat)=_;rw[nk,IntKind.wrap_i64];omega
theorem Et(a b:Int):bits BinOp.and IntKind.i64 a b=F2 a b:=rfl
theorem EX(a b:Int):bits BinOp.or IntKind.i64 a b=bor a b:=rfl
theorem EU(a b:Int):bits BinOp.xor IntKind.i64 a b=FZ a b:=rfl
end Go.Proofs.YtapmdfcmpglieaaGreatDoor.ws
namespace Go.Proofs.YtapmdfcmpglieaaGreatDoor.am
open Go
section
variable {P:Program} {T:Ty}
theorem cZ{fn:Func}{tmps:Array Value}{R R':Ending->World->Prop}(hr:∀e w,R e w->R' e w):∀(ds:List Deferred)(u:FrameMode)(w:World),Leaves P fn tmps R ds u w->Leaves P fn tmps R' ds u w
 |[],.returning,w,h=>let ⟨v,a,b⟩:=h;⟨v,a,hr _ _ b⟩
 |[],.panicking c,w,h=>hr _ _ h
 |[],.run,_,h=>h
 |d::ds,u,w,h=>by
  obtain⟨h0,fv,cap,f,args,e1,e2,h3⟩:=h;refine⟨h0,fv,cap,f,args,e1,e2,h3.mono fun e u' w' q=>?_⟩;cases e with
  |returned v=>exact cZ hr ds _ _ q
  |panicked c=>exact cZ hr ds _ _ q
  |outgrown=>exact hr _ _ q
def FM(P:Program)(T:Ty)(k d:Nat)(cl:List AV)(rs:List ResultVar)(QQ:AV->List (Option Blk)->Prop):QL
 | .normal,s|.ret,s=>∃res bout,QQ res bout/\oe P T k d false cl (.tr (.v .nilIface)) rs res bout s
 | .pan a,s=>∃res bout,QQ res bout/\oe P T k d true cl a rs res bout s
 | .exit _,_=>False
theorem cp.guardE(cuts:List Nat)(hT:TOk P T)(hmix:P.follows .mixedOrders=true){f d t i1:Nat}{fn:Func}{o1 o2:Oper}{A B C c:Code}{co:Array Operand}(hf:P.funcs[f]?=some fn)
  (hb:fn.body=some (.seq A (.seq B (.seq C (.seq (.region i1 #[o1,o2] false) c))))) (hcall:Callable P f)
  (ho1:o1.op=.makeFunc (.func d) #[] co) (hd1:o1.dst=some t) (hg1:o1.guard=none) (ho2:o2.op=.defer { callee:=.value (.tmp t),args:=#[],argTypes:=#[] }) (hd2:o2.dst=none) (hg2:o2.guard=none)
  {args:List AV} {bin:List Blk} {QQ:AV->List (Option Blk)->Prop} (hN:(Nat.ble args.length fn.ntmps&&Nat.blt t fn.ntmps)=true)
  (h:SOk (AS.init args bin)->ma XT P T bin.length fn.ntmps cuts A (fun x s=>x=.normal/\ma XT P T bin.length fn.ntmps cuts B (fun x s=>x=.normal/\ma XT P T bin.length fn.ntmps cuts C (fun x s=>match x with
   | .normal=>DL bin.length s s.nx=true/\∃cl,evs (evA s.st.t) co.toList=some cl/\ma XT P T s.nx fn.ntmps cuts c (FM P T bin.length d cl fn.results.toList QQ) ⟨(t,.fn d cl)::s.tl,s.bl,s.nx⟩
   | .ret=>∃res bout,QQ res bout/\∃ ρ,dN bin.length ρ=true/\ρ.length=bout.length/\jg T ρ fn.results.toList (.ret res) bout .ret s.st
   |_=>False) s) s) (nL args bin)):cp P f args bin (fun r b=>∃a,r=.ret a/\QQ a b):=by
 refine⟨hcall,fun g w vs hun hm hsz hvs=>calls_of_wp_defers hf hb (Km ?_)⟩;simp only[t4] at hN;have hN1:=oo hN.1;have hN2:t<fn.ntmps:=oo hN.2;have h0:=St.enter (N:=fn.ntmps) hun hm hsz hvs hN1;have hok:SOk (AS.init args bin):=h0.ok;have hw:=aF hT hmix _ _ _ (h hok);rw[ga] at hw;refine H1 (hw (g.at []) g w w _ ⟨J0,hun⟩ h0) ?_;rintro e act1 w1 ⟨x,s,g1,⟨ls,rfl,rfl,h1⟩,h2,h3⟩;cases e with
 |normal=>?_
 |_=>exact h3.elim
 refine Km (H1 (aF hT hmix _ _ _ h1 (g.at []) g1 w w1 _ ⟨J0,hun⟩ h2) ?_);clear h1 h2 h3;rintro e act1 w1 ⟨x,s,g1,⟨ls,rfl,rfl,h1⟩,h2,h3⟩;cases e with
 |normal=>?_
 |_=>exact h3.elim
 refine Km (H1 (aF hT hmix _ _ _ h1 (g.at []) g1 w w1 _ ⟨J0,hun⟩ h2) ?_);clear h1 h2 h3;rintro e act1 w1 ⟨x,s,g1,⟨ls,rfl,h1⟩,h2,h3⟩;cases x with
 |exit i=>exact h1.elim
 |pan a=>exact h1.elim
 |ret=>
  obtain⟨res,bout,hq,ρ,hρ,hρl,hfin⟩:=h1;obtain⟨he,v,r1,r2⟩:=mI hT (fn:=fn) hun hρ hρl hfin h2 h3;have hdf:act1.defers=[]:=h2.defers;cases e with
  |ret=>
   show Leaves P fn act1.tmps _ act1.defers .returning w1;rw[hdf];exact⟨v,r1,_,_,⟨_,rfl,hq⟩,r2⟩
  |_=>exact h3.elim
 |normal=>
 obtain⟨hlow,cl,hcl,h1⟩:=h1;have hkk:bin.length<=ls.nx:=by unfold DL at hlow;simp only[t4] at hlow;exact oo hlow.1
 obtain⟨g1,h2⟩:∃g1',St (g.at []) w fn.ntmps g1' act1 w1 ls.st/\∀i,ls.nx<=i->g1' i=.un:=by
  unfold DL at hlow;simp only[t4,GQ] at hlow
  replace hlow:=hlow.2
  refine⟨vS g1 ls.nx,⟨h2.size,h2.defers,fun i a hi=>⟨(h2.fr i a hi).1,(h2.fr i a hi).2.low (fun b hb=>mc hb) (fun i hi=>fK hi) (hlow.1 _ (zg hi))⟩,?_,fun i hi=>?_,h2.grow.cut fun i hi=>hun i (GB hkk hi)⟩,fun i hi=>?_⟩
  ·refine⟨fun h b hb=>?_,fun h h' b e1 e2=>h2.mem.inj h h' b (bE e1) (bE e2),fun h b e1=>h2.mem.lt h b (bE e1),h2.mem.xlt,fun h b e1=>h2.mem.xl h b (bE e1),fun b Q hq=>⟨⟨(h2.mem.gl b Q hq).1.1,fun h ho=>(h2.mem.gl b Q hq).1.2 h (bE ho)⟩,(h2.mem.gl b Q hq).2⟩⟩;have hb':(lk ls.bl h).join=some b:=hb;have hb2:lk ls.bl h=some (some b):=by
    cases e:lk ls.bl h with
    |none=>rw[e] at hb';cases hb'
    |some x=>rw[e] at hb';exact E8 some hb'
   obtain⟨q1,q2⟩:=(by simpa using hlow.2 _ (zg hb2):Nat.blt h ls.nx=true/\b.lowH ls.nx=true);obtain⟨l,e1,e2⟩:=h2.mem.blk h b hb;exact⟨l,(fK (oo q1)).trans e1,e2.low (fun b hb=>mc hb) (fun i hi=>fK hi) q2⟩
  ·have:ls.nx<=i:=GB hi (Ir _ _);simp[vS,J2.2 this]
  ·simp[vS,J2.2 hi]
 obtain⟨h2,hun1⟩:=h2;cases e with
 |normal=>
  show(Code.seq (.region i1 #[o1,o2] false) c).wp P _ act1 w1;refine Km (If ?_);obtain⟨v1,v2⟩:=vu (iu h2.fr) hcl;generalize hcs:co.map act1.eval=cs at v1 v2;have e1:(execOp act1.eval o1).run P w1=.ok (.value (.func (.func d) #[] cs)) w1:=by rw[<-hcs];simp[execOp,ho1,Instr.makeFunc]
  have w1':Region.wanted o1 (yielded #[o1,o2] act1.tmps)=true:=by simp[Region.wanted,hg1]
  have w2:∀t,Region.wanted o2 (yielded #[o1,o2] t)=true:=fun t=>by simp[Region.wanted,hg2]
  have hfn:Rep g1 w1 (.func (.func d) #[] cs) (.fn d cl):=.fn v1 v2;have p1:=d8 (dst:=some t) (v:=.func (.func d) #[] cs) (a:=.fn d cl) h2.size h2.fr (Grow.refl g1 w1) (by unfold dstOk;exact G6 hN2) hfn;have hev:(act1.put (some t) (.func (.func d) #[] cs)).eval (.tmp t)=.func (.func d) #[] cs:=by show(act1.tmps.setIfInBounds t _).getD t undef=_;rw[bI (by rw[h2.size];exact hN2),Gw rfl]
  have e2:(execOp (act1.put (some t) (.func (.func d) #[] cs)).eval o2).run P w1=.ok (.defer { target:=.fn (.func d) cs,args:=#[] }) w1:=by simp[execOp,ho2,resolve,Deferred.ofValue,hev]
  show wpList P #[o1,o2] _ [o1,o2] act1 w1;unfold wpList;rw[Gw w1'];refine .inl ?_;unfold Oper.wp;rw[e1,JC,hd1];unfold wpList;rw[Gw (w2 _)];refine .inl ?_;unfold Oper.wp;rw[e2,Oper.upon_defer,hd2];unfold wpList;show c.wp P _ { act1.put (some t) (.func (.func d) #[] cs) with defers:={ target:=.fn (.func d) cs,args:=#[] }::act1.defers } w1;have hdf:act1.defers=[]:=h2.defers;rw[hdf];have hst:St (g1.at [{ target:=.fn (.func d) cs,args:=#[] }]) w1 fn.ntmps g1 { act1.put (some t) (.func (.func d) #[] cs) with defers:=[{ target:=.fn (.func d) cs,args:=#[] }] } w1 (⟨(t,.fn d cl)::ls.tl,ls.bl,ls.nx⟩:LS).st:=by refine⟨p1.1,rfl,fun i a hi=>p1.2 i a ?_,h2.mem,h2.un,Grow.at _ _ _⟩;show(bif Nat.beq i t then some (AV.fn d cl) else lk ls.tl i)=some a;have hi:lk ((t,AV.fn d cl)::ls.tl) i=some a:=hi;rw[bZ] at hi;rw[iH i t];exact hi
  refine H1 (aF hT hmix c _ _ h1 (g1.at [{ target:=.fn (.func d) cs,args:=#[] }]) g1 w1 w1 _ ⟨J0,hun1⟩ hst) ?_;rintro e act' w' ⟨x,s',g',⟨ls',rfl,h4⟩,h5,h6⟩;have hG:Grow g w g1 w1:=h2.grow.of_at;have hcs':∀(i:Nat)(v:Value)(a:AV),cs[i]?=some v->cl[i]?=some a->Rep g' w' v a:=fun i v a q1 q2=>(v2 i v a q1 q2).grow h5.grow.of_at;have hdf':act'.defers=[{ target:=.fn (.func d) cs,args:=#[] }]:=h5.defers;have hnil:Rep g' w' .nilIface (.tr (.v .nilIface)):=.tr (.v trivial);cases x with
  |normal=>cases e with
   |normal=>
    show Leaves P fn act'.tmps _ act'.defers .returning w';rw[hdf'];obtain⟨res,bout,hq,h4⟩:=h4;exact cZ (fun e w q=>⟨_,_,⟨_,rfl,hq⟩,q⟩) _ _ _ (gR hT h4 hun hG h5 v1 hcs' hnil JY)
   |_=>exact h6.elim
  |ret=>cases e with
   |ret=>
    show Leaves P fn act'.tmps _ act'.defers .returning w';rw[hdf'];obtain⟨res,bout,hq,h4⟩:=h4;exact cZ (fun e w q=>⟨_,_,⟨_,rfl,hq⟩,q⟩) _ _ _ (gR hT h4 hun hG h5 v1 hcs' hnil JY)
   |_=>exact h6.elim
  |exit i=>exact h4.elim
  |pan a=>cases e with
   |panic ch=>
    obtain⟨v,rfl,hv⟩:=h6;show Leaves P fn act'.tmps _ act'.defers (.panicking [{ v,recovered:=false }]) w';rw[hdf'];obtain⟨res,bout,hq,h4⟩:=h4;exact cZ (fun e w q=>⟨_,_,⟨_,rfl,hq⟩,q⟩) _ _ _ (gR hT h4 hun hG h5 v1 hcs' hv rfl)
   |_=>exact h6.elim
 |_=>exact h3.elim
end
end Go.Proofs.YtapmdfcmpglieaaGreatDoor.am
