/- Plain: what lowering makes, told by places: the nodes of an expression and of a statement at a place, with the place to which they lead. Plain: -/
import Derived.Test.YtapmdfcmpglieaaGreatDoorV8
import Derived.Test.YtapmdfcmpglieaaGreatDoorV4
import Derived.Test.YtapmdfcmpglieaaGreatDoorV7
import Derived.Test.YtapmdfcmpglieaaGreatDoorV1
import Derived.Test.YtapmdfcmpglieaaGreatDoorProg
import Derived.WalkLawsBesides
import Derived.Deep.WholeRow
import Derived.Lib.Hide
import Derived.Below
import Derived.ShutString
set_option linter.all false
namespace Go.Proofs.YtapmdfcmpglieaaGreatDoor.am
open Go Go.Proofs
theorem cL(to:Int)(L:List Nd)(o:Bool×Nat)(i:Nat):(aP to L o)[i]?=(L[i]?).map fun n=>if i=o.2 then(bif o.1 then{ n with els:=to } else{ n with next:=to }) else n:=by
 unfold aP;cases h:L[o.2]? with
 |none=>
  by_cases hi:i=o.2;·subst hi;rw[h];rfl
  ·simp only[hi,I9];rw[Option.map_id']
 |some n=>
  have hl:=(a9.1 h).1;by_cases hi:i=o.2
  ·subst hi;simp only[I6];rw[GD hl,h];rfl
  ·simp only[hi,I9];rw[GW (fun q=>hi q.symm),Option.map_id']
theorem tN(to:Int)(L:List Nd)(o o':Bool×Nat):aP to (aP to L o) o'=aP to (aP to L o') o:=by refine GT fun i=>?_;rw[cL,cL,cL,cL,Jl,Jl];congr 1;funext n;obtain⟨b,x⟩:=o;obtain⟨b',x'⟩:=o';show(if i=x' then _ else _)=(if i=x then _ else _);by_cases h1:i=x<;>by_cases h2:i=x'<;>cases b<;>cases b'<;>simp only[h1,h2,I6,I9,Function.comp,r7,lh]<;>split<;>simp_all
theorem tg(to to':Int)(L:List Nd){o o':Bool×Nat}(h:o≠o'):aP to (aP to' L o') o=aP to' (aP to L o) o':=by
 refine GT fun i=>?_;rw[cL,cL,cL,cL,Jl,Jl];congr 1;funext n;obtain⟨b,x⟩:=o;obtain⟨b',x'⟩:=o';by_cases h1:i=x
 ·by_cases h2:i=x';·cases b<;>cases b'<;>simp_all [Function.comp]
  ·simp[Function.comp,h1,h2];split<;>simp_all
 ·by_cases h2:i=x'
  ·simp[Function.comp,h1,h2];split<;>simp_all
  ·simp[Function.comp,h1,h2]
theorem fH(to:Int)(o:Bool×Nat):∀(os:List (Bool×Nat))(L:List Nd),aK to os (aP to L o)=aP to (aK to os L) o
 |[],L=>rfl
 |q::r,L=>by show aK to r (aP to (aP to L o) q)=aP to (aK to r (aP to L q)) o;rw[tN,fH to o r]
theorem nD(to:Int):∀(os os':List (Bool×Nat))(L:List Nd),aK to os (aK to os' L)=aK to os' (aK to os L)
 |os,[],L=>rfl
 |os,q::r,L=>by show aK to os (aK to r (aP to L q))=aK to r (aP to (aK to os L) q);rw[nD to os r,fH]
theorem yN(to:Int)(os os':List (Bool×Nat))(L:List Nd):aK to (os++os') L=aK to os' (aK to os L):=by unfold aK;rw[IV]
theorem oC(to to':Int){o:Bool×Nat}:∀(os:List (Bool×Nat))(L:List Nd),o∉os->aK to os (aP to' L o)=aP to' (aK to os L) o
 |[],L,_=>rfl
 |q::r,L,h=>by show aK to r (aP to (aP to' L o) q)=aP to' (aK to r (aP to L q)) o;rw[tg to to' L (fun e=>h (by rw[e];exact .head _)),oC to to' r _ (fun e=>h (.tail _ e))]
theorem B9(to:Int){L:List Nd}(M:List Nd){o:Bool×Nat}(h:o.2<L.length):aP to (L++M) o=aP to L o++M:=by unfold aP;rw[v9 h];have e:=ab h;rw[e];show(L++M).set _ _=L.set _ _++M;rw[List.set_append_left _ _ h]
theorem um(to:Int)(M:List Nd):∀(os:List (Bool×Nat)){L:List Nd},(∀o∈os,o.2<L.length)->aK to os (L++M)=aK to os L++M
 |[],L,_=>rfl
 |q::r,L,h=>by show aK to r (aP to (L++M) q)=aK to r (aP to L q)++M;rw[B9 to M (h q (.head _)),um to M r (fun o ho=>by rw[j6];exact h o (.tail _ ho))]
theorem jT(to:Int){A:List Nd}(n:Nd)(B:List Nd){k:Nat}(h:k=A.length):aP to (A++n::B) (false,k)=A ++ { n with next:=to }::B:=by
 subst h;unfold aP;have e:(A++n::B)[A.length]?=some n:=by rw[wS (t9 _),Hm];rfl
 show(match(A++n::B)[A.length]? with|some n=>_|none=>_)=_;rw[e];show(A++n::B).set A.length { n with next:=to }=_;rw[Ia _ _ (t9 _),Hm];rfl
theorem rr(to:Int){A:List Nd}(n:Nd)(B:List Nd){k:Nat}(h:k=A.length):aP to (A++n::B) (true,k)=A ++ { n with els:=to }::B:=by
 subst h;unfold aP;have e:(A++n::B)[A.length]?=some n:=by rw[wS (t9 _),Hm];rfl
 show(match(A++n::B)[A.length]? with|some n=>_|none=>_)=_;rw[e];show(A++n::B).set A.length { n with els:=to }=_;rw[Ia _ _ (t9 _),Hm];rfl
mutual
def szE(c:aJ):Expr->Nat
 | .mk kind op _ name kids _=>bif kind==1 then 0 else bif kind==2 then(bif decide (localI c.p c.t name>=0) then 0 else 1) else bif two op then sz0 c kids+(sz1 c kids+1) else sz0 c kids+1
def sz0(c:aJ):List Expr->Nat
 |[]=>0
 |e::_=>szE c e
def sz1(c:aJ):List Expr->Nat
 |[]=>0
 |_::r=>sz0 c r
end
mutual
def szS(c:aJ):Stmt->Nat
 | .mk kind name _ e body els _=>bif kind==1 then sz0 c e+1
  else bif kind==2 then sz0 c e+(bif decide (localI c.p c.t name>=0) then 1 else 2)
  else bif kind==3 then sz0 c e+(1+(szB c body+szB c els))
  else bif kind==4 then sz0 c e+(1+szB c body)
  else bif kind==5 then 1+(szB c body+1)
  else bif kind==6 then sz0 c e+1 else 0
def szB(c:aJ):List Stmt->Nat
 |[]=>0
 |x::r=>szS c x+szB c r
end
mutual
def slS(c:aJ):Stmt->Nat
 | .mk kind name _ e body els _=>bif kind==1 then sz0 c e
  else bif kind==2 then sz0 c e+(bif decide (localI c.p c.t name>=0) then 0 else 1)
  else bif kind==3 then sz0 c e+(slB c body+slB c els)
  else bif kind==4 then sz0 c e+slB c body
  else bif kind==5 then slB c body
  else bif kind==6 then sz0 c e else 0
def slB(c:aJ):List Stmt->Nat
 |[]=>0
 |x::r=>slS c x+slB c r
end
def zI(c:aJ):Expr->Nat->Val
 | .mk kind op word name kids _,m=>bif kind==1 then⟨false,0,word⟩ else bif kind==2 then(bif decide (localI c.p c.t name>=0) then inV (localI c.p c.t name) else inV (m:Nat)) else bif two op then inV ((m+(sz0 c kids+sz1 c kids):Nat):Int) else inV ((m+sz0 c kids:Nat):Int)
theorem qK(c:aJ)(kind op word:Int)(name:ByteArray)(kids:List Expr)(at_:Int)(m:Nat):zI c (.mk kind op word name kids at_) m=bif kind==1 then⟨false,0,word⟩ else bif kind==2 then(bif decide (localI c.p c.t name>=0) then inV (localI c.p c.t name) else inV (m:Nat)) else bif two op then inV ((m+(sz0 c kids+sz1 c kids):Nat):Int) else inV ((m+sz0 c kids:Nat):Int):=rfl
def iy(c:aJ):List Expr->Nat->Val
 |[],_=>v00
 |e::_,m=>zI c e m
def vq(c:aJ):List Expr->Nat->Val
 |[],_=>v00
 |_::r,m=>iy c r m
mutual
def gC(c:aJ):Expr->Nat->Nat->Nat->List Nd
 | .mk kind op _ name kids _,at_,m,to=>
  bif kind==1 then[]
  else bif kind==2 then(bif decide (localI c.p c.t name>=0) then[] else[{ nd00 with kind:=2,thing:=findI c.p.shared name 0,slot:=(m:Nat),next:=(to:Nat),origin:=(at_:Nat) }])
  else bif two op then cM c kids at_ m (at_+sz0 c kids)++(eh c kids (at_+sz0 c kids) (m+sz0 c kids) (at_+(sz0 c kids+sz1 c kids))++[{ nd00 with kind:=1,op:=op,a:=iy c kids m,b:=vq c kids (m+sz0 c kids),slot:=((m+(sz0 c kids+sz1 c kids):Nat):Int),next:=(to:Nat),origin:=((at_+(sz0 c kids+sz1 c kids):Nat):Int) }])
  else cM c kids at_ m (at_+sz0 c kids)++[{ nd00 with kind:=1,op:=op,a:=iy c kids m,slot:=((m+sz0 c kids:Nat):Int),next:=(to:Nat),origin:=((at_+sz0 c kids:Nat):Int) }]
def cM(c:aJ):List Expr->Nat->Nat->Nat->List Nd
 |[],_,_,_=>[]
 |e::_,at_,m,to=>gC c e at_ m to
def eh(c:aJ):List Expr->Nat->Nat->Nat->List Nd
 |[],_,_,_=>[]
 |_::r,at_,m,to=>cM c r at_ m to
end
def iW(c:aJ)(name:ByteArray)(v:Val)(at_ to:Nat):Nd:=bif decide (localI c.p c.t name>=0) then{ nd00 with kind:=1,slot:=localI c.p c.t name,a:=v,next:=(to:Nat),origin:=(at_:Nat) } else{ nd00 with kind:=3,thing:=findI c.p.shared name 0,a:=v,next:=(to:Nat),origin:=(at_:Nat) }
def mA(c:aJ)(name other:ByteArray)(v:Val)(at_ m to:Nat):List Nd:=bif decide (localI c.p c.t name>=0) then[{ nd00 with kind:=4,a:=v,thing:=findI c.p.shared other 0,slot:=localI c.p c.t name,next:=(to:Nat),origin:=(at_:Nat) }]
 else[{ nd00 with kind:=4,a:=v,thing:=findI c.p.shared other 0,slot:=(m:Nat),next:=((at_+1:Nat):Int),origin:=(at_:Nat) },{ nd00 with kind:=3,thing:=findI c.p.shared name 0,a:=inV (m:Nat),next:=(to:Nat),origin:=((at_+1:Nat):Int) }]
def goOn(k here to:Nat):Nat:=bif k==0 then to else here
mutual
def gb(c:aJ):Stmt->Nat->Nat->Nat->List Nd
 | .mk kind name other e body els _,at_,m,to=>
  bif kind==1 then cM c e at_ m (at_+sz0 c e)++[iW c name (iy c e m) (at_+sz0 c e) to]
  else bif kind==2 then cM c e at_ m (at_+sz0 c e)++mA c name other (iy c e m) (at_+sz0 c e) (m+sz0 c e) to
  else bif kind==3 then cM c e at_ m (at_+sz0 c e)++({ nd00 with kind:=8,a:=iy c e m,next:=(goOn (szB c body) (at_+sz0 c e+1) to:Nat),els:=(goOn (szB c els) (at_+sz0 c e+1+szB c body) to:Nat),origin:=((at_+sz0 c e:Nat):Int) } ::
   (bH c body (at_+sz0 c e+1) (m+sz0 c e) to++bH c els (at_+sz0 c e+1+szB c body) (m+sz0 c e+slB c body) to))
  else bif kind==4 then cM c e at_ m (at_+sz0 c e)++({ nd00 with kind:=8,a:=iy c e m,next:=(goOn (szB c body) (at_+sz0 c e+1) at_:Nat),els:=(to:Nat),origin:=((at_+sz0 c e:Nat):Int) }::bH c body (at_+sz0 c e+1) (m+sz0 c e) at_)
  else bif kind==5 then{ nd00 with kind:=5,thing:=findI c.p.locks name 0,next:=((at_+1:Nat):Int),origin:=(at_:Nat) }::(bH c body (at_+1) m (at_+1+szB c body)++[{ nd00 with kind:=6,thing:=findI c.p.locks name 0,next:=(to:Nat),origin:=((at_+1+szB c body:Nat):Int) }])
  else bif kind==6 then cM c e at_ m (at_+sz0 c e)++[{ nd00 with kind:=7,a:=iy c e m,next:=(to:Nat),origin:=((at_+sz0 c e:Nat):Int) }]
  else[]
def bH(c:aJ):List Stmt->Nat->Nat->Nat->List Nd
 |[],_,_,_=>[]
 |x::r,at_,m,to=>gb c x at_ m (goOn (szB c r) (at_+szS c x) to)++bH c r (at_+szS c x) (m+slS c x) to
end
structure Lw(s s':LowS)(k j:Nat)(D:Nat->List Nd):Prop where
 len:s'.nodes.length=s.nodes.length+k
 slots:s'.slots=s.slots+(j:Nat)
 over:s'.over=false
 lead:∀to:Nat,aK (to:Nat) s'.opens s'.nodes=aK (goOn k s.nodes.length to:Nat) s.opens s.nodes++D to
 opens:∀o∈s'.opens,(k=0/\o∈s.opens)\/s.nodes.length<=o.2
structure LSt(s:LowS)(m:Nat):Prop where
 slots:s.slots=(m:Nat)
 few:m<=1000+s.nodes.length
 inn:wi s
 cap:s.nodes.length<=4096
 over:s.over=false
theorem Lw.refl{s:LowS}(h:s.over=false):Lw s s 0 0 fun _=>[]:=⟨rfl,JX,h,fun to=>by rw[G7];rfl,fun o ho=>.inl ⟨rfl,ho⟩⟩
theorem Lw.cast{s s':LowS}{k j k' j':Nat}{D D':Nat->List Nd}(h:Lw s s' k j D)(hk:k=k')(hj:j=j')(hD:∀to,D to=D' to):Lw s s' k' j' D':=by subst hk;subst hj;exact⟨h.len,h.slots,h.over,fun to=>by rw[<-hD];exact h.lead to,h.opens⟩
theorem mC{k k' at_ to:Nat}:goOn k at_ (goOn k' (at_+k) to)=goOn (k+k') at_ to:=by
 unfold goOn;cases k with
 |zero=>
  cases k' with
  |zero=>rfl
  |succ n=>show at_+0=(bif 0+(n+1)==0 then to else at_);rw[show(0+(n+1)==0)=false by rw[E7];rfl];rfl
 |succ n=>
  show at_=(bif n+1+k'==0 then to else at_);rw[show(n+1+k'==0)=false by rw[Nat.add_right_comm];rfl];rfl
theorem Lw.trans{s s1 s2:LowS}{k j k' j':Nat}{D D':Nat->List Nd}(h:Lw s s1 k j D)(h':Lw s1 s2 k' j' D'):Lw s s2 (k+k') (j+j') fun to=>D (goOn k' (s.nodes.length+k) to)++D' to:=by
 refine⟨by rw[h'.len,h.len];omega,by rw[h'.slots,h.slots];omega,h'.over,fun to=>?_,fun o ho=>?_⟩;·rw[h'.lead,h.lead,h.len,mC,GH]
 ·rcases h'.opens o ho with⟨e,ho⟩|ho
  ·rcases h.opens o ho with⟨e',ho⟩|ho
   ·exact .inl ⟨JQ,ho⟩
   ·exact .inr ho
  ·rw[h.len] at ho;exact .inr JQ
theorem LSt.step{s s':LowS}{m k j:Nat}{D:Nat->List Nd}(h:LSt s m)(hr:nJ s s')(hl:Lw s s' k j D)(hjk:j<=k):LSt s' (m+j):=
 ⟨by rw[hl.slots,h.slots];omega,by rw[hl.len];have:=h.few;omega,hr.inn h.inn,hr.cap h.cap,hl.over⟩
theorem bW{a b:Bool}(h:ov a<=ov b)(hb:b=false):a=false:=by subst hb;cases a;rfl;exact absurd h JS
theorem ja{n:Nd}{s:LowS}(h:(putS n s).over=false):decide ((s.nodes.length:Int)>=4096)=false:=by
 cases hb:decide ((s.nodes.length:Int)>=4096) with
 |false=>rfl
 |true=>rw[gy n hb] at h;cases h
theorem Lw.put{n:Nd}{s:LowS}(hs:s.over=false)(h:(putS n s).over=false):Lw s (putS n s) 1 0 fun to=>[{ n with origin:=(s.nodes.length:Nat),next:=(to:Nat) }]:=by
 have hb:=ja h;refine⟨dS n hb,?_,h,fun to=>?_,fun o ho=>?_⟩;·rw[aQ n hb];simp
 ·rw[aQ n hb];show aP (to:Nat) (aK s.nodes.length s.opens s.nodes++[{ n with origin:=(s.nodes.length:Nat) }]) (false,s.nodes.length)=_;rw[jT _ _ _ (bw _ _ _).symm];rfl
 ·rw[aQ n hb] at ho;have ho:o∈[(false,s.nodes.length)]:=ho;rw[xB] at ho;subst ho;exact .inr (t9 _)
theorem uV{n:Nd}{s:LowS}(h:(putS n s).over=false):fG s=(s.nodes.length:Nat):=by unfold fG;rw[ja h];rfl
theorem LSt.slot{s:LowS}{m:Nat}(h:LSt s m):br s=(m:Nat)/\Lw s (bM s) 0 1 fun _=>[]:=by have h1:=h.few;have h2:=h.cap;have h3:=h.slots;have e:wI (s.slots+1)=s.slots+1:=w64 JQ JQ;refine⟨?_,rfl,by show wI (s.slots+1)=_;rw[e];rfl,h.over,fun to=>by rw[G7];rfl,fun o ho=>.inl ⟨rfl,ho⟩⟩;unfold br;rw[e,(JQ:s.slots+1-1=s.slots)];exact(w64 (n:=s.slots) JQ JQ).trans h3
theorem fi(k a to:Nat):goOn (k+1) a to=a:=rfl
mutual
theorem yh(c:aJ):∀(e:Expr)(s:LowS)(m:Nat),LSt s m->(b9 c e s).1.over=false->Lw s (b9 c e s).1 (szE c e) (szE c e) (gC c e s.nodes.length m)/\(b9 c e s).2=zI c e m
 | .mk kind op word name kids _,s,m,h,ho=>by
  have h0:=lQ c kids s m h;have h1:=fun s m=>yv c kids s m;have hn0:=fun s=>et c kids s;have hn1:=fun s=>oD c kids s;unfold b9 at ho |-
  unfold szE;rw[qK];show Lw _ _ _ _ (fun to=>gC c _ s.nodes.length m to)/\_;unfold gC;cases k1:kind==1 with
  |true=>exact⟨.refl h.over,rfl⟩
  |false=>
  rw[k1] at ho;cases k2:kind==2 with
  |true=>
   rw[k2] at ho;cases hl:decide (localI c.p c.t name>=0) with
   |true=>exact⟨.refl h.over,rfl⟩
   |false=>
    rw[hl] at ho;obtain⟨q1,q2⟩:=h.slot;simp only[r7,lh] at ho |-
    rw[q1] at ho |-
    exact⟨(q2.trans (Lw.put (s:=bM s) q2.over ho)).cast rfl rfl (fun to=>rfl),rfl⟩
  |false=>
  rw[k2] at ho;cases ht:two op with
  |true=>
   rw[ht] at ho;simp only[r7,lh] at ho |-
   have o3:(bM (cE c kids (ag c kids s).1).1).over=false:=bW (putS_rel _ _).over ho;have o2:(cE c kids (ag c kids s).1).1.over=false:=o3;have o1:(ag c kids s).1.over=false:=bW (hn1 _).over o2;obtain⟨p0,v0⟩:=h0 o1;have s1:=h.step (hn0 _).toS p0 (t9 _);obtain⟨p1,v1⟩:=h1 _ _ s1 o2;have s2:=s1.step (hn1 _).toS p1 (t9 _);obtain⟨q1,q2⟩:=s2.slot;rw[q1] at ho |-
   refine⟨(p0.trans (p1.trans (q2.trans (Lw.put q2.over ho)))).cast JQ JQ (fun to=>?_),by rw[Hn]⟩;have e0:(ag c kids s).1.nodes.length=s.nodes.length+sz0 c kids:=p0.len;have e1:(bM (cE c kids (ag c kids s).1).1).nodes.length=s.nodes.length+(sz0 c kids+sz1 c kids):=by show(cE c kids (ag c kids s).1).1.nodes.length=_;rw[p1.len,e0];omega
   rw[v0,v1,e0,e1,(JQ:sz1 c kids+(0+1)=sz1 c kids+1),fi,fi,Hn m,Hn s.nodes.length];rfl
  |false=>
   rw[ht] at ho;simp only[r7,lh] at ho |-
   have o1':(bM (ag c kids s).1).over=false:=bW (putS_rel _ _).over ho;have o1:(ag c kids s).1.over=false:=o1';obtain⟨p0,v0⟩:=h0 o1;have s1:=h.step (hn0 _).toS p0 (t9 _);obtain⟨q1,q2⟩:=s1.slot;rw[q1] at ho |-
   refine⟨(p0.trans (q2.trans (Lw.put q2.over ho))).cast JQ JQ (fun to=>?_),rfl⟩;have e0:(bM (ag c kids s).1).nodes.length=s.nodes.length+sz0 c kids:=p0.len;rw[v0,e0];rfl
theorem lQ(c:aJ):∀(l:List Expr)(s:LowS)(m:Nat),LSt s m->(ag c l s).1.over=false->Lw s (ag c l s).1 (sz0 c l) (sz0 c l) (cM c l s.nodes.length m)/\(ag c l s).2=iy c l m
 |[],s,m,h,ho=>by unfold ag sz0 iy;refine⟨(Lw.refl h.over).cast rfl rfl (fun to=>?_),rfl⟩;unfold cM;rfl
 |e::r,s,m,h,ho=>by have:=yh c e s m h (by unfold ag at ho;exact ho);unfold ag sz0 iy;refine⟨this.1.cast rfl rfl (fun to=>?_),this.2⟩;rw[cM]
theorem yv(c:aJ):∀(l:List Expr)(s:LowS)(m:Nat),LSt s m->(cE c l s).1.over=false->Lw s (cE c l s).1 (sz1 c l) (sz1 c l) (eh c l s.nodes.length m)/\(cE c l s).2=vq c l m
 |[],s,m,h,ho=>by unfold cE sz1 vq;refine⟨(Lw.refl h.over).cast rfl rfl (fun to=>?_),rfl⟩;unfold eh;rfl
 |e::r,s,m,h,ho=>by have:=lQ c r s m h (by unfold cE at ho;exact ho);unfold cE sz1 vq;refine⟨this.1.cast rfl rfl (fun to=>?_),this.2⟩;rw[eh]
end
theorem qr(c:aJ)(name:ByteArray)(v:Val){s:LowS}{m:Nat}(h:LSt s m)(ho:(gM c name v s).over=false):Lw s (gM c name v s) 1 0 fun to=>[iW c name v s.nodes.length to]:=by
 unfold gM at ho |-
 unfold iW;cases hl:decide (localI c.p c.t name>=0) with
 |true=>
  rw[hl] at ho;exact(Lw.put h.over ho).cast rfl rfl fun to=>rfl
 |false=>
  rw[hl] at ho;exact(Lw.put h.over ho).cast rfl rfl fun to=>rfl
theorem yT(c:aJ)(name other:ByteArray)(v:Val){s:LowS}{m:Nat}(h:LSt s m)(ho:(lp c name other v s).over=false):Lw s (lp c name other v s) (bif decide (localI c.p c.t name>=0) then 1 else 2) (bif decide (localI c.p c.t name>=0) then 0 else 1) fun to=>mA c name other v s.nodes.length m to:=by
 unfold lp at ho |-
 unfold mA;cases hl:decide (localI c.p c.t name>=0) with
 |true=>
  rw[hl] at ho;exact(Lw.put h.over ho).cast rfl rfl fun to=>rfl
 |false=>
  rw[hl] at ho;simp only[lh] at ho |-
  obtain⟨q1,q2⟩:=h.slot;rw[q1] at ho |-
  have o1:(putS { nd00 with kind:=4,a:=v,thing:=findI c.p.shared other 0,slot:=(m:Nat) } (bM s)).over=false:=bW (gv c _ _ _).over ho;have p1:=q2.trans (Lw.put q2.over o1);have s1:=h.step ((dx s).trans (putS_rel _ _)).toS p1 JQ;refine(p1.trans (qr c name _ s1 ho)).cast JQ JQ fun to=>?_;rw[p1.len];unfold iW;rw[hl];rfl
theorem DC{s s1 s2 s3 s5:LowS}{n:Nd}{k j kb jb ke je:Nat}{DX DB DE:Nat->List Nd}(h1:Lw s s1 k j DX)(hi1:wi s1)(h2:s2=putS n s1)(h2o:s2.over=false)(h3:Lw s2 s3 kb jb DB)(hi3:wi s3)
  (h5:Lw (cT [(true,s1.nodes.length)] s3) s5 ke je DE) (h5o:s5.over=false) :
  Lw s (cT (s3.opens++s5.opens) s5) (k+(1+(kb+ke))) (j+(jb+je)) fun to=>DX s1.nodes.length++({ n with origin:=(s1.nodes.length:Nat),next:=(goOn kb (s1.nodes.length+1) to:Nat),els:=(goOn ke (s1.nodes.length+1+kb) to:Nat) }::(DB to++DE to)):=by
 subst h2;have hb:=ja h2o;have p2:=dS n hb;have l3:=h3.len;have l5:=h5.len;have l3':(cT [(true,s1.nodes.length)] s3).nodes.length=s3.nodes.length:=rfl;have sl2:(putS n s1).slots=s1.slots:=by rw[aQ n hb]
 have hop2:(putS n s1).opens=[(false,s1.nodes.length)]:=by rw[aQ n hb]
 have hnot:(true,s1.nodes.length)∉s3.opens:=fun q=>by
  rcases h3.opens _ q with⟨_,q⟩|q
  ·rw[hop2] at q;rw[xB] at q;cases q
  ·rw[p2] at q;exact absurd q (by show¬ (s1.nodes.length+1<=s1.nodes.length);omega)
 refine⟨?_,?_,h5o,fun to=>?_,fun o hm=>?_⟩
 ·show s5.nodes.length=_;rw[l5,l3',l3,p2,h1.len];omega
 ·show s5.slots=_;have:(cT [(true,s1.nodes.length)] s3).slots=s3.slots:=rfl;rw[h5.slots,this,h3.slots,sl2,h1.slots];omega
 ·show aK (to:Nat) (s3.opens++s5.opens) s5.nodes=_;rw[yN,nD,h5.lead];show aK (to:Nat) s3.opens (aP (goOn ke s3.nodes.length to:Nat) s3.nodes (true,s1.nodes.length)++DE to)=_;rw[um _ _ _ (fun o ho=>by rw[j6];exact hi3 o ho),oC _ _ _ _ hnot,h3.lead,hop2,p2,l3,p2];show aP _ (aP _ (putS n s1).nodes (false,s1.nodes.length)++DB to) (true,s1.nodes.length)++DE to=_;rw[aQ n hb];show aP _ (aP _ (aK s1.nodes.length s1.opens s1.nodes++[{ n with origin:=(s1.nodes.length:Nat) }]) (false,s1.nodes.length)++DB to) (true,s1.nodes.length)++DE to=_;rw[jT _ _ _ (bw _ _ _).symm,GH,H8,HA,rr _ _ _ (bw _ _ _).symm,h1.lead];have e:goOn k s.nodes.length s1.nodes.length=goOn (k+(1+(kb+ke))) s.nodes.length to:=by
   rw[<-mC,(JQ:1+(kb+ke)=kb+ke+1),fi,h1.len]
  rw[e];simp only[GH,H8]
 ·have hm:o∈s3.opens++s5.opens:=hm;have n1:=h1.len;rcases FK.1 hm with hm|hm
  ·rcases h3.opens o hm with⟨_,hm⟩|hm
   ·rw[hop2,xB] at hm;subst hm;exact .inr (JQ:s.nodes.length<=s1.nodes.length)
   ·exact .inr JQ
  ·rcases h5.opens o hm with⟨_,hm⟩|hm
   ·have hm:o∈[(true,s1.nodes.length)]:=hm;rw[xB] at hm;subst hm;exact .inr (JQ:s.nodes.length<=s1.nodes.length)
   ·exact .inr JQ
theorem CO{s s1 s2 s3:LowS}{n:Nd}{k j kb jb:Nat}{DX DB:Nat->List Nd}(h1:Lw s s1 k j DX)(h2:s2=putS n s1)(h2o:s2.over=false)(h3:Lw s2 s3 kb jb DB):
  Lw s { s3 with nodes:=aK s.nodes.length s3.opens s3.nodes,opens:=[(true,s1.nodes.length)],over:=false } (k+(1+kb)) (j+jb) fun to=>DX s1.nodes.length++({ n with origin:=(s1.nodes.length:Nat),next:=(goOn kb (s1.nodes.length+1) s.nodes.length:Nat),els:=(to:Nat) }::DB s.nodes.length):=by
 subst h2;have hb:=ja h2o;have p2:=dS n hb;have l3:=h3.len;have sl2:(putS n s1).slots=s1.slots:=by rw[aQ n hb]
 have hop2:(putS n s1).opens=[(false,s1.nodes.length)]:=by rw[aQ n hb]
 refine⟨?_,?_,rfl,fun to=>?_,fun o hm=>?_⟩
 ·show(aK _ _ _).length=_;rw[bw,l3,p2,h1.len];omega
 ·show s3.slots=_;rw[h3.slots,sl2,h1.slots];omega
 ·show aP (to:Nat) (aK s.nodes.length s3.opens s3.nodes) (true,s1.nodes.length)=_;rw[h3.lead,hop2,p2];show aP _ (aP _ (putS n s1).nodes (false,s1.nodes.length)++DB s.nodes.length) (true,s1.nodes.length)=_;rw[aQ n hb];show aP _ (aP _ (aK s1.nodes.length s1.opens s1.nodes++[{ n with origin:=(s1.nodes.length:Nat) }]) (false,s1.nodes.length)++DB s.nodes.length) (true,s1.nodes.length)=_;rw[jT _ _ _ (bw _ _ _).symm,GH,H8,HA,rr _ _ _ (bw _ _ _).symm,h1.lead];have e:goOn k s.nodes.length s1.nodes.length=goOn (k+(1+kb)) s.nodes.length to:=by
   rw[<-mC,(JQ:1+kb=kb+1),fi,h1.len]
  rw[e,GH]
 ·have hm:o∈[(true,s1.nodes.length)]:=hm;have n1:=h1.len;rw[xB] at hm;subst hm;exact .inr (JQ:s.nodes.length<=s1.nodes.length)
theorem wB{a b k:Nat}(h:b=a+1+k):a<b:=JQ
mutual
theorem A8(c:aJ):∀x:Stmt,slS c x<=szS c x
 | .mk kind name _ e body els _=>by have h1:=nM c body;have h2:=nM c els;unfold slS szS;cases kind==1<;>cases kind==2<;>cases kind==3<;>cases kind==4<;>cases kind==5<;>cases kind==6<;>cases decide (localI c.p c.t name>=0)<;>simp only[r7,lh]<;>omega
theorem nM(c:aJ):∀l:List Stmt,slB c l<=szB c l
 |[]=>by unfold slB szB;exact t9 _
 |x::r=>by have h1:=A8 c x;have h2:=nM c r;unfold slB szB;omega
end
mutual
theorem Ae(c:aJ):∀(x:Stmt)(s:LowS)(m:Nat),LSt s m->(ku c x s).over=false->Lw s (ku c x s) (szS c x) (slS c x) (gb c x s.nodes.length m)
 | .mk kind name other e body els _,s,m,h,ho=>by
  have h0:=lQ c e s m h;have hn0:=et c e s;have hb:=fun s m=>gh c body s m;have hl:=fun s m=>gh c els s m;have rb:=fun s=>bq c body s;have rl:=fun s=>bq c els s;have lb:=nM c body;unfold ku at ho |-
  unfold szS slS;show Lw _ _ _ _ (fun to=>gb c _ s.nodes.length m to);unfold gb;cases k1:kind==1 with
  |true=>
   rw[k1] at ho;simp only[r7,lh] at ho |-
   obtain⟨p0,v0⟩:=h0 (bW (gv c _ _ _).over ho);have s1:=h.step hn0.toS p0 (t9 _);refine(p0.trans (qr c name _ s1 ho)).cast rfl rfl fun to=>?_;rw[v0,p0.len];rfl
  |false=>
  rw[k1] at ho;cases k2:kind==2 with
  |true=>
   rw[k2] at ho;simp only[r7,lh] at ho |-
   obtain⟨p0,v0⟩:=h0 (bW (nG c _ _ _ _).over ho);have s1:=h.step hn0.toS p0 (t9 _);refine(p0.trans (yT c name other _ s1 ho)).cast rfl rfl fun to=>?_;rw[v0,p0.len];cases decide (localI c.p c.t name>=0)<;>rfl
  |false=>
  rw[k2] at ho;cases k3:kind==3 with
  |true=>
   rw[k3] at ho;simp only[r7,lh] at ho |-
   have o5:=ho;have o3:=bW (rl _).over ho;have o2:=bW (rb _).over o3;have o1:=bW (putS_rel _ _).over o2;obtain⟨p0,v0⟩:=h0 o1;have s1:=h.step hn0.toS p0 (t9 _);have p1:=Lw.put s1.over o2;have s2:=s1.step (putS_rel _ _).toS p1 JQ;have p2:=hb _ _ s2 o3;have s3:=s2.step (rb _) p2 lb;have e1:(fG (ag c e s).1).toNat=(ag c e s).1.nodes.length:=by rw[uV o2,GY]
   have hin:wi (cT [(true,(fG (ag c e s).1).toNat)] (blockS c body (putS { nd00 with kind:=8,a:=(ag c e s).2 } (ag c e s).1))):=fun o hm=>by have hm:o∈[(true,(fG (ag c e s).1).toNat)]:=hm;rw[xB] at hm;subst hm;show(fG (ag c e s).1).toNat<(blockS c body (putS { nd00 with kind:=8,a:=(ag c e s).2 } (ag c e s).1)).nodes.length;rw[e1];exact wB (p2.len.trans (E8 (· + szB c body) p1.len))
   have s3':LSt (cT [(true,(fG (ag c e s).1).toNat)] (blockS c body (putS { nd00 with kind:=8,a:=(ag c e s).2 } (ag c e s).1))) (m+sz0 c e+0+slB c body):=⟨s3.slots,s3.few,hin,s3.cap,s3.over⟩;have p3:=hl _ _ s3' o5;rw[e1] at p3 |-
   refine(DC p0 s1.inn rfl o2 p2 s3.inn p3 ?_).cast rfl rfl fun to=>?_;·have:=o5;rw[e1] at this;exact this
   ·have n3:(cT [(true,(ag c e s).1.nodes.length)] (blockS c body (putS { nd00 with kind:=8,a:=(ag c e s).2 } (ag c e s).1))).nodes.length=s.nodes.length+sz0 c e+1+szB c body:=p2.len.trans (by rw[p1.len,p0.len]);rw[n3,p1.len,p0.len,v0];rfl
  |false=>
  rw[k3] at ho;cases k4:kind==4 with
  |true=>
   rw[k4] at ho;simp only[r7,lh] at ho |-
   have o3:(blockS c body (putS { nd00 with kind:=8,a:=(ag c e s).2 } (ag c e s).1)).over=false:=by
    cases hv:(blockS c body (putS { nd00 with kind:=8,a:=(ag c e s).2 } (ag c e s).1)).over with
    |false=>rfl
    |true=>rw[hv,r7,hv] at ho;cases ho
   have o2:=bW (rb _).over o3;have o1:=bW (putS_rel _ _).over o2;obtain⟨p0,v0⟩:=h0 o1;have s1:=h.step hn0.toS p0 (t9 _);have p1:=Lw.put s1.over o2;have s2:=s1.step (putS_rel _ _).toS p1 JQ;have p2:=hb _ _ s2 o3;have e1:(fG (ag c e s).1).toNat=(ag c e s).1.nodes.length:=by rw[uV o2,GY]
   rw[o3,lh,e1];refine(CO p0 rfl o2 p2).cast rfl rfl fun to=>?_;rw[p1.len,p0.len,v0];rfl
  |false=>
  rw[k4] at ho;cases k5:kind==5 with
  |true=>
   rw[k5] at ho;simp only[r7,lh] at ho |-
   have o2:=bW (putS_rel _ _).over ho;have o1:=bW (rb _).over o2;have p0:=Lw.put h.over o1;have s1:=h.step (putS_rel _ _).toS p0 JQ;have p1:=hb _ _ s1 o2;have s2:=s1.step (rb _) p1 lb;have p2:=Lw.put s2.over ho;refine(p0.trans (p1.trans p2)).cast rfl JQ fun to=>?_;rw[p1.len,p0.len,fi,fi];rfl
  |false=>
  rw[k5] at ho;cases k6:kind==6 with
  |true=>
   rw[k6] at ho;simp only[r7,lh] at ho |-
   obtain⟨p0,v0⟩:=h0 (bW (putS_rel _ _).over ho);have s1:=h.step hn0.toS p0 (t9 _);refine(p0.trans (Lw.put s1.over ho)).cast rfl rfl fun to=>?_;rw[v0,p0.len];rfl
  |false=>exact .refl h.over
theorem gh(c:aJ):∀(l:List Stmt)(s:LowS)(m:Nat),LSt s m->(blockS c l s).over=false->Lw s (blockS c l s) (szB c l) (slB c l) (bH c l s.nodes.length m)
 |[],s,m,h,ho=>by unfold blockS szB slB;refine(Lw.refl h.over).cast rfl rfl fun to=>?_;unfold bH;rfl
 |x::r,s,m,h,ho=>by
  have hx:=Ae c x s m h;have hr:=fun s m=>gh c r s m;unfold blockS at ho |-
  rw[h.over,lh] at ho |-
  have o1:=bW (bq c r _).over ho;have p1:=hx o1;have s1:=h.step (jL c x s h.over) p1 (A8 c x);unfold szB slB;refine(p1.trans (hr _ _ s1 ho)).cast rfl rfl fun to=>?_;rw[p1.len];show _=bH c (x::r) _ _ _;rw[bH]
end
def locN(th:Thread):Nat:=(th.locals.map Decl.cells).length
def ko(p:Prg)(t:Nat)(th:Thread):List Nd:=bH (thrC p t th) th.body 0 (locN th) (szB (thrC p t th) th.body)++[{ nd00 with kind:=9,origin:=(szB (thrC p t th) th.body:Nat) }]
def thrG(p:Prg)(t:Nat)(th:Thread):Gr:=⟨th.name,(locN th:Nat),(locN th+slB (thrC p t th) th.body:Nat),ko p t th⟩
theorem Df(th:Thread)(hl:th.locals.length<=64):LSt (low0 th) (locN th):=⟨rfl,by unfold locN;rw[ad];omega,fun o h=>(by cases h),x5 _,rfl⟩
theorem EJ(p:Prg)(t:Nat)(th:Thread)(hl:th.locals.length<=64)(ho:(endS (blockS (thrC p t th) th.body (low0 th))).over=false):grS (thrC p t th) (endS (blockS (thrC p t th) th.body (low0 th)))=thrG p t th/\szB (thrC p t th) th.body<4096:=by
 have o1:(blockS (thrC p t th) th.body (low0 th)).over=false:=bW (rq _).over ho;have p1:=gh (thrC p t th) th.body (low0 th) (locN th) (Df th hl) o1;have l0:(low0 th).nodes.length=0:=rfl;have l1:(blockS (thrC p t th) th.body (low0 th)).nodes.length=szB (thrC p t th) th.body:=by rw[p1.len,l0,E7]
 have sl:(blockS (thrC p t th) th.body (low0 th)).slots=((locN th+slB (thrC p t th) th.body:Nat):Int):=by rw[p1.slots];show((locN th:Nat):Int)+_=_;omega
 have ld:=p1.lead (szB (thrC p t th) th.body);rw[show aK (goOn (szB (thrC p t th) th.body) (low0 th).nodes.length (szB (thrC p t th) th.body):Nat) (low0 th).opens (low0 th).nodes=[] from rfl,HA,l0] at ld;generalize blockS (thrC p t th) th.body (low0 th)=S at ho o1 l1 sl ld;unfold endS at ho |-
 rw[o1,lh] at ho |-
 have hb:=ja ho;have hlt:=ud hb;refine⟨?_,JQ⟩;rw[aQ _ hb];unfold grS thrG ko;show(⟨_,_,S.slots,cQ (aK S.nodes.length S.opens S.nodes++[_])⟩:Gr)=_;rw[sl,l1,ld];have hz:∀(A:List Nd)(n:Nd),n.next=0->cQ (A++[n])=A++[n]:=fun A n hn=>by
  have e:(A++[n]).length-1=A.length:=by rw[uR];rfl
  unfold cQ;rw[e,show(A++[n])[A.length]?=some n by rw[wS (t9 _),Hm];rfl];show(A++[n]).set A.length { n with next:=0 }=_;rw[Ia _ _ (t9 _),Hm];obtain⟨_,_,_,_,_,_,nx,_,_⟩:=n;simp only at hn;subst hn;rfl
 rw[hz _ _ rfl];rfl
inductive Sk where
 |line (k:Nat)
 |seq (s t:Sk)
 |cond (s t:Sk)
 |loop (k:Nat) (t:Sk)
def Sk.size:Sk->Nat
 | .line k=>k
 | .seq s t=>s.size+t.size
 | .cond s t=>1+(s.size+t.size)
 | .loop k t=>k+(1+t.size)
def brN(x y:Nat):List Nat:=bif y != x then[x,y] else[x]
theorem mem_br{x y z:Nat}:z∈brN x y<->z=x\/z=y:=by
 unfold brN;cases h:y != x with
 |true=>simp
 |false=>
  have:y=x:=by simpa using h
  subst this;simp
def dQ(f:Nat->List Nat):Sk->Nat->Nat->Prop
 | .line k,a,to=>∀i,i<k->f (a+i)=[goOn (k-(i+1)) (a+i+1) to]
 | .seq s t,a,to=>dQ f s a (goOn t.size (a+s.size) to)/\dQ f t (a+s.size) to
 | .cond s t,a,to=>f a=brN (goOn s.size (a+1) to) (goOn t.size (a+1+s.size) to)/\dQ f s (a+1) to/\dQ f t (a+1+s.size) to
 | .loop k t,a,to=>(∀i,i<k->f (a+i)=[a+i+1])/\f (a+k)=brN (goOn t.size (a+k+1) a) to/\dQ f t (a+k+1) a
theorem dW{k a to:Nat}(h:0<k):goOn k a to=a:=by
 cases k with
 |zero=>omega
 |succ n=>rfl
theorem goOn_cases(k a to:Nat):(k=0/\goOn k a to=to)\/(0<k/\goOn k a to=a):=by
 cases k with
 |zero=>exact .inl JY
 |succ n=>exact .inr ⟨Nat.succ_pos _,rfl⟩
structure Whl(f:Nat->List Nat)(sk:Sk):Prop where
 fits:dQ f sk 0 sk.size
 fin:∀x,sk.size<=x->f x=[]
def At(L:List Nd)(a:Nat)(D:List Nd):Prop:=∀i n,D[i]?=some n->L[a+i]?=some n
theorem At.app{L X Y:List Nd}{a k:Nat}(h:At L a (X++Y))(hk:X.length=k):At L a X/\At L (a+k) Y:=by
 subst hk;refine⟨fun i n e=>h i n ?_,fun i n e=>?_⟩;·rw[v9 (a9.1 e).1];exact e
 ·have:=h (X.length+i) n (by rw[wS JQ,Hy];exact e)
  rwa [<-Hn] at this
theorem At.cons{L Y:List Nd}{n:Nd}{a:Nat}(h:At L a (n::Y)):L[a]?=some n/\At L (a+1) Y:=by
 refine⟨h 0 n rfl,fun i n' e=>?_⟩;have:=h (i+1) n' e
 rwa [(JQ:a+(i+1)=a+1+i)] at this
def folN(n:Nd):List Nat:=(folI n).map Int.toNat
def qP(L:List Nd)(x:Nat):List Nat:=match L[x]? with|some n=>folN n|none=>[]
theorem ig{L:List Nd}{x:Nat}{n:Nd}(h:L[x]?=some n):qP L x=folN n:=by unfold qP;rw[h]
theorem folN_one{n:Nd}{to:Nat}(h8:(n.kind==8)=false)(h9:(n.kind==9)=false)(h:n.next=(to:Nat)):folN n=[to]:=by unfold folN folI;rw[h9,h8,h];rfl
theorem mu{n:Nd}{x y:Nat}(h8:n.kind=8)(hx:n.next=(x:Nat))(hy:n.els=(y:Nat)):folN n=brN x y:=by
 unfold folN folI brN;rw[h8,hx,hy];show List.map Int.toNat (bif ((y:Int) != (x:Int)) then[(x:Int),(y:Int)] else[(x:Int)])=_;by_cases q:y=x;·subst q;simp
 ·have e1:((y:Int) != (x:Int))=true:=by simp;omega
  have e2:(y != x)=true:=by simpa using q
  rw[e1,e2];rfl
mutual
theorem vw(c:aJ):∀(e:Expr)(a m to:Nat),(gC c e a m to).length=szE c e
 | .mk kind op _ name kids _,a,m,to=>by have h0:=fun a m to=>aH c kids a m to;have h1:=fun a m to=>jN c kids a m to;unfold gC szE;cases kind==1<;>cases kind==2<;>cases decide (localI c.p c.t name>=0)<;>cases two op<;>simp only[r7,lh,uR,h0,h1,E0,H3]
theorem aH(c:aJ):∀(l:List Expr)(a m to:Nat),(cM c l a m to).length=sz0 c l
 |[],a,m,to=>by unfold cM sz0;rfl
 |e::_,a,m,to=>by unfold cM sz0;exact vw c e a m to
theorem jN(c:aJ):∀(l:List Expr)(a m to:Nat),(eh c l a m to).length=sz1 c l
 |[],a,m,to=>by unfold eh sz1;rfl
 |_::r,a,m,to=>by unfold eh sz1;exact aH c r a m to
end
theorem swapD_len(c:aJ)(name other:ByteArray)(v:Val)(a m to:Nat):(mA c name other v a m to).length=bif decide (localI c.p c.t name>=0) then 1 else 2:=by unfold mA;cases decide (localI c.p c.t name>=0)<;>rfl
mutual
theorem gm(c:aJ):∀(x:Stmt)(a m to:Nat),(gb c x a m to).length=szS c x
 | .mk kind name other e body els _,a,m,to=>by have h0:=fun a m to=>aH c e a m to;have h1:=fun a m to=>aV c body a m to;have h2:=fun a m to=>aV c els a m to;unfold gb szS;cases kind==1<;>cases kind==2<;>cases kind==3<;>cases kind==4<;>cases kind==5<;>cases kind==6<;>simp only[r7,lh,uR,h0,h1,h2,E0,H3,swapD_len]<;>omega
theorem aV(c:aJ):∀(l:List Stmt)(a m to:Nat),(bH c l a m to).length=szB c l
 |[],a,m,to=>by unfold bH szB;rfl
 |x::r,a,m,to=>by unfold bH szB;rw[uR,gm c x,aV c r]
end
theorem iN{f:Nat->List Nat}{k k' a to:Nat}(h:dQ f (.line k) a (a+k))(h':dQ f (.line k') (a+k) to)(hk:0<k'):dQ f (.line (k+k')) a to:=by
 intro i hi;by_cases q:i<k
 ·rw[h i q,dW (k:=k+k'-(i+1)) JQ];rcases goOn_cases (k-(i+1)) (a+i+1) (a+k) with⟨r,r'⟩|⟨r,r'⟩
  ·rw[r'];congr 1;omega
  ·rw[r']
 ·have:=h' (i-k) JQ;rw[(JQ:a+k+(i-k)=a+i),(JQ:k'-(i-k+1)=k+k'-(i+1))] at this;exact this
theorem cA{L:List Nd}{a to:Nat}{n:Nd}(h:L[a]?=some n)(h8:(n.kind==8)=false)(h9:(n.kind==9)=false)(hn:n.next=(to:Nat)):dQ (qP L) (.line 1) a to:=by intro i hi;obtain rfl:i=0:=JQ;show qP L a=[to];rw[ig h,folN_one h8 h9 hn]
theorem eW{f:Nat->List Nat}{a to:Nat}:dQ f (.line 0) a to:=fun i hi=>absurd hi (Hl _)
mutual
theorem CM(c:aJ)(L:List Nd):∀(e:Expr)(a m to:Nat),At L a (gC c e a m to)->dQ (qP L) (.line (szE c e)) a to
 | .mk kind op _ name kids _,a,m,to,h=>by
  have h0:=fun a m to=>lL c L kids a m to;have h1:=fun a m to=>Dr c L kids a m to;unfold gC at h;unfold szE;cases k1:kind==1 with
  |true=>exact eW
  |false=>
  rw[k1] at h;cases k2:kind==2 with
  |true=>
   rw[k2] at h;cases hl:decide (localI c.p c.t name>=0) with
   |true=>exact eW
   |false=>rw[hl] at h;exact cA h.cons.1 rfl rfl rfl
  |false=>
  rw[k2] at h;cases ht:two op with
  |true=>
   rw[ht] at h;simp only[r7,lh] at h |-
   obtain⟨a0,h⟩:=h.app (aH ..);obtain⟨a1,h⟩:=h.app (jN ..);refine iN (h0 _ _ _ a0) (iN ?_ (cA h.cons.1 rfl rfl rfl) JQ) JQ;have:=h1 _ _ _ a1
   rwa [<-Hn] at this
  |false=>
   rw[ht] at h;simp only[r7,lh] at h |-
   obtain⟨a0,h⟩:=h.app (aH ..);exact iN (h0 _ _ _ a0) (cA h.cons.1 rfl rfl rfl) JQ
theorem lL(c:aJ)(L:List Nd):∀(l:List Expr)(a m to:Nat),At L a (cM c l a m to)->dQ (qP L) (.line (sz0 c l)) a to
 |[],a,m,to,h=>by unfold sz0;exact eW
 |e::_,a,m,to,h=>by unfold sz0;unfold cM at h;exact CM c L e a m to h
theorem Dr(c:aJ)(L:List Nd):∀(l:List Expr)(a m to:Nat),At L a (eh c l a m to)->dQ (qP L) (.line (sz1 c l)) a to
 |[],a,m,to,h=>by unfold sz1;exact eW
 |_::r,a,m,to,h=>by unfold sz1;unfold eh at h;exact lL c L r a m to h
end
mutual
def skS(c:aJ):Stmt->Sk
 | .mk kind name _ e body els _=>bif kind==1 then .seq (.line (sz0 c e)) (.line 1)
  else bif kind==2 then .seq (.line (sz0 c e)) (.line (bif decide (localI c.p c.t name>=0) then 1 else 2))
  else bif kind==3 then .seq (.line (sz0 c e)) (.cond (skB c body) (skB c els))
  else bif kind==4 then .loop (sz0 c e) (skB c body)
  else bif kind==5 then .seq (.line 1) (.seq (skB c body) (.line 1))
  else bif kind==6 then .seq (.line (sz0 c e)) (.line 1) else .line 0
def skB(c:aJ):List Stmt->Sk
 |[]=>.line 0
 |x::r=>.seq (skS c x) (skB c r)
end
mutual
theorem qx(c:aJ):∀x:Stmt,(skS c x).size=szS c x
 | .mk kind name _ e body els _=>by have h1:=d4 c body;have h2:=d4 c els;unfold skS szS;cases kind==1<;>cases kind==2<;>cases kind==3<;>cases kind==4<;>cases kind==5<;>cases kind==6<;>simp only[r7,lh,Sk.size,h1,h2]
theorem d4(c:aJ):∀l:List Stmt,(skB c l).size=szB c l
 |[]=>by unfold skB szB;rfl
 |x::r=>by have h1:=qx c x;have h2:=d4 c r;unfold skB szB;simp only[Sk.size,h1,h2]
end
theorem vB{f:Nat->List Nat}{sk:Sk}{a to to':Nat}(h:dQ f sk a to)(e:to=to'):dQ f sk a to':=e ▸ h
mutual
theorem BV(c:aJ)(L:List Nd):∀(x:Stmt)(a m to:Nat),At L a (gb c x a m to)->dQ (qP L) (skS c x) a to
 | .mk kind name other e body els _,a,m,to,h=>by
  have h0:=fun a m to=>lL c L e a m to;have hb:=fun a m to=>iJ c L body a m to;have hl:=fun a m to=>iJ c L els a m to;have z1:=d4 c body;have z2:=d4 c els;unfold gb at h;unfold skS;cases k1:kind==1 with
  |true=>
   rw[k1] at h;simp only[r7,lh] at h |-
   obtain⟨a0,h⟩:=h.app (aH ..);refine⟨h0 _ _ _ a0,cA h.cons.1 ?_ ?_ ?_⟩<;>unfold iW<;>cases decide (localI c.p c.t name>=0)<;>rfl
  |false=>
  rw[k1] at h;cases k2:kind==2 with
  |true=>
   rw[k2] at h;simp only[r7,lh] at h |-
   obtain⟨a0,h⟩:=h.app (aH ..);unfold mA at h;cases hd:decide (localI c.p c.t name>=0) with
   |true=>
    rw[hd] at h;exact⟨h0 _ _ _ a0,cA h.cons.1 rfl rfl rfl⟩
   |false=>
    rw[hd] at h;exact⟨h0 _ _ _ a0,iN (k:=1) (k':=1) (cA h.cons.1 rfl rfl rfl) (cA h.cons.2.cons.1 rfl rfl rfl) JQ⟩
  |false=>
  rw[k2] at h;cases k3:kind==3 with
  |true=>
   rw[k3] at h;simp only[r7,lh] at h |-
   obtain⟨a0,h⟩:=h.app (aH ..);obtain⟨hn,h⟩:=h.cons;obtain⟨a1,a2⟩:=h.app (aV ..);refine⟨vB (h0 _ _ _ a0) (dW (by show 0<1+((skB c body).size+(skB c els).size);omega)).symm,?_,?_,?_⟩
   ·show qP L (a+sz0 c e)=_;rw[z1,z2];exact(ig hn).trans (mu rfl rfl rfl)
   ·exact hb _ _ _ a1
   ·rw[z1];exact hl _ _ _ a2
  |false=>
  rw[k3] at h;cases k4:kind==4 with
  |true=>
   rw[k4] at h;simp only[r7,lh] at h |-
   obtain⟨a0,h⟩:=h.app (aH ..);obtain⟨hn,h⟩:=h.cons;refine⟨fun i hi=>?_,?_,hb _ _ _ h⟩
   ·rw[h0 _ _ _ a0 i hi];rcases goOn_cases (sz0 c e-(i+1)) (a+i+1) (a+sz0 c e) with⟨r,r'⟩|⟨r,r'⟩
    ·rw[r'];congr 1;omega
    ·rw[r']
   ·rw[z1];exact(ig hn).trans (mu rfl rfl rfl)
  |false=>
  rw[k4] at h;cases k5:kind==5 with
  |true=>
   rw[k5] at h;simp only[r7,lh] at h |-
   obtain⟨hn,h⟩:=h.cons;obtain⟨a1,h⟩:=h.app (aV ..);refine⟨?_,vB (hb _ _ _ a1) (by rw[z1];rfl),?_⟩
   ·rw[show goOn (Sk.size (.seq (skB c body) (.line 1))) (a+Sk.size (.line 1)) to=a+1 from dW (by show 0<(skB c body).size+1;omega)];exact cA hn rfl rfl rfl
   ·rw[z1];exact cA h.cons.1 rfl rfl rfl
  |false=>
  rw[k5] at h;cases k6:kind==6 with
  |true=>
   rw[k6] at h;simp only[r7,lh] at h |-
   obtain⟨a0,h⟩:=h.app (aH ..);exact⟨h0 _ _ _ a0,cA h.cons.1 rfl rfl rfl⟩
  |false=>exact eW
theorem iJ(c:aJ)(L:List Nd):∀(l:List Stmt)(a m to:Nat),At L a (bH c l a m to)->dQ (qP L) (skB c l) a to
 |[],a,m,to,h=>by unfold skB;exact eW
 |x::r,a,m,to,h=>by
  have hx:=fun a m to=>BV c L x a m to;have hr:=fun a m to=>iJ c L r a m to;have z1:=qx c x;have z2:=d4 c r;unfold bH at h;unfold skB;obtain⟨a1,a2⟩:=h.app (gm ..);refine⟨?_,?_⟩;·rw[z1,z2];exact hx _ _ _ a1
  ·rw[z1];exact hr _ _ _ a2
end
theorem kj(p:Prg)(t:Nat)(th:Thread):(ko p t th).length=szB (thrC p t th) th.body+1:=by unfold ko;rw[uR,aV];rfl
theorem B8(p:Prg)(t:Nat)(th:Thread):Whl (qP (ko p t th)) (skB (thrC p t th) th.body):=by
 have hs:=d4 (thrC p t th) th.body;have hat:At (ko p t th) 0 (ko p t th):=fun i n e=>by rw[E7];exact e
 refine⟨?_,fun x hx=>?_⟩
 ·rw[hs];exact iJ _ _ _ _ _ _ (hat.app (aV ..)).1
 ·rw[hs] at hx;unfold qP;rcases HD x (szB (thrC p t th) th.body+1) with q|q
  ·obtain rfl:x=szB (thrC p t th) th.body:=JQ;have:=(hat.app (aV ..)).2.cons.1;rw[E7] at this;rw[this];rfl
  ·rw[yB (by rw[kj];exact q)]
def hasD(l:List Decl)(n:ByteArray):Bool:=l.any fun d=>seq d.name n
def hasT(l:List Thread)(n:ByteArray):Bool:=l.any fun d=>seq d.name n
theorem seq_comm(a b:ByteArray):seq a b=seq b a:=by unfold seq;rw[Ic];simp only[HH];exact⟨Eq.symm,Eq.symm⟩
theorem a7:∀(l:List Decl)(n:ByteArray)(k:Nat),decide (findI l n k>=0)=hasD l n
 |[],n,k=>rfl
 |d::l,n,k=>by
  unfold findI hasD;rw[IG];by_cases h:seq d.name n=true
  ·rw[Gw h,h,HJ];exact GC (HF k)
  ·rw[GN h];have:=a7 l n (k+1);rw[this];have h:seq d.name n=false:=by simpa using h
   rw[h,GU];rfl
theorem fJ:∀(l:List Thread)(n:ByteArray)(k:Nat),decide (threadI l n k>=0)=hasT l n
 |[],n,k=>rfl
 |d::l,n,k=>by
  unfold threadI hasT;rw[IG];by_cases h:seq d.name n=true
  ·rw[Gw h,h,HJ];exact GC (HF k)
  ·rw[GN h];have:=fJ l n (k+1);rw[this];have h:seq d.name n=false:=by simpa using h
   rw[h,GU];rfl
theorem gS:∀(l:List Thread)(n:ByteArray)(k i:Nat)(t:Thread),l[i]?=some t->seq t.name n=true->decide (threadI l n k<(k+i:Nat))=hasT (l.take i) n
 |[],n,k,i,t,h,_=>by simp at h
 |d::l,n,k,0,t,h,hn=>by simp at h;subst h;unfold threadI;rw[Gw hn];simp[hasT]
 |d::l,n,k,i+1,t,h,hn=>by
  unfold threadI;rw[IA];unfold hasT;rw[IG];by_cases hd:seq d.name n=true
  ·rw[Gw hd,hd,HJ];exact GC JQ
  ·rw[GN hd];have hd:seq d.name n=false:=by simpa using hd
   rw[hd,GU];have:=gS l n (k+1) i t (by simpa using h) hn;rw[(JQ:k+1+i=k+(i+1))] at this;exact this
theorem kc(a b:ByteArray):MK.same (.ks a) (.ks b)=seq a b:=rfl
def txt(M:MI):Prop:=∀p∈M,∃a,p.1=.ks a
theorem og(k q:MK):MK.same k q=MK.same q k:=by cases k<;>cases q<;>first|rfl|exact seq_comm _ _|(unfold MK.same;rw[Ic];simp only[HH,t4];first|exact⟨Eq.symm,Eq.symm⟩|exact⟨fun h=>⟨h.1.symm,h.2.symm⟩,fun h=>⟨h.1.symm,h.2.symm⟩⟩)
theorem dq(k:MK)(v:Int)(r:MI)(q:MK):mgetI ((k,v)::r) q=bif MK.same k q then v else mgetI r q:=by rw[og];rfl
theorem rj(k:MK)(v:Int)(r:MI)(q:MK)(x:Int):ce ((k,v)::r) q x=bif MK.same k q then(q,x)::r else(k,v)::ce r q x:=by rw[og];rfl
theorem Co(q:MK)(x:Int):ce [] q x=[(q,x)]:=by rw[ce]
theorem pP:∀(M:MI)(a b:ByteArray)(x:Int),txt M->mgetI (ce M (.ks a) x) (.ks b)=bif seq a b then x else mgetI M (.ks b)
 |[],a,b,x,_=>by rw[Co,dq,kc]
 |(k,v)::M,a,b,x,h=>by
  obtain⟨c,hc⟩:=h (k,v) JX;simp only at hc;subst hc;have ih:=pP M a b x (fun p hp=>h p (by simp[hp]));rw[rj,dq,kc,kc];cases hca:seq c a with
  |true=>
   rw[r7,dq,kc];cases hab:seq a b with
   |true=>rfl
   |false=>
    have hcb:seq c b=false:=by
     unfold seq at *
     have:c.toList=a.toList:=by simpa using hca
     rw[this];exact hab
    rw[hcb];rfl
  |false=>
   rw[lh,dq,kc,ih];cases hab:seq a b with
   |true=>
    have hcb:seq c b=false:=by
     unfold seq at *
     have:a.toList=b.toList:=by simpa using hab
     rw[<-this];exact hca
    rw[hcb];rfl
   |false=>rfl
theorem pe:∀(M:MI)(a:ByteArray)(x:Int),txt M->txt (ce M (.ks a) x)
 |[],a,x,_=>fun p hp=>by
  have:p=(.ks a,x):=by simpa[ce] using hp
  exact⟨a,by rw[this]⟩
 |(k,v)::M,a,x,h=>by
  intro p hp;rw[rj] at hp;cases hs:MK.same k (.ks a) with
  |true=>
   rw[hs] at hp;rcases F5.1 hp with rfl|hp
   ·exact⟨a,rfl⟩
   ·exact h p (by simp[hp])
  |false=>
   rw[hs] at hp;rcases F5.1 hp with rfl|hp
   ·exact h _ JX
   ·exact pe M a x (fun p hp=>h p (by simp[hp])) p hp
structure Is1(M:MI)(f:ByteArray->Bool):Prop where
 txt:txt M
 get:∀n,mgetI M (.ks n)=bif f n then 1 else 0
theorem Is1.put{M:MI}{f:ByteArray->Bool}(h:Is1 M f)(a:ByteArray):Is1 (ce M (.ks a) 1) fun n=>f n||seq a n:=by refine⟨pe M a 1 h.txt,fun n=>?_⟩;rw[pP M a n 1 h.txt,h.get];cases seq a n<;>cases f n<;>rfl
theorem Is1.ones{M:MI}{f:ByteArray->Bool}(h:Is1 M f):∀(l:List Decl),Is1 (ones M l) fun n=>f n||hasD l n
 |[]=>⟨h.txt,fun n=>by rw[show(am.ones M [])=M from rfl,h.get];simp[hasD]⟩
 |d::l=>by have:=(h.put d.name).ones l;refine⟨this.txt,fun n=>?_⟩;rw[show am.ones M (d::l)=am.ones (ce M (.ks d.name) 1) l from rfl,this.get];simp only[hasD,IG,Jx]
theorem Is1.pos{M:MI}{f:ByteArray->Bool}(h:Is1 M f)(n:ByteArray):decide (mgetI M (.ks n) > 0)=f n:=by rw[h.get];cases f n<;>rfl
theorem wG(a b c d:Bool):leastW [whenI 1 a,whenI 2 b,whenI 3 c,whenI 4 d] 0=bif a then 1 else bif b then 2 else bif c then 3 else bif d then 4 else 0:=by cases a<;>cases b<;>cases c<;>cases d<;>rfl
theorem EO(a b c:Bool):leastW [whenI 1 a,whenI 2 b,whenI 3 c] 0=bif a then 1 else bif b then 2 else bif c then 3 else 0:=by cases a<;>cases b<;>cases c<;>rfl
def Ag(o:Option Flt)(f:Flt):Prop:=match o with
 |some g=>f=g/\g.rule≠0
 |none=>f=⟨0,0⟩
theorem Ag.rule{o:Option Flt}{f:Flt}(h:Ag o f):(f.rule != 0)=o.isSome:=by
 cases o with
 |none=>have h:f=⟨0,0⟩:=h;rw[h];rfl
 |some g=>obtain⟨rfl,h⟩:=h;simpa using h
theorem Bk(a b c d:Bool):decide ((bif a then(1:Int) else bif b then 2 else bif c then 3 else bif d then 4 else 0) > 0)=((bif a then(1:Int) else bif b then 2 else bif c then 3 else bif d then 4 else 0) != 0):=by cases a<;>cases b<;>cases c<;>cases d<;>rfl
theorem pW(p:Prg)(kind:Int)(most:Nat)(bad:Int->Bool)(hbad:∀w,bad w=wordI kind w)(rest:ByteArray->Bool)(hrest:∀pre name,twiceB p kind pre name=(rest name||hasD pre name)):
  ∀(l:List Decl)(i:Nat)(M:MI)(pre:List Decl),pre.length=i->i<=most->Is1 M (fun n=>rest n||hasD pre n)->Ag (topsW most bad l i M) (declsF p kind most pre l)
 |[],i,M,pre,_,_,_=>by unfold topsW declsF;rfl
 |d::l,i,M,pre,hp,hi,hM=>by
  have hlen:((pre.length:Int):Int)=i:=by rw[hp]
  have h3:((i:Int)==(most:Int))=decide ((i:Int)>=most):=by rw[Ic];simp only[HH,GR];omega
  have hL:leastW (topRules M most bad i d) 0=declI p kind pre d pre.length most:=by unfold topRules;rw[wG,hM.pos,h3,hbad];unfold declI;rw[hrest,hlen]
  unfold topsW declsF;rw[hL];have hpn:decide (declI p kind pre d pre.length most > 0)=(declI p kind pre d pre.length most != 0):=Bk ..;rw[hpn];cases hc:declI p kind pre d pre.length most != 0 with
  |true=>exact⟨rfl,by simpa using hc⟩
  |false=>
   show Ag (topsW most bad l (i+1) (ce M (.ks d.name) 1)) (declsF p kind most (pre++[d]) l);have hlt:¬ (i:Int)>=most:=by intro h;have hh:decide ((i:Int)>=most)=true:=GC h;unfold declI at hc;rw[hlen,hh] at hc;revert hc;cases nameB d.name<;>cases twiceB p kind pre d.name<;>intro hc<;>simp at hc
   refine pW p kind most bad hbad rest hrest l (i+1) _ (pre++[d]) (by simp[hp]) JQ ?_;have:=hM.put d.name;refine⟨this.txt,fun n=>?_⟩;rw[this.get];simp[hasD,Jx]
theorem vW(p:Prg)(above:MI)(hA:Is1 above fun n=>hasD p.shared n||hasD p.locks n):
  ∀(l:List Decl)(i:Nat)(M:MI)(pre:List Decl),pre.length=i->i<=64->Is1 M (hasD pre)->Ag (localsW above l i M) (declsF p 2 64 pre l)
 |[],i,M,pre,_,_,_=>by unfold localsW declsF;rfl
 |d::l,i,M,pre,hp,hi,hM=>by
  have hlen:((pre.length:Int):Int)=i:=by rw[hp]
  have h3:((i:Int)==64)=decide ((i:Int)>=64):=by rw[Ic];simp only[HH,GR];omega
  have h2:decide (IntKind.i64.wrap (mgetI M (.ks d.name)+mgetI above (.ks d.name)) > 0)=twiceB p 2 pre d.name:=by unfold twiceB;rw[a7,a7,a7,hM.get,hA.get];cases hasD pre d.name<;>cases hasD p.shared d.name<;>cases hasD p.locks d.name<;>rfl
  have h4:(d.word != 0)=wordI 2 d.word:=rfl;have hL:leastW (localRules above M i d) 0=declI p 2 pre d pre.length 64:=by unfold localRules;rw[wG,h2,h3,h4];unfold declI;rw[hlen]
  unfold localsW declsF;rw[hL];have hpn:decide (declI p 2 pre d pre.length 64 > 0)=(declI p 2 pre d pre.length 64 != 0):=Bk ..;rw[hpn];cases hc:declI p 2 pre d pre.length 64 != 0 with
  |true=>exact⟨rfl,by simpa using hc⟩
  |false=>
   show Ag (localsW above l (i+1) (ce M (.ks d.name) 1)) (declsF p 2 64 (pre++[d]) l);have hlt:¬ (i:Int)>=64:=by intro h;have hh:decide ((i:Int)>=64)=true:=GC h;unfold declI at hc;rw[hlen,hh] at hc;revert hc;cases nameB d.name<;>cases twiceB p 2 pre d.name<;>intro hc<;>simp at hc
   refine vW p above hA l (i+1) _ (pre++[d]) (by simp[hp]) JQ ?_;have:=hM.put d.name;refine⟨this.txt,fun n=>?_⟩;rw[this.get];simp[hasD]
structure fx(M:MI)(f:ByteArray->Int):Prop where
 txt:txt M
 get:∀n,mgetI M (.ks n)=f n
theorem fx.put{M:MI}{f:ByteArray->Int}(h:fx M f)(a:ByteArray)(s:Int):fx (d9 M a s) fun n=>bif seq a n&&f n==0 then s else f n:=by
 unfold d9;cases hc:mgetI M (.ks a)==0 with
 |true=>
  refine⟨pe M a s h.txt,fun n=>?_⟩;show mgetI (ce M (.ks a) s) (.ks n)=_;rw[pP M a n s h.txt,h.get];cases hs:seq a n with
  |false=>rfl
  |true=>
   have:f n=f a:=by
    rw[<-h.get n,<-h.get a];have key:∀M:MI,mgetI M (.ks n)=mgetI M (.ks a):=by
     intro M;induction M with
     |nil=>rfl
     |cons p M ih=>
      obtain⟨k,v⟩:=p;rw[dq,dq,ih];have:MK.same k (.ks n)=MK.same k (.ks a):=by
       cases k with
       |ks c=>show seq c n=seq c a;unfold seq at *;rw[show a.toList=n.toList by simpa using hs]
       |_=>rfl
      rw[this]
    exact key M
   rw[<-h.get a,] at this;rw[this,hc];rfl
 |false=>
  refine⟨h.txt,fun n=>?_⟩;show mgetI M (.ks n)=_;rw[h.get];cases hs:seq a n with
  |false=>rfl
  |true=>
   have:f n=f a:=by
    rw[<-h.get n,<-h.get a];have key:∀M:MI,mgetI M (.ks n)=mgetI M (.ks a):=by
     intro M;induction M with
     |nil=>rfl
     |cons p M ih=>
      obtain⟨k,v⟩:=p;rw[dq,dq,ih];have:MK.same k (.ks n)=MK.same k (.ks a):=by
       cases k with
       |ks c=>show seq c n=seq c a;unfold seq at *;rw[show a.toList=n.toList by simpa using hs]
       |_=>rfl
      rw[this]
    exact key M
   rw[h.get a,<-this] at hc;rw[hc];rfl
theorem fx.putAll{s:Int}(hs:s≠0):∀(l:List Decl){M:MI}{f:ByteArray->Int},fx M f->fx (putAll M l s) fun n=>bif hasD l n&&f n==0 then s else f n
 |[],M,f,h=>⟨h.txt,fun n=>h.get n⟩
 |d::l,M,f,h=>by
  have:=fx.putAll hs l (h.put d.name s);refine⟨this.txt,fun n=>?_⟩;rw[show am.putAll M (d::l) s=am.putAll (d9 M d.name s) l s from rfl,this.get];show(bif hasD l n&&(bif seq d.name n&&f n==0 then s else f n)==0 then s else(bif seq d.name n&&f n==0 then s else f n))=bif (seq d.name n||hasD l n)&&f n==0 then s else f n;have hs':(s==0)=false:=by simpa using hs
  cases seq d.name n<;>cases hasD l n<;>cases hf:f n==0<;>simp[hf,hs']
theorem fx.putThs:∀(l:List Thread){M:MI}{f:ByteArray->Int},fx M f->fx (putThs M l) fun n=>bif hasT l n&&f n==0 then 3 else f n
 |[],M,f,h=>⟨h.txt,fun n=>h.get n⟩
 |d::l,M,f,h=>by have:=fx.putThs l (h.put d.name 3);refine⟨this.txt,fun n=>?_⟩;rw[show am.putThs M (d::l)=am.putThs (d9 M d.name 3) l from rfl,this.get];show(bif hasT l n&&(bif seq d.name n&&f n==0 then 3 else f n)==0 then 3 else(bif seq d.name n&&f n==0 then 3 else f n))=bif (seq d.name n||hasT l n)&&f n==0 then 3 else f n;cases seq d.name n<;>cases hasT l n<;>cases hf:f n==0<;>simp[hf]
def yt(p:Prg)(n:ByteArray):Int:=bif hasD p.shared n then 1 else bif hasD p.locks n then 2 else bif hasT p.threads n then 3 else 0
theorem AJ(p:Prg):fx (topOf p) (yt p):=by have h0:fx [] fun _=>0:=⟨fun p hp=>by simp at hp,fun n=>rfl⟩;have:=fx.putThs p.threads (fx.putAll (s:=2) JS p.locks (fx.putAll (s:=1) JS p.shared h0));refine⟨this.txt,fun n=>(this.get n).trans ?_⟩;unfold yt;cases hasD p.shared n<;>cases hasD p.locks n<;>cases hasT p.threads n<;>rfl
def R056(v:Int):Prop:=v=0\/v=5\/v=6
theorem BM(a d:Bool){v:Int}(hv:R056 v):leastW [whenI 4 a,v,whenI 7 d] 0=bif a then 4 else(bif (v==0)&&d then 7 else v):=by rcases hv with rfl|rfl|rfl<;>cases a<;>cases d<;>rfl
theorem y5(a d:Bool):leastW [whenI 4 a,whenI 7 d] 0=bif a then 4 else(bif ((0:Int)==0)&&d then 7 else 0):=by cases a<;>cases d<;>rfl
theorem qY(a d:Bool){v:Int}(hv:R056 v):leastW [whenI 4 a,whenI 7 d,v] 0=bif a then 4 else(bif (v==0)&&d then 7 else v):=by rcases hv with rfl|rfl|rfl<;>cases a<;>cases d<;>rfl
theorem yY(a d:Bool){v u:Int}(hv:R056 v)(hu:R056 u):leastW [whenI 4 a,whenI 7 d,v,u] 0=bif a then 4 else(bif (leastI v u==0)&&d then 7 else leastI v u):=by rcases hv with rfl|rfl|rfl<;>rcases hu with rfl|rfl|rfl<;>cases a<;>cases d<;>rfl
theorem ss{v u:Int}(hv:R056 v)(hu:R056 u):R056 (leastI v u):=by rcases hv with rfl|rfl|rfl<;>rcases hu with rfl|rfl|rfl<;>simp[R056,leastI]
theorem AT(a d:Bool){v:Int}(hv:R056 v):decide ((bif a then(4:Int) else(bif (v==0)&&d then 7 else v)) > 0)=((bif a then(4:Int) else(bif (v==0)&&d then 7 else v)) != 0):=by rcases hv with rfl|rfl|rfl<;>cases a<;>cases d<;>rfl
section
variable {p:Prg} {i:Nat} {th:Thread} {M:MI}
theorem nj(hi:p.threads[i]?=some th)(n:ByteArray):decide (localI p i n>=0)=hasD th.locals n:=by unfold localI;rw[GN JQ,(JQ:(i:Int).toNat=i),hi];exact a7 ..
theorem jy(p:Prg)(i:Int)(n:ByteArray)(b:Bool):R056 (variableI p i n b):=by unfold variableI;cases decide (localI p i n>=0)<;>cases decide (findI p.shared n 0>=0)<;>cases (decide (findI p.locks n 0>=0)||decide (threadI p.threads n 0>=0))<;>cases b<;>simp[R056]
theorem wo(p:Prg)(i:Int)(n:ByteArray):R056 (pO p i n):=by unfold pO;cases decide (localI p i n>=0)<;>cases decide (findI p.locks n 0>=0)<;>cases (decide (findI p.shared n 0>=0)||decide (threadI p.threads n 0>=0))<;>simp[R056]
theorem xh(hi:p.threads[i]?=some th)(hM:Is1 M (hasD th.locals))(n:ByteArray)(b:Bool):bg (topOf p) M n b=variableI p i n b:=by unfold bg variableI;rw[hM.pos,nj hi,a7,a7,fJ,(AJ p).get];unfold yt;cases hasD th.locals n<;>cases hasD p.shared n<;>cases hasD p.locks n<;>cases hasT p.threads n<;>cases b<;>rfl
theorem CI(hi:p.threads[i]?=some th)(hM:Is1 M (hasD th.locals))(hLS:∀n,hasD p.locks n=true->hasD p.shared n=false)(n:ByteArray):ir (topOf p) M n=pO p i n:=by unfold ir pO;rw[hM.pos,nj hi,a7,a7,fJ,(AJ p).get,hM.get];unfold yt;have:=hLS n;revert this;cases hasD th.locals n<;>cases hasD p.shared n<;>cases hasD p.locks n<;>cases hasT p.threads n<;>intro this<;>first|rfl|(exact absurd (this rfl) JS)
mutual
theorem Dd(hi:p.threads[i]?=some th)(hM:Is1 M (hasD th.locals)):∀(e:Expr)(deep:Int),Ag (exprW (topOf p) M e deep) (rR p i e deep)
 | .mk kind op word name kids at_,deep=>by
  have ih:=lC hi hM kids (deep+1);have hv:R056 (bif kind==2 then variableI p i name false else 0):=by
   cases kind==2;·exact .inl rfl
   ·exact jy ..
  have hL:leastW (exprRules (topOf p) M kind op word name kids at_ deep) 0=bif !partsB (.mk kind op word name kids at_) then 4 else deepI (bif kind==2 then variableI p i name false else 0) deep:=by unfold exprRules;rw[xh hi hM];exact BM _ _ hv
  unfold exprW rR;rw[hL];have hp:decide ((bif !partsB (.mk kind op word name kids at_) then 4 else deepI (bif kind==2 then variableI p i name false else 0) deep) > 0)=((bif !partsB (.mk kind op word name kids at_) then 4 else deepI (bif kind==2 then variableI p i name false else 0) deep) != 0):=AT _ _ hv;rw[hp];cases !partsB (.mk kind op word name kids at_) with
  |true=>exact⟨rfl,(JS:(4:Int)≠0)⟩
  |false=>
   simp only[lh];cases hd:deepI (bif kind==2 then variableI p i name false else 0) deep != 0 with
   |true=>exact⟨rfl,by simpa using hd⟩
   |false=>exact ih
theorem lC(hi:p.threads[i]?=some th)(hM:Is1 M (hasD th.locals)):∀(l:List Expr)(deep:Int),Ag (exprsW (topOf p) M l deep) (gi p i l deep)
 |[],deep=>by unfold exprsW gi;rfl
 |e::l,deep=>by
  have h1:=Dd hi hM e deep;have h2:=lC hi hM l deep;unfold exprsW gi;rw[h1.rule];cases he:exprW (topOf p) M e deep with
  |some f=>rw[he] at h1;exact h1
  |none=>exact h2
end
mutual
theorem CH(hi:p.threads[i]?=some th)(hM:Is1 M (hasD th.locals))(hLS:∀n,hasD p.locks n=true->hasD p.shared n=false):∀(s:Stmt)(deep:Int),Ag (stmtW (topOf p) M s deep) (rZ p i s deep)
 | .mk kind name other e body els at_,deep=>by
  have h1:=lC hi hM e 1;have h2:=iM hi hM hLS body (deep+1);have h3:=iM hi hM hLS els (deep+1);have hv:R056 (namesI p i kind name other):=by
   unfold namesI;cases kind==1 with
   |true=>exact jy ..
   |false=>
    simp only[lh];cases kind==2 with
    |true=>exact ss (jy ..) (jy ..)
    |false=>
     simp only[lh];cases kind==5 with
     |true=>exact wo ..
     |false=>exact .inl rfl
  have hL:leastW (stmtRules (topOf p) M kind name other e body els at_ deep) 0=bif !fieldsB (.mk kind name other e body els at_) then 4 else deepI (namesI p i kind name other) deep:=by
   unfold stmtRules namesI;rw[xh hi hM,xh hi hM,CI hi hM hLS];cases kind==1 with
   |true=>exact qY _ _ (jy ..)
   |false=>
    simp only[lh];cases kind==2 with
    |true=>exact yY _ _ (jy ..) (jy ..)
    |false=>
     simp only[lh];cases kind==5 with
     |true=>exact qY _ _ (wo ..)
     |false=>exact y5 _ _
  unfold stmtW rZ;rw[hL];have hp:decide ((bif !fieldsB (.mk kind name other e body els at_) then 4 else deepI (namesI p i kind name other) deep) > 0)=((bif !fieldsB (.mk kind name other e body els at_) then 4 else deepI (namesI p i kind name other) deep) != 0):=AT _ _ hv;rw[hp];cases !fieldsB (.mk kind name other e body els at_) with
  |true=>exact⟨rfl,(JS:(4:Int)≠0)⟩
  |false=>
   simp only[lh];cases hd:deepI (namesI p i kind name other) deep != 0 with
   |true=>exact⟨rfl,by simpa using hd⟩
   |false=>
    simp only[lh];rw[h1.rule,h2.rule];cases he:exprsW (topOf p) M e 1 with
    |some f=>rw[he] at h1;exact h1
    |none=>
     cases hb:blockW (topOf p) M body (deep+1) with
     |some f=>rw[hb] at h2;exact h2
     |none=>exact h3
theorem iM(hi:p.threads[i]?=some th)(hM:Is1 M (hasD th.locals))(hLS:∀n,hasD p.locks n=true->hasD p.shared n=false):∀(l:List Stmt)(deep:Int),Ag (blockW (topOf p) M l deep) (c7 p i l deep)
 |[],deep=>by unfold blockW c7;rfl
 |s::l,deep=>by
  have h1:=CH hi hM hLS s deep;have h2:=iM hi hM hLS l deep;unfold blockW c7;rw[h1.rule];cases he:stmtW (topOf p) M s deep with
  |some f=>rw[he] at h1;exact h1
  |none=>exact h2
end
end
theorem gW:Is1 [] (hasD []):=⟨fun p hp=>by simp at hp,fun n=>rfl⟩
theorem zm(p:Prg):Is1 (aboveM p) fun n=>hasD p.shared n||hasD p.locks n:=by have:=(gW.ones p.shared).ones p.locks;refine⟨this.txt,fun n=>?_⟩;rw[show aboveM p=ones (ones [] p.shared) p.locks from rfl,this.get];simp[hasD]
theorem A2(p:Prg)(hLS:∀n,hasD p.locks n=true->hasD p.shared n=false):∀(l:List Thread)(i:Nat)(M:MI),l=p.threads.drop i->i<=8->Is1 M (fun n=>hasD p.shared n||hasD p.locks n||hasT (p.threads.take i) n)->Ag (ph p (topOf p) l i M) (threadsF p i l ⟨0,0⟩)
 |[],i,M,_,_,_=>by unfold ph threadsF;rfl
 |t::l,i,M,hl,hi8,hM=>by
  have hlt:i<p.threads.length:=by
   rcases HD i p.threads.length with h|h
   ·exact h
   ·rw[Hg h] at hl;cases hl
  have hi:p.threads[i]?=some t:=by have:=E8 List.head? hl;rw[List.head?_cons,List.head?_drop] at this;exact this.symm
  have hl':l=p.threads.drop (i+1):=by have:=E8 List.tail hl;rw[List.tail_cons,List.tail_drop] at this;exact this
  have h3:((i:Int)==8)=decide ((i:Int)>=8):=by rw[Ic];simp only[HH,GR];omega
  have hd:decide (threadI p.threads t.name 0<i)=hasT (p.threads.take i) t.name:=by have:=gS p.threads t.name 0 i t hi (by unfold seq;simp);rw[E7] at this;exact this
  have h2:(decide (findI p.shared t.name 0>=0)||decide (findI p.locks t.name 0>=0)||decide (threadI p.threads t.name 0<i))=decide (mgetI M (.ks t.name) > 0):=by rw[hM.pos,a7,a7,hd]
  have hlo:=vW p (aboveM p) (zm p) t.locals 0 [] [] rfl JQ gW;have hM1:Is1 (ones [] t.locals) (hasD t.locals):=by have:=gW.ones t.locals;refine⟨this.txt,fun n=>?_⟩;rw[this.get];simp[hasD]
  have hbl:=iM hi hM1 hLS t.body 1;unfold ph threadsF thRules;rw[EO,h2,h3];cases hn:!nameB t.name with
  |true=>exact⟨rfl,(JS:(1:Int)≠0)⟩
  |false=>
  cases hs:decide (mgetI M (.ks t.name) > 0) with
  |true=>exact⟨rfl,(JS:(2:Int)≠0)⟩
  |false=>
  cases h8:decide ((i:Int)>=8) with
  |true=>exact⟨rfl,(JS:(3:Int)≠0)⟩
  |false=>
  have h8:=ud h8;show Ag (match threadW p (topOf p) t with|some f=>some f|none=>ph p (topOf p) l (i+1) (ce M (.ks t.name) 1)) (threadsF p (i+1) l (bif (declsF p 2 64 [] t.locals).rule==0 then c7 p i t.body 1 else declsF p 2 64 [] t.locals));have hth:Ag (threadW p (topOf p) t) (bif (declsF p 2 64 [] t.locals).rule==0 then c7 p i t.body 1 else declsF p 2 64 [] t.locals):=by
   unfold threadW;have hr:=hlo.rule;cases ho:localsW (aboveM p) t.locals 0 [] with
   |some f=>
    rw[ho] at hlo hr;have:((declsF p 2 64 [] t.locals).rule==0)=false:=by simpa using hr
    rw[this];exact hlo
   |none=>
    rw[ho] at hr;have:((declsF p 2 64 [] t.locals).rule==0)=true:=by simpa using hr
    rw[this];exact hbl
  have ih:=A2 p hLS l (i+1) (ce M (.ks t.name) 1) hl' JQ (by have:=hM.put t.name;refine⟨this.txt,fun n=>?_⟩;rw[this.get,aN hi];simp[hasT,Jx])
  generalize (bif (declsF p 2 64 [] t.locals).rule==0 then c7 p i t.body 1 else declsF p 2 64 [] t.locals)=f at *
  cases ho:threadW p (topOf p) t with
  |some g=>
   rw[ho] at hth;obtain⟨rfl,hg⟩:=hth;have key:∀(l:List Thread)(i:Nat),threadsF p i l f=f:=by
    intro l;cases l with
    |nil=>intro i;unfold threadsF;rfl
    |cons t l=>intro i;unfold threadsF;rw[show(f.rule != 0)=true by simpa using hg];rfl
   rw[key];exact⟨rfl,hg⟩
  |none=>
   rw[ho] at hth;have hth:f=⟨0,0⟩:=hth;rw[hth];exact ih
theorem zA(p:Prg):Ag (firstW p) (firstF p):=by
 have h1:=pW p 0 64 minW (fun w=>by unfold minW wordI;cases (w == -9223372036854775808)<;>rfl) (fun _=>false) (fun pre name=>by unfold twiceB;rw[a7];simp) p.shared 0 [] [] rfl JQ ⟨fun p hp=>by simp at hp,fun n=>rfl⟩;have h2:=pW p 1 16 anyW (fun w=>by unfold anyW wordI;rfl) (fun n=>hasD p.shared n) (fun pre name=>by unfold twiceB;rw[a7,a7];simp[Bool.or_comm]) p.locks 0 (ones [] p.shared) [] rfl JQ (by have:=gW.ones p.shared;refine⟨this.txt,fun n=>?_⟩;rw[this.get];simp[hasD])
 unfold firstW firstF;have r1:=h1.rule;cases ho:topsW 64 minW p.shared 0 [] with
 |some f=>
  rw[show((64:Nat):Int)=64 from rfl,ho] at h1 r1;have:((declsF p 0 64 [] p.shared).rule==0)=false:=by simpa using r1
  rw[this];obtain⟨h1,hf⟩:=h1;have h1:declsF p 0 64 [] p.shared=f:=h1;rw[lh,h1];refine⟨?_,hf⟩;cases p.threads with
  |nil=>unfold threadsF;rfl
  |cons t l=>unfold threadsF;rw[show(f.rule != 0)=true by simpa using hf];rfl
 |none=>
  rw[show((64:Nat):Int)=64 from rfl,ho] at h1 r1;have:((declsF p 0 64 [] p.shared).rule==0)=true:=by simpa using r1
  rw[this,r7];have r2:=h2.rule;cases ho2:topsW 16 anyW p.locks 0 (ones [] p.shared) with
  |some f=>
   rw[show((16:Nat):Int)=16 from rfl,ho2] at h2;obtain⟨h2,hf⟩:=h2;have h2:declsF p 1 16 [] p.locks=f:=h2;rw[h2];refine⟨?_,hf⟩;cases p.threads with
   |nil=>unfold threadsF;rfl
   |cons t l=>unfold threadsF;rw[show(f.rule != 0)=true by simpa using hf];rfl
  |none=>
   rw[show((16:Nat):Int)=16 from rfl,ho2] at h2;have h2:declsF p 1 16 [] p.locks=⟨0,0⟩:=h2;rw[h2];refine A2 p ?_ p.threads 0 _ (by rw[List.drop_zero]) JQ ?_
   ·
    have key:∀(l:List Decl)(i:Nat)(M:MI)(pre:List Decl),Is1 M (fun n=>hasD p.shared n||hasD pre n)->topsW 16 anyW l i M=none->∀d∈l,hasD p.shared d.name=false:=by
     intro l;induction l with
     |nil=>intro i M pre _ _ d hd;simp at hd
     |cons x l ih=>
      intro i M pre hM h d hd;have hL:leastW (topRules M 16 anyW i x) 0=bif !nameB x.name then 1 else bif (hasD p.shared x.name||hasD pre x.name) then 2 else bif ((i:Int)==16) then 3 else bif anyW x.word then 4 else 0:=by unfold topRules;rw[wG,hM.pos]
      unfold topsW at h;cases hb:decide (leastW (topRules M 16 anyW i x) 0 > 0) with
      |true=>rw[hb] at h;cases h
      |false=>
      rw[hb] at h;have hn:topsW 16 anyW l (i+1) (ce M (.ks x.name) 1)=none:=h;have hsx:hasD p.shared x.name=false:=by
       cases hs:hasD p.shared x.name with
       |false=>rfl
       |true=>
        rw[hL,hs,HJ] at hb;have hb:=ud hb;exfalso;apply hb;cases nameB x.name;·show(1:Int) > 0;decide
        ·show(2:Int) > 0;decide
      rcases F5.1 hd with rfl|hd
      ·exact hsx
      ·exact ih (i+1) _ (pre++[x]) (by have:=hM.put x.name;refine⟨this.txt,fun n=>?_⟩;rw[this.get];simp[hasD,Jx]) hn d hd
    intro n hn;unfold hasD at hn;obtain⟨d,hd,hdn⟩:=Ix.1 hn;have:=key p.locks 0 _ [] (by have:=gW.ones p.shared;refine⟨this.txt,fun n=>?_⟩;rw[this.get];simp[hasD]) ho2 d hd
    have e:∀x:ByteArray,seq x d.name=seq x n:=fun x=>by
     unfold seq at *
     rw[show d.name.toList=n.toList by simpa using hdn]
    unfold hasD at this |-
    simpa[e] using this
   ·have:=(gW.ones p.shared).ones p.locks;refine⟨this.txt,fun n=>?_⟩;rw[this.get];simp[hasD,hasT]
theorem z6(p:Prg):checkW p=xJ p:=by
 have h:=zA p;have hr:=h.rule;unfold checkW xJ;cases ho:firstW p with
 |some f=>
  rw[ho] at h hr;rw[hr];obtain⟨rfl,_⟩:=h;rfl
 |none=>
  rw[ho] at hr;rw[hr];rfl
def Bs(c:aJ)(name:ByteArray):Bool:=decide (localI c.p c.t name>=0)||decide (findI c.p.shared name 0>=0)
mutual
def okE(c:aJ):Expr->Bool
 | .mk kind op word name kids at_=>partsB (.mk kind op word name kids at_)&&(kind != 2||Bs c name)&&xY c kids
def xY(c:aJ):List Expr->Bool
 |[]=>true
 |e::l=>okE c e&&xY c l
end
def yQ(c:aJ)(kind:Int)(name other:ByteArray):Bool:=
 bif kind==1 then Bs c name else bif kind==2 then Bs c name&&decide (findI c.p.shared other 0>=0) else bif kind==5 then decide (findI c.p.locks name 0>=0) else true
mutual
def okS(c:aJ):Stmt->Bool
 | .mk kind name other e body els at_=>fieldsB (.mk kind name other e body els at_)&&yQ c kind name other&&xY c e&&Bj c body&&Bj c els
def Bj(c:aJ):List Stmt->Bool
 |[]=>true
 |x::l=>okS c x&&Bj c l
end
theorem ye{b:Bool}(h:(!b)=false):b=true:=by simpa using h
theorem m9{r deep:Int}(h:deepI r deep=0):r=0:=by
 unfold deepI at h;cases hb:((r==0)&&decide (deep > 64)) with
 |true=>rw[hb] at h;cases h
 |false=>rw[hb] at h;exact h
theorem iI{c:aJ}{name:ByteArray}{b:Bool}(h:variableI c.p c.t name b=0):Bs c name=true/\(b=true->decide (findI c.p.shared name 0>=0)=true):=by
 unfold variableI at h;unfold Bs;cases h1:decide (localI c.p c.t name>=0) with
 |true=>
  rw[h1] at h;cases b with
  |true=>cases h
  |false=>exact⟨rfl,fun q=>by cases q⟩
 |false=>
  rw[h1] at h;cases h2:decide (findI c.p.shared name 0>=0) with
  |true=>exact⟨rfl,fun _=>rfl⟩
  |false=>
   rw[h2] at h;cases h3:(decide (findI c.p.locks name 0>=0)||decide (threadI c.p.threads name 0>=0))<;>rw[h3] at h<;>cases h
theorem tf{a b:Int}(h:leastI a b=0):a=0/\b=0:=by
 unfold leastI at h;cases h1:(a==0) with
 |true=>rw[h1,HJ,r7] at h;exact⟨eq_of_beq h1,h⟩
 |false=>
  have h2:a≠0:=by simpa using h1
  rw[h1,GU] at h;cases h3:(decide (b > 0)&&decide (b<a)) with
  |true=>
   rw[h3,r7] at h;simp only[t4,GR] at h3;omega
  |false=>rw[h3,lh] at h;exact absurd h h2
theorem wH{c:aJ}{name:ByteArray}(h:pO c.p c.t name=0):decide (findI c.p.locks name 0>=0)=true:=by
 unfold pO at h;cases h1:decide (localI c.p c.t name>=0) with
 |true=>rw[h1] at h;cases h
 |false=>
  rw[h1] at h;cases h2:decide (findI c.p.locks name 0>=0) with
  |true=>rfl
  |false=>
   rw[h2] at h;cases h3:(decide (findI c.p.shared name 0>=0)||decide (threadI c.p.threads name 0>=0))<;>rw[h3] at h<;>cases h
theorem dK{a b:Flt}(h:(bif a.rule != 0 then a else b).rule=0):a.rule=0/\b.rule=0:=by
 cases h1:(a.rule != 0) with
 |true=>
  rw[h1,r7] at h;rw[h] at h1;cases h1
 |false=>
  rw[h1,lh] at h;exact⟨by simpa using h1,h⟩
theorem jC{b:Bool}{at_ r:Int}{f:Flt}(hr:r≠0)(h:(bif b then⟨at_,r⟩ else f).rule=0):b=false/\f.rule=0:=by
 cases b with
 |true=>exact absurd h hr
 |false=>exact⟨rfl,h⟩
theorem pc{at_ r:Int}{f:Flt}(h:(bif r != 0 then⟨at_,r⟩ else f).rule=0):r=0/\f.rule=0:=by
 cases h1:(r != 0) with
 |true=>
  rw[h1,r7] at h;have h:r=0:=h;rw[h] at h1;cases h1
 |false=>rw[h1,lh] at h;exact⟨by simpa using h1,h⟩
mutual
theorem yF(c:aJ):∀(e:Expr)(deep:Int),(rR c.p c.t e deep).rule=0->okE c e=true
 | .mk kind op word name kids at_,deep,h=>by
  have hk:=fun d=>jK c kids d;unfold rR at h;obtain⟨h1,h⟩:=jC JS h;obtain⟨h2,h⟩:=pc h;have h3:=m9 h2;unfold okE;rw[hk _ h,ye h1];cases k2:kind==2 with
  |false=>
             have:(kind != 2)=true:=by unfold bne;rw[k2];rfl
             rw[this];rfl
  |true=>
   rw[k2,r7] at h3;rw[(iI h3).1,IU];rfl
theorem jK(c:aJ):∀(l:List Expr)(deep:Int),(gi c.p c.t l deep).rule=0->xY c l=true
 |[],_,_=>by unfold xY;rfl
 |e::l,deep,h=>by unfold gi at h;obtain⟨h1,h⟩:=dK h;unfold xY;rw[yF c e deep h1,jK c l deep h];rfl
end
mutual
theorem yb(c:aJ):∀(x:Stmt)(deep:Int),(rZ c.p c.t x deep).rule=0->okS c x=true
 | .mk kind name other e body els at_,deep,h=>by
  have hb:=fun d=>gd c body d;have hl:=fun d=>gd c els d;unfold rZ at h;obtain⟨h1,h⟩:=jC JS h;obtain⟨h2,h⟩:=pc h;obtain⟨h3,h⟩:=dK h;obtain⟨h4,h⟩:=dK h;have h5:=m9 h2;have h6:yQ c kind name other=true:=by
   unfold namesI at h5;unfold yQ;cases k1:kind==1 with
   |true=>rw[k1] at h5;exact(iI h5).1
   |false=>
   rw[k1,lh] at h5;cases k2:kind==2 with
   |true=>
    rw[k2,r7] at h5;obtain⟨q1,q2⟩:=tf h5;rw[lh,r7,(iI q1).1,(iI q2).2 rfl];rfl
   |false=>
   rw[k2,lh] at h5;cases k5:kind==5 with
   |true=>rw[k5] at h5;exact wH h5
   |false=>rfl
  unfold okS;rw[ye h1,h6,jK c e 1 h3,hb _ h4,hl _ h];rfl
theorem gd(c:aJ):∀(l:List Stmt)(deep:Int),(c7 c.p c.t l deep).rule=0->Bj c l=true
 |[],_,_=>by unfold Bj;rfl
 |x::l,deep,h=>by unfold c7 at h;obtain⟨h1,h⟩:=dK h;unfold Bj;rw[yb c x deep h1,gd c l deep h];rfl
end
structure FG(p:Prg)(i:Nat)(th:Thread):Prop where
 name:nameB th.name=true
 shared:decide (findI p.shared th.name 0>=0)=false
 locks:decide (findI p.locks th.name 0>=0)=false
 first:decide (threadI p.threads th.name 0<i)=false
 few:i<8
 locals:(declsF p 2 64 [] th.locals).rule=0
 body:(c7 p i th.body 1).rule=0
theorem j9(p:Prg):∀(l:List Thread)(i:Nat)(f:Flt),(threadsF p i l f).rule=0->f.rule=0/\∀j th,l[j]?=some th->FG p (i+j) th
 |[],_,f,h=>⟨h,fun j th e=>by cases e⟩
 |t::l,i,f,h=>by
  unfold threadsF at h;obtain⟨h0,h⟩:=dK h;obtain⟨h1,h⟩:=jC JS h;obtain⟨h2,h⟩:=jC JS h;obtain⟨h3,h⟩:=jC JS h;obtain⟨h4,h⟩:=j9 p l (i+1) _ h;simp only[G8] at h2;refine⟨h0,fun j th e=>?_⟩;cases j with
  |zero=>
   cases e;have h5:(declsF p 2 64 [] t.locals).rule=0/\(c7 p i t.body 1).rule=0:=by
    cases hd:((declsF p 2 64 [] t.locals).rule==0) with
    |true=>rw[hd,r7] at h4;exact⟨eq_of_beq hd,h4⟩
    |false=>rw[hd,lh] at h4;rw[h4] at hd;cases hd
   exact⟨ye h1,h2.1.1,h2.1.2,h2.2,by have:=ud h3;omega,h5.1,h5.2⟩
  |succ j=>
   have:=h j th e
   rwa [(JQ:i+1+j=i+(j+1))] at this
theorem gG(p:Prg)(kind most:Int):∀(l pre:List Decl),(declsF p kind most pre l).rule=0->∀j d,l[j]?=some d->declI p kind (pre++l.take j) d (pre.length+j:Nat) most=0
 |[],_,_,j,d,e=>by cases e
 |x::l,pre,h,j,d,e=>by
  unfold declsF at h;obtain⟨h1,h⟩:=pc h;cases j with
  |zero=>cases e;rw[List.take_zero,G7,HR];exact h1
  |succ j=>
   have:=gG p kind most l _ h j d e;rw[uR,GH,JF] at this
   rwa [show pre.length+[x].length+j=pre.length+(j+1) by simp;omega] at this
structure xq(p:Prg):Prop where
 shared:(declsF p 0 64 [] p.shared).rule=0
 locks:(declsF p 1 16 [] p.locks).rule=0
 threads:∀i th,p.threads[i]?=some th->FG p i th
theorem w7{p:Prg}(h:(checkW p).1=0):xq p:=by
 rw[z6] at h;unfold xJ at h;have h:(firstF p).rule=0:=by
  cases hb:((firstF p).rule != 0) with
  |true=>rw[hb] at h;exact absurd (show(50:Int)=0 from h) JS
  |false=>simpa using hb
 unfold firstF at h;obtain⟨h1,h2⟩:=j9 p _ _ _ h;have h3:(declsF p 0 64 [] p.shared).rule=0/\(declsF p 1 16 [] p.locks).rule=0:=by
  cases hd:((declsF p 0 64 [] p.shared).rule==0) with
  |true=>rw[hd,r7] at h1;exact⟨eq_of_beq hd,h1⟩
  |false=>rw[hd,lh] at h1;rw[h1] at hd;cases hd
 exact⟨h3.1,h3.2,fun i th e=>by have:=h2 i th e;rwa [E7] at this⟩
theorem lI{p:Prg}{kind most:Int}{pre l:List Decl}{d:Decl}{i:Int}(h:declI p kind pre d i most=0):nameB d.name=true/\twiceB p kind pre d.name=false/\i<most/\wordI kind d.word=false:=by
 unfold declI at h;cases h1:(!nameB d.name) with
 |true=>rw[h1] at h;cases h
 |false=>
 cases h2:twiceB p kind pre d.name with
 |true=>rw[h1,h2] at h;cases h
 |false=>
 cases h3:decide (i>=most) with
 |true=>rw[h1,h2,h3] at h;cases h
 |false=>
 cases h4:wordI kind d.word with
 |true=>rw[h1,h2,h3,h4] at h;cases h
 |false=>exact⟨ye h1,rfl,by have:=ud h3;omega,rfl⟩
theorem dC{p:Prg}{kind:Int}{most:Nat}{l:List Decl}(h:(declsF p kind most [] l).rule=0):l.length<=most:=by
 rcases HQ l.length with q|q
 ·omega
 ·obtain⟨d,hd⟩:∃d,l[l.length-1]?=some d:=⟨_,ab JQ⟩;have:=(lI (l:=l) (gG p kind most l [] h _ d hd)).2.2.1;rw[H3] at this;omega
theorem aE{p has k most:Int}(hp:(andP p has==0)=false)(h1:0<=k)(h2:k<most):withinB p has k most=true:=by
 unfold withinB;have e:(andP p has != 0)=true:=by unfold bne;rw[hp];rfl
 rw[hp,e,GC (show k>=0 from h1),GC h2];rfl
theorem aB{p has most:Int}(hp:(andP p has==0)=true):withinB p has 0 most=true:=by unfold withinB;rw[hp];rfl
def vOk(S:Int)(v:Val):Bool:=bif v.s then(decide (v.k>=0)&&decide (v.k<S)&&v.w==0) else v.k==0
theorem cY{p has S:Int}{v:Val}(hp:(andP p has==0)=false)(h:vOk S v=true):valueB p has v S=true:=by unfold valueB;rw[hp];exact h
theorem bQ{p has S:Int}(hp:(andP p has==0)=true):valueB p has v00 S=true:=by unfold valueB;rw[hp];rfl
theorem cB{u:Un}{g:Gr}{n:Nd}(h0:(n.kind==0)=false)(h1:decide (n.kind>=10)=false)(h2:0<=n.origin)(h3:n.origin<4096)(h:bo u g n (bT n.kind n.op)=true):rightB u g n=true:=by unfold rightB headR;rw[h0,h1,Gz (JQ:¬ n.origin<0),Gz (JQ:¬ n.origin>=4096)];exact h
theorem bF{u:Un}{g:Gr}{n:Nd}{p:Int}(h1:withinB p 1 n.op 19=true)(h2:withinB p 2 n.slot g.slots=true)(h3:withinB p 4 n.thing (thingsI u n)=true)(h4:withinB p 32 n.next g.nodes.length=true)(h5:withinB p 64 n.els g.nodes.length=true)(h6:valueB p 8 n.a g.slots=true)(h7:valueB p 16 n.b g.slots=true):bo u g n p=true:=by unfold bo;rw[h1,h2,h3,h4,h5,h6,h7];rfl
section
variable {u:Un} {g:Gr} {S N:Nat} (hS:g.slots=(S:Nat)) (hN:g.nodes.length=N)
include hS hN
theorem sI{op:Int}{a b:Val}{m to o:Nat}(ht:two op=true)(ha:vOk S a=true)(hb:vOk S b=true)(hm:m<S)(hto:to<N)(ho:o<4096):rightB u g { nd00 with kind:=1,op:=op,a:=a,b:=b,slot:=(m:Nat),next:=(to:Nat),origin:=(o:Nat) }=true:=by
 refine cB rfl rfl (by show(0:Int)<=(o:Nat);omega) (by show((o:Nat):Int)<4096;omega) ?_;have e:bT 1 op=59:=by unfold bT;rw[ht];rfl
 have h2:=ht;unfold two at h2;simp only[t4,GR] at h2;show bo u g _ (bT 1 op)=true;rw[e];exact bF (aE (k:=op) JR JQ JQ) (aE (k:=(m:Nat)) JR JQ JQ) (aB JR) (aE (k:=(to:Nat)) JR JQ JQ) (aB JR) (cY JR (by rw[hS];exact ha)) (cY JR (by rw[hS];exact hb))
theorem kM{op:Int}{a:Val}{k:Int}{to o:Nat}(ht:two op=false)(h0:0<=op)(h1:op<19)(ha:vOk S a=true)(hm0:0<=k)(hm:k<S)(hto:to<N)(ho:o<4096):rightB u g { nd00 with kind:=1,op:=op,a:=a,slot:=k,next:=(to:Nat),origin:=(o:Nat) }=true:=by
 refine cB rfl rfl (by show(0:Int)<=(o:Nat);omega) (by show((o:Nat):Int)<4096;omega) ?_;have e:bT 1 op=43:=by unfold bT;rw[ht];rfl
 show bo u g _ (bT 1 op)=true;rw[e];exact bF (aE (k:=op) JR JQ JQ) (aE (k:=k) JR JQ JQ) (aB JR) (aE (k:=(to:Nat)) JR JQ JQ) (aB JR) (cY JR (by rw[hS];exact ha)) (bQ JR)
theorem tD{thing:Int}{m to o:Nat}(h0:0<=thing)(h1:thing<u.shared.length)(hm:m<S)(hto:to<N)(ho:o<4096):rightB u g { nd00 with kind:=2,thing:=thing,slot:=(m:Nat),next:=(to:Nat),origin:=(o:Nat) }=true:=by refine cB rfl rfl (by show(0:Int)<=(o:Nat);omega) (by show((o:Nat):Int)<4096;omega) ?_;show bo u g _ 38=true;exact bF (aB JR) (aE (k:=(m:Nat)) JR JQ JQ) (aE (k:=thing) JR h0 h1) (aE (k:=(to:Nat)) JR JQ JQ) (aB JR) (bQ JR) (bQ JR)
theorem jI{thing:Int}{a:Val}{to o:Nat}(h0:0<=thing)(h1:thing<u.shared.length)(ha:vOk S a=true)(hto:to<N)(ho:o<4096):rightB u g { nd00 with kind:=3,thing:=thing,a:=a,next:=(to:Nat),origin:=(o:Nat) }=true:=by refine cB rfl rfl (by show(0:Int)<=(o:Nat);omega) (by show((o:Nat):Int)<4096;omega) ?_;show bo u g _ 44=true;exact bF (aB JR) (aB JR) (aE (k:=thing) JR h0 h1) (aE (k:=(to:Nat)) JR JQ JQ) (aB JR) (cY JR (by rw[hS];exact ha)) (bQ JR)
theorem lg{thing k:Int}{a:Val}{to o:Nat}(h0:0<=thing)(h1:thing<u.shared.length)(ha:vOk S a=true)(hm0:0<=k)(hm:k<S)(hto:to<N)(ho:o<4096):rightB u g { nd00 with kind:=4,thing:=thing,a:=a,slot:=k,next:=(to:Nat),origin:=(o:Nat) }=true:=by refine cB rfl rfl (by show(0:Int)<=(o:Nat);omega) (by show((o:Nat):Int)<4096;omega) ?_;show bo u g _ 46=true;exact bF (aB JR) (aE (k:=k) JR JQ JQ) (aE (k:=thing) JR h0 h1) (aE (k:=(to:Nat)) JR JQ JQ) (aB JR) (cY JR (by rw[hS];exact ha)) (bQ JR)
theorem sr{thing:Int}{to o:Nat}(h0:0<=thing)(h1:thing<u.locks.length)(hto:to<N)(ho:o<4096):rightB u g { nd00 with kind:=5,thing:=thing,next:=(to:Nat),origin:=(o:Nat) }=true:=by refine cB rfl rfl (by show(0:Int)<=(o:Nat);omega) (by show((o:Nat):Int)<4096;omega) ?_;show bo u g _ 36=true;exact bF (aB JR) (aB JR) (aE (k:=thing) JR h0 h1) (aE (k:=(to:Nat)) JR JQ JQ) (aB JR) (bQ JR) (bQ JR)
theorem n5{thing:Int}{to o:Nat}(h0:0<=thing)(h1:thing<u.locks.length)(hto:to<N)(ho:o<4096):rightB u g { nd00 with kind:=6,thing:=thing,next:=(to:Nat),origin:=(o:Nat) }=true:=by refine cB rfl rfl (by show(0:Int)<=(o:Nat);omega) (by show((o:Nat):Int)<4096;omega) ?_;show bo u g _ 36=true;exact bF (aB JR) (aB JR) (aE (k:=thing) JR h0 h1) (aE (k:=(to:Nat)) JR JQ JQ) (aB JR) (bQ JR) (bQ JR)
theorem pg{a:Val}{to o:Nat}(ha:vOk S a=true)(hto:to<N)(ho:o<4096):rightB u g { nd00 with kind:=7,a:=a,next:=(to:Nat),origin:=(o:Nat) }=true:=by refine cB rfl rfl (by show(0:Int)<=(o:Nat);omega) (by show((o:Nat):Int)<4096;omega) ?_;show bo u g _ 40=true;exact bF (aB JR) (aB JR) (aB JR) (aE (k:=(to:Nat)) JR JQ JQ) (aB JR) (cY JR (by rw[hS];exact ha)) (bQ JR)
theorem iv{a:Val}{to el o:Nat}(ha:vOk S a=true)(hto:to<N)(hel:el<N)(ho:o<4096):rightB u g { nd00 with kind:=8,a:=a,next:=(to:Nat),els:=(el:Nat),origin:=(o:Nat) }=true:=by refine cB rfl rfl (by show(0:Int)<=(o:Nat);omega) (by show((o:Nat):Int)<4096;omega) ?_;show bo u g _ 104=true;exact bF (aB JR) (aB JR) (aB JR) (aE (k:=(to:Nat)) JR JQ JQ) (aE (k:=(el:Nat)) JR JQ JQ) (cY JR (by rw[hS];exact ha)) (bQ JR)
theorem uT{o:Nat}(ho:o<4096):rightB u g { nd00 with kind:=9,origin:=(o:Nat) }=true:=by refine cB rfl rfl (by show(0:Int)<=(o:Nat);omega) (by show((o:Nat):Int)<4096;omega) ?_;show bo u g _ 0=true;exact bF (aB JR) (aB JR) (aB JR) (aB JR) (aB JR) (bQ JR) (bQ JR)
end
theorem iK:∀(l:List Decl)(s:ByteArray)(k:Nat),findI l s k<(k+l.length:Nat)
 |[],s,k=>by show(-1:Int)<_;omega
 |d::l,s,k=>by
  show(if seq d.name s then(k:Int) else findI l s (k+1))<_;rw[E0];split;·omega
  ·have:=iK l s (k+1);omega
structure tC(c:aJ)(u:Un)(g:Gr)(S N:Nat):Prop where
 slots:g.slots=(S:Nat)
 nodes:g.nodes.length=N
 cap:N<=4096
 shared:u.shared=c.p.shared
 locks:u.locks=c.p.locks
 loc:∀name,localI c.p c.t name<(S:Nat)
theorem tC.sh{c:aJ}{u:Un}{g:Gr}{S N:Nat}(h:tC c u g S N){name:ByteArray}:findI c.p.shared name 0<(u.shared.length:Nat):=by have:=iK c.p.shared name 0;rw[h.shared];omega
theorem tC.lk{c:aJ}{u:Un}{g:Gr}{S N:Nat}(h:tC c u g S N){name:ByteArray}:findI c.p.locks name 0<(u.locks.length:Nat):=by have:=iK c.p.locks name 0;rw[h.locks];omega
theorem mV{S:Nat}{k:Int}(h0:0<=k)(h1:k<(S:Nat)):vOk S (inV k)=true:=by show(decide (k>=0)&&decide (k<(S:Int))&&((0:Int)==0))=true;rw[GC (show k>=0 from h0),GC h1];rfl
theorem x6{c:aJ}{u:Un}{g:Gr}{S N:Nat}(h:tC c u g S N):∀(e:Expr)(m:Nat),m+szE c e<=S->vOk S (zI c e m)=true
 | .mk kind op word name kids _,m,hm=>by
  unfold szE at hm;rw[qK];cases k1:kind==1 with
  |true=>rfl
  |false=>
  rw[k1] at hm;cases k2:kind==2 with
  |true=>
   rw[k2] at hm;cases hl:decide (localI c.p c.t name>=0) with
   |true=>exact mV (of_decide_eq_true hl) (h.loc name)
   |false=>rw[hl] at hm;simp only[r7,lh] at hm;exact mV JQ JQ
  |false=>
  rw[k2] at hm;cases ht:two op with
  |true=>rw[ht] at hm;simp only[r7,lh] at hm;exact mV JQ JQ
  |false=>rw[ht] at hm;simp only[r7,lh] at hm;exact mV JQ JQ
theorem mq{c:aJ}{u:Un}{g:Gr}{S N:Nat}(h:tC c u g S N):∀(l:List Expr)(m:Nat),m+sz0 c l<=S->vOk S (iy c l m)=true
 |[],m,_=>rfl
 |e::_,m,hm=>by unfold sz0 at hm;exact x6 h e m hm
theorem zN{c:aJ}{u:Un}{g:Gr}{S N:Nat}(h:tC c u g S N):∀(l:List Expr)(m:Nat),m+sz1 c l<=S->vOk S (vq c l m)=true
 |[],m,_=>rfl
 |_::r,m,hm=>by unfold sz1 at hm;exact mq h r m hm
theorem Ej{kind op word:Int}{name:ByteArray}{kids:List Expr}{at_:Int}(h:partsB (.mk kind op word name kids at_)=true)(h1:(kind==1)=false)(h2:(kind==2)=false)(ht:two op=false):0<=op/\op<19:=by
 unfold partsB at h;dsimp only at h;rw[h1,lh,h2,lh] at h;cases h3:(kind==3) with
 |true=>
  rw[h3,r7] at h;simp only[t4,Ib,HH] at h;omega
 |false=>
 rw[h3,lh] at h;cases h4:(kind==4) with
 |false=>rw[h4] at h;cases h
 |true=>
  rw[h4,r7,ht] at h;simp at h
theorem bU{α:Type}{P:α->Prop}{X Y:List α}(h1:∀n∈X,P n)(h2:∀n∈Y,P n):∀n∈X++Y,P n:=fun n hn=>(FK.1 hn).elim (h1 n) (h2 n)
theorem aX{α:Type}{P:α->Prop}{x:α}{Y:List α}(h1:P x)(h2:∀n∈Y,P n):∀n∈x::Y,P n:=fun n hn=>(F5.1 hn).elim (fun e=>e ▸ h1) (h2 n)
theorem ba{α:Type}{P:α->Prop}:∀n∈([]:List α),P n:=fun n hn=>by cases hn
mutual
theorem sc{c:aJ}{u:Un}{g:Gr}{S N:Nat}(h:tC c u g S N):∀(e:Expr)(a m to:Nat),okE c e=true->a+szE c e<=N->m+szE c e<=S->to<N->∀n∈gC c e a m to,rightB u g n=true
 | .mk kind op word name kids at_,a,m,to,hk,ha,hm,hto=>by
  have h0:=fun a m to=>ie h kids a m to;have h1:=fun a m to=>rX h kids a m to;have v0:=fun m=>mq h kids m;have v1:=fun m=>zN h kids m;have hcap:=h.cap;unfold okE at hk;simp only[t4] at hk;obtain⟨⟨hp,hv⟩,hks⟩:=hk;unfold szE at ha hm;unfold gC;cases k1:kind==1 with
  |true=>exact ba
  |false=>
  rw[k1] at ha hm;cases k2:kind==2 with
  |true=>
   rw[k2] at ha hm;cases hl:decide (localI c.p c.t name>=0) with
   |true=>exact ba
   |false=>
    rw[hl] at ha hm;simp only[r7,lh] at ha hm;have e:(kind != 2)=false:=by unfold bne;rw[k2];rfl
    unfold Bs at hv;rw[e,hl,GU,GU] at hv;have q:=of_decide_eq_true hv;exact aX (tD h.slots h.nodes q h.sh JQ hto JQ) ba
  |false=>
  rw[k2] at ha hm;cases ht:two op with
  |true=>
   rw[ht] at ha hm;simp only[r7,lh] at ha hm |-
   exact bU (h0 _ _ _ hks JQ JQ JQ) (bU (h1 _ _ _ hks JQ JQ JQ) (aX (sI h.slots h.nodes ht (v0 _ JQ) (v1 _ JQ) JQ hto JQ) ba))
  |false=>
   rw[ht] at ha hm;simp only[r7,lh] at ha hm |-
   obtain⟨o0,o1⟩:=Ej hp k1 k2 ht;exact bU (h0 _ _ _ hks JQ JQ JQ) (aX (kM h.slots h.nodes ht o0 o1 (v0 _ JQ) JQ JQ hto JQ) ba)
theorem ie{c:aJ}{u:Un}{g:Gr}{S N:Nat}(h:tC c u g S N):∀(l:List Expr)(a m to:Nat),xY c l=true->a+sz0 c l<=N->m+sz0 c l<=S->to<N->∀n∈cM c l a m to,rightB u g n=true
 |[],a,m,to,_,_,_,_=>by unfold cM;exact ba
 |e::_,a,m,to,hk,ha,hm,hto=>by unfold xY at hk;rw[t4] at hk;unfold sz0 at ha hm;unfold cM;exact sc h e a m to hk.1 ha hm hto
theorem rX{c:aJ}{u:Un}{g:Gr}{S N:Nat}(h:tC c u g S N):∀(l:List Expr)(a m to:Nat),xY c l=true->a+sz1 c l<=N->m+sz1 c l<=S->to<N->∀n∈eh c l a m to,rightB u g n=true
 |[],a,m,to,_,_,_,_=>by unfold eh;exact ba
 |_::r,a,m,to,hk,ha,hm,hto=>by unfold xY at hk;rw[t4] at hk;unfold sz1 at ha hm;unfold eh;exact ie h r a m to hk.2 ha hm hto
end
theorem lH{k here to N:Nat}(h1:here+k<=N)(h2:to<N):goOn k here to<N:=by rcases goOn_cases k here to with⟨r,r'⟩|⟨r,r'⟩<;>rw[r']<;>omega
mutual
theorem sA{c:aJ}{u:Un}{g:Gr}{S N:Nat}(h:tC c u g S N):∀(x:Stmt)(a m to:Nat),okS c x=true->a+szS c x<=N->m+slS c x<=S->to<N->∀n∈gb c x a m to,rightB u g n=true
 | .mk kind name other e body els at_,a,m,to,hk,ha,hm,hto=>by
  have h0:=fun a m to=>ie h e a m to;have v0:=fun m=>mq h e m;have hb:=fun a m to=>dR h body a m to;have hl:=fun a m to=>dR h els a m to;have hcap:=h.cap;have hloc:=h.loc name;unfold okS at hk;simp only[t4] at hk;obtain⟨⟨⟨⟨hf,hn⟩,he⟩,hkb⟩,hkl⟩:=hk;unfold yQ at hn;unfold szS at ha;unfold slS at hm;unfold gb;cases k1:kind==1 with
  |true=>
   rw[k1] at ha hm hn;simp only[r7,lh] at ha hm hn |-
   refine bU (h0 _ _ _ he JQ JQ JQ) (aX ?_ ba);unfold Bs at hn;unfold iW;cases hd:decide (localI c.p c.t name>=0) with
   |true=>exact kM (op:=0) h.slots h.nodes rfl JS JS (v0 _ JQ) (of_decide_eq_true hd) hloc hto JQ
   |false=>
    rw[hd,GU] at hn;exact jI h.slots h.nodes (of_decide_eq_true hn) h.sh (v0 _ JQ) hto JQ
  |false=>
  rw[k1] at ha hm hn;cases k2:kind==2 with
  |true=>
   rw[k2] at ha hm hn;simp only[r7,lh] at ha hm hn |-
   rw[t4] at hn;obtain⟨n1,n2⟩:=hn;unfold Bs at n1;unfold mA;cases hd:decide (localI c.p c.t name>=0) with
   |true=>
    rw[hd] at ha hm;simp only[r7,lh] at ha hm |-
    exact bU (h0 _ _ _ he JQ JQ JQ) (aX (lg h.slots h.nodes (of_decide_eq_true n2) h.sh (v0 _ JQ) (of_decide_eq_true hd) hloc hto JQ) ba)
   |false=>
    rw[hd] at ha hm n1;rw[GU] at n1;simp only[r7,lh] at ha hm |-
    exact bU (h0 _ _ _ he JQ JQ JQ) (aX (lg h.slots h.nodes (of_decide_eq_true n2) h.sh (v0 _ JQ) JQ JQ JQ JQ) (aX (jI h.slots h.nodes (of_decide_eq_true n1) h.sh (mV JQ JQ) hto JQ) ba))
  |false=>
  rw[k2] at ha hm hn;cases k3:kind==3 with
  |true=>
   rw[k3] at ha hm;simp only[r7,lh] at ha hm |-
   exact bU (h0 _ _ _ he JQ JQ JQ) (aX (iv h.slots h.nodes (v0 _ JQ) (lH JQ hto) (lH JQ hto) JQ) (bU (hb _ _ _ hkb JQ JQ hto) (hl _ _ _ hkl JQ JQ hto)))
  |false=>
  rw[k3] at ha hm;cases k4:kind==4 with
  |true=>
   rw[k4] at ha hm;simp only[r7,lh] at ha hm |-
   exact bU (h0 _ _ _ he JQ JQ JQ) (aX (iv h.slots h.nodes (v0 _ JQ) (lH JQ JQ) hto JQ) (hb _ _ _ hkb JQ JQ JQ))
  |false=>
  rw[k4] at ha hm;cases k5:kind==5 with
  |true=>
   rw[k5] at ha hm hn;simp only[r7,lh] at ha hm hn |-
   have hn:=of_decide_eq_true hn;exact aX (sr h.slots h.nodes hn h.lk JQ JQ) (bU (hb _ _ _ hkb JQ JQ JQ) (aX (n5 h.slots h.nodes hn h.lk hto JQ) ba))
  |false=>
  rw[k5] at ha hm;cases k6:kind==6 with
  |true=>
   rw[k6] at ha hm;simp only[r7,lh] at ha hm |-
   exact bU (h0 _ _ _ he JQ JQ JQ) (aX (pg h.slots h.nodes (v0 _ JQ) hto JQ) ba)
  |false=>exact ba
theorem dR{c:aJ}{u:Un}{g:Gr}{S N:Nat}(h:tC c u g S N):∀(l:List Stmt)(a m to:Nat),Bj c l=true->a+szB c l<=N->m+slB c l<=S->to<N->∀n∈bH c l a m to,rightB u g n=true
 |[],a,m,to,_,_,_,_=>by unfold bH;exact ba
 |x::r,a,m,to,hk,ha,hm,hto=>by have hx:=fun a m to=>sA h x a m to;have hr:=fun a m to=>dR h r a m to;unfold Bj at hk;rw[t4] at hk;unfold szB at ha;unfold slB at hm;unfold bH;exact bU (hx _ _ _ hk.1 JQ JQ (lH JQ hto)) (hr _ _ _ hk.2 JQ JQ hto)
end
mutual
def AL(c:aJ):Stmt->List Int->List (List Int)
 | .mk kind name _ e body els _,st=>bif kind==1 then List.replicate (sz0 c e+1) st
  else bif kind==2 then List.replicate (sz0 c e+(bif decide (localI c.p c.t name>=0) then 1 else 2)) st
  else bif kind==3 then List.replicate (sz0 c e+1) st++(mL c body st++mL c els st)
  else bif kind==4 then List.replicate (sz0 c e+1) st++mL c body st
  else bif kind==5 then st::(mL c body (st++[findI c.p.locks name 0])++[st++[findI c.p.locks name 0]])
  else bif kind==6 then List.replicate (sz0 c e+1) st else[]
def mL(c:aJ):List Stmt->List Int->List (List Int)
 |[],_=>[]
 |x::r,st=>AL c x st++mL c r st
end
mutual
theorem iQ(c:aJ):∀(x:Stmt)(st:List Int),(AL c x st).length=szS c x
 | .mk kind name _ e body els _,st=>by have h1:=fun st=>fk c body st;have h2:=fun st=>fk c els st;unfold AL szS;cases kind==1<;>cases kind==2<;>cases kind==3<;>cases kind==4<;>cases kind==5<;>cases kind==6<;>simp only[r7,lh,uR,E0,H3,GE,h1,h2]<;>omega
theorem fk(c:aJ):∀(l:List Stmt)(st:List Int),(mL c l st).length=szB c l
 |[],st=>by unfold mL szB;rfl
 |x::r,st=>by unfold mL szB;rw[uR,iQ c x,fk c r]
end
def iF(lab:Nat->List Int)(a:Nat)(X:List (List Int)):Prop:=∀i v,X[i]?=some v->lab (a+i)=v
theorem iF.app{lab:Nat->List Int}{a k:Nat}{X Y:List (List Int)}(h:iF lab a (X++Y))(hk:X.length=k):iF lab a X/\iF lab (a+k) Y:=by
 subst hk;refine⟨fun i n e=>h i n ?_,fun i n e=>?_⟩;·rw[v9 (a9.1 e).1];exact e
 ·have:=h (X.length+i) n (by rw[wS JQ,Hy];exact e)
  rwa [<-Hn] at this
theorem iF.cons{lab:Nat->List Int}{a:Nat}{v:List Int}{Y:List (List Int)}(h:iF lab a (v::Y)):lab a=v/\iF lab (a+1) Y:=by
 refine⟨h 0 v rfl,fun i n' e=>?_⟩;have:=h (i+1) n' e
 rwa [(JQ:a+(i+1)=a+1+i)] at this
theorem iF.rep{lab:Nat->List Int}{a k:Nat}{v:List Int}(h:iF lab a (List.replicate k v)){i:Nat}(hi:i<k):lab (a+i)=v:=h i v (by rw[G1,Gw hi])
def HL(L:List Nd)(lab:Nat->List Int)(a k to:Nat)(st:List Int):Prop:=∀i n,a<=i->i<a+k->L[i]?=some n->∃now,nowN n (lab i)=some now/\∀b∈folN n,(b=to/\now=st)\/(a<=b/\b<a+k/\lab b=now)
theorem HL.zero{L:List Nd}{lab:Nat->List Int}{a to:Nat}{st:List Int}:HL L lab a 0 to st:=fun i n h1 h2=>JQ
theorem HL.seq{L:List Nd}{lab:Nat->List Int}{a ks kt to:Nat}{st:List Int}(hs:HL L lab a ks (goOn kt (a+ks) to) st)(ht:HL L lab (a+ks) kt to st)(hh:0<kt->lab (a+ks)=st):HL L lab a (ks+kt) to st:=by
 intro i n h1 h2 hn;by_cases q:i<a+ks
 ·obtain⟨now,e,hb⟩:=hs i n h1 q hn;refine⟨now,e,fun b hm=>?_⟩;rcases hb b hm with⟨w,w'⟩|⟨w1,w2,w3⟩
  ·rcases goOn_cases kt (a+ks) to with⟨r,r'⟩|⟨r,r'⟩
   ·exact .inl ⟨w.trans r',w'⟩
   ·rw[r'] at w;exact .inr ⟨JQ,JQ,by rw[w,hh r,w']⟩
  ·exact .inr ⟨w1,JQ,w3⟩
 ·obtain⟨now,e,hb⟩:=ht i n JQ JQ hn;refine⟨now,e,fun b hm=>?_⟩;rcases hb b hm with w|⟨w1,w2,w3⟩
  ·exact .inl w
  ·exact .inr ⟨JQ,JQ,w3⟩
theorem HL.one{L:List Nd}{lab:Nat->List Int}{a to:Nat}{st now:List Int}{n:Nd}(hn:L[a]?=some n)(h1:nowN n (lab a)=some st)(h2:∀b∈folN n,b=to):HL L lab a 1 to st:=by intro i n' q1 q2 hn';obtain rfl:i=a:=JQ;obtain rfl:=vx (hn.symm.trans hn');exact⟨st,h1,fun b hb=>.inl ⟨h2 b hb,rfl⟩⟩
theorem now_same{n:Nd}(h5:(n.kind==5)=false)(h6:(n.kind==6)=false)(h9:(n.kind==9)=false)(st:List Int):nowN n st=some st:=by unfold nowN;rw[h5,h6,h9];rfl
theorem sj(st:List Int)(l:Int)(n:Nd)(h6:n.kind=6)(ht:n.thing=l):nowN n (st++[l])=some st:=by
 unfold nowN;have e1:(((st++[l]).length:Int)==0)=false:=by
  rw[uR];have:((st.length+[l].length:Nat):Int)≠0:=by show((st.length+1:Nat):Int)≠0;omega
  simpa using this
 have e2:(st++[l]).length-1=st.length:=by rw[uR];rfl
 rw[h6,ht];show(bif (((st++[l]).length:Int)==0) then none else _)=_;rw[e1,lh,e2];have e3:(st++[l]).getD st.length 0=l:=by rw[t5,wS (t9 _),Hm];rfl
 rw[e3];have e4:(l != l)=false:=JX;rw[e4,lh,List.take_left'];rfl
theorem HL.line{L:List Nd}{lab:Nat->List Int}{a k to:Nat}{st:List Int}(hf:dQ (qP L) (.line k) a to)(hk:∀i n,a<=i->i<a+k->L[i]?=some n->nowN n st=some st)(hl:∀i,i<k->lab (a+i)=st):HL L lab a k to st:=by
 intro i n h1 h2 hn;have hli:=hl (i-a) JQ;rw[(JQ:a+(i-a)=i)] at hli;refine⟨st,by rw[hli];exact hk i n h1 h2 hn,fun b hb=>?_⟩;have e:=hf (i-a) JQ;rw[(JQ:a+(i-a)=i),ig hn] at e;rw[e,xB] at hb;rcases goOn_cases (k-(i-a+1)) (i+1) to with⟨r,r'⟩|⟨r,r'⟩
 ·exact .inl ⟨hb.trans r',rfl⟩
 ·rw[r'] at hb;have:=hl (i+1-a) JQ;rw[(JQ:a+(i+1-a)=i+1)] at this;exact .inr ⟨JQ,JQ,by rw[hb];exact this⟩
mutual
theorem uQ(c:aJ):∀(e:Expr)(a m to:Nat),∀n∈gC c e a m to,∀st,nowN n st=some st
 | .mk kind op _ name kids _,a,m,to=>by
  have h0:=fun a m to=>kg c kids a m to;have h1:=fun a m to=>t7 c kids a m to;unfold gC;cases kind==1 with
  |true=>exact ba
  |false=>
  cases kind==2 with
  |true=>
   cases decide (localI c.p c.t name>=0) with
   |true=>exact ba
   |false=>exact aX (now_same rfl rfl rfl) ba
  |false=>
  cases two op with
  |true=>exact bU (h0 _ _ _) (bU (h1 _ _ _) (aX (now_same rfl rfl rfl) ba))
  |false=>exact bU (h0 _ _ _) (aX (now_same rfl rfl rfl) ba)
theorem kg(c:aJ):∀(l:List Expr)(a m to:Nat),∀n∈cM c l a m to,∀st,nowN n st=some st
 |[],a,m,to=>by unfold cM;exact ba
 |e::_,a,m,to=>by unfold cM;exact uQ c e a m to
theorem t7(c:aJ):∀(l:List Expr)(a m to:Nat),∀n∈eh c l a m to,∀st,nowN n st=some st
 |[],a,m,to=>by unfold eh;exact ba
 |_::r,a,m,to=>by unfold eh;exact kg c r a m to
end
theorem At.back{L D:List Nd}{a i:Nat}{n:Nd}(h:At L a D)(h1:a<=i)(h2:i<a+D.length)(hn:L[i]?=some n):n∈D:=by obtain⟨d,hd⟩:∃d,D[i-a]?=some d:=⟨_,ab JQ⟩;have:=h _ _ hd;rw[(JQ:a+(i-a)=i),hn] at this;cases this;exact i3 hd
theorem dH(c:aJ){L:List Nd}{lab:Nat->List Int}{a m to:Nat}{st:List Int}(l:List Expr)(h:At L a (cM c l a m to))(hl:∀i,i<sz0 c l->lab (a+i)=st):HL L lab a (sz0 c l) to st:=
 HL.line (lL c L l a m to h) (fun i n h1 h2 hn=>kg c l a m to n (h.back h1 (by rw[aH];exact h2) hn) st) hl
theorem gU{lab:Nat->List Int}{a k:Nat}{st:List Int}(h:iF lab a (List.replicate (k+1) st)):(∀i,i<k->lab (a+i)=st)/\lab (a+k)=st:=⟨fun i hi=>h.rep JQ,h.rep JQ⟩
mutual
theorem xA(c:aJ):∀(x:Stmt)(st:List Int),0<szS c x->(AL c x st)[0]?=some st
 | .mk kind name _ e body els _,st,hp=>by
  unfold AL;unfold szS at hp;have hr:∀k Y,(List.replicate (k+1) st++Y)[0]?=some st:=fun k Y=>by rw[Ie];rfl
  have hr0:∀k,(List.replicate (k+1) st)[0]?=some st:=fun k=>by rw[Ie];rfl
  cases h1:kind==1 with
  |true=>exact hr0 _
  |false=>
  cases h2:kind==2 with
  |true=>cases decide (localI c.p c.t name>=0);exact hr0 _;exact hr0 _
  |false=>
  cases h3:kind==3 with
  |true=>exact hr _ _
  |false=>
  cases h4:kind==4 with
  |true=>exact hr _ _
  |false=>
  cases h5:kind==5 with
  |true=>rfl
  |false=>
  cases h6:kind==6 with
  |true=>exact hr0 _
  |false=>rw[h1,h2,h3,h4,h5,h6] at hp;exact absurd hp (Nat.lt_irrefl 0)
theorem ez(c:aJ):∀(l:List Stmt)(st:List Int),0<szB c l->(mL c l st)[0]?=some st
 |[],st,hp=>by unfold szB at hp;omega
 |x::r,st,hp=>by
  have hx:=xA c x st;have hr:=ez c r st;unfold szB at hp;unfold mL;rcases HQ (szS c x) with q|q
  ·have:AL c x st=[]:=GF (by rw[iQ,q]);rw[this,HA];exact hr JQ
  ·rw[v9 (by rw[iQ];exact q)];exact hx q
end
mutual
theorem xR(c:aJ)(L:List Nd)(lab:Nat->List Int):∀(x:Stmt)(a m to:Nat)(st:List Int),At L a (gb c x a m to)->iF lab a (AL c x st)->HL L lab a (szS c x) to st
 | .mk kind name other e body els _,a,m,to,st,h,hl=>by
  have hb:=fun a m to st=>eS c L lab body a m to st;have he:=fun a m to st=>eS c L lab els a m to st;have hb0:=fun st=>ez c body st;have he0:=fun st=>ez c els st;unfold gb at h;unfold AL at hl;unfold szS;cases k1:kind==1 with
  |true=>
   rw[k1] at h hl;simp only[r7,lh] at h hl |-
   obtain⟨a0,h⟩:=h.app (aH ..);obtain⟨l0,l1⟩:=gU hl;refine HL.seq (dH c e a0 l0) (HL.one (now:=st) h.cons.1 ?_ ?_) (fun _=>l1);·rw[l1];unfold iW;cases decide (localI c.p c.t name>=0)<;>exact now_same rfl rfl rfl st
   ·intro b hb;rw[folN_one (to:=to) (by unfold iW;cases decide (localI c.p c.t name>=0)<;>rfl) (by unfold iW;cases decide (localI c.p c.t name>=0)<;>rfl) (by unfold iW;cases decide (localI c.p c.t name>=0)<;>rfl),xB] at hb;exact hb
  |false=>
  rw[k1] at h hl;cases k2:kind==2 with
  |true=>
   rw[k2] at h hl;simp only[r7,lh] at h hl |-
   obtain⟨a0,h⟩:=h.app (aH ..);unfold mA at h;cases hd:decide (localI c.p c.t name>=0) with
   |true=>
    rw[hd] at h hl;obtain⟨l0,l1⟩:=gU hl;refine HL.seq (dH c e a0 l0) (HL.one (now:=st) h.cons.1 (by rw[l1];exact now_same rfl rfl rfl st) (fun b hb=>?_)) (fun _=>l1);rw[folN_one (to:=to) rfl rfl rfl,xB] at hb;exact hb
   |false=>
    rw[hd] at h hl;simp only[lh] at h hl |-
    have l2:lab (a+sz0 c e+1)=st:=hl.rep (i:=sz0 c e+1) JQ;obtain⟨l0,l1⟩:=gU (k:=sz0 c e) (a:=a) (st:=st) (lab:=lab) (fun i v ev=>by
     rw[G1] at ev;split at ev;·cases ev;exact hl.rep JQ
     ·cases ev)
    refine HL.seq (dH c e a0 l0) (HL.seq (ks:=1) (kt:=1) (HL.one (now:=st) h.cons.1 (by rw[l1];exact now_same rfl rfl rfl st) (fun b hb=>?_)) (HL.one (now:=st) h.cons.2.cons.1 (by rw[l2];exact now_same rfl rfl rfl st) (fun b hb=>?_)) (fun _=>l2)) (fun _=>l1);·rw[folN_one (to:=a+sz0 c e+1) rfl rfl rfl,xB] at hb;exact hb
    ·rw[folN_one (to:=to) rfl rfl rfl,xB] at hb;exact hb
  |false=>
  rw[k2] at h hl;cases k3:kind==3 with
  |true=>
   rw[k3] at h hl;simp only[r7,lh] at h hl |-
   obtain⟨a0,h⟩:=h.app (aH ..);obtain⟨hn,h⟩:=h.cons;obtain⟨a1,a2⟩:=h.app (aV ..);obtain⟨lr,hl⟩:=hl.app GE;obtain⟨l0,l1⟩:=gU lr;rw[<-Hn] at hl;obtain⟨lb,le⟩:=hl.app (fk ..);have hB:=hb _ _ _ st a1 lb;have hE:=he _ _ _ st a2 le;have hBh:0<szB c body->lab (a+sz0 c e+1)=st:=fun q=>lb 0 st (hb0 st q);have hEh:0<szB c els->lab (a+sz0 c e+1+szB c body)=st:=fun q=>le 0 st (he0 st q);refine HL.seq (by rw[dW JQ];exact dH c e a0 l0) ?_ (fun _=>l1);intro i n q1 q2 hn';by_cases qa:i=a+sz0 c e
   ·subst qa;obtain rfl:=vx (hn.symm.trans hn');refine⟨st,by rw[l1];exact now_same rfl rfl rfl st,fun b hm=>?_⟩;rw[mu rfl rfl rfl] at hm;rcases mem_br.1 hm with w|w
    ·rcases goOn_cases (szB c body) (a+sz0 c e+1) to with⟨r,r'⟩|⟨r,r'⟩<;>rw[r'] at w
     ·exact .inl ⟨w,rfl⟩
     ·exact .inr ⟨JQ,JQ,by rw[w];exact hBh r⟩
    ·rcases goOn_cases (szB c els) (a+sz0 c e+1+szB c body) to with⟨r,r'⟩|⟨r,r'⟩<;>rw[r'] at w
     ·exact .inl ⟨w,rfl⟩
     ·exact .inr ⟨JQ,JQ,by rw[w];exact hEh r⟩
   by_cases qb:i<a+sz0 c e+1+szB c body
   ·obtain⟨now,e1,e2⟩:=hB i n JQ qb hn';refine⟨now,e1,fun b hm=>?_⟩;rcases e2 b hm with w|⟨w1,w2,w3⟩
    ·exact .inl w
    ·exact .inr ⟨JQ,JQ,w3⟩
   ·obtain⟨now,e1,e2⟩:=hE i n JQ JQ hn';refine⟨now,e1,fun b hm=>?_⟩;rcases e2 b hm with w|⟨w1,w2,w3⟩
    ·exact .inl w
    ·exact .inr ⟨JQ,JQ,w3⟩
  |false=>
  rw[k3] at h hl;cases k4:kind==4 with
  |true=>
   rw[k4] at h hl;simp only[r7,lh] at h hl |-
   obtain⟨a0,h⟩:=h.app (aH ..);obtain⟨hn,h⟩:=h.cons;obtain⟨lr,hl⟩:=hl.app GE;obtain⟨l0,l1⟩:=gU lr;rw[<-Hn] at hl;have hB:=hb _ _ _ st h hl;have hBh:0<szB c body->lab (a+sz0 c e+1)=st:=fun q=>hl 0 st (hb0 st q);have hh:lab a=st:=by
    rcases HQ (sz0 c e) with q|q
    ·rw[q] at l1;exact l1
    ·exact l0 0 q
   have hE:=dH c e a0 l0;intro i n q1 q2 hn';by_cases qe:i<a+sz0 c e
   ·obtain⟨now,e1,e2⟩:=hE i n q1 qe hn';refine⟨now,e1,fun b hm=>?_⟩;rcases e2 b hm with⟨w,w'⟩|⟨w1,w2,w3⟩
    ·exact .inr ⟨JQ,JQ,by rw[w,l1,w']⟩
    ·exact .inr ⟨JQ,JQ,w3⟩
   by_cases qa:i=a+sz0 c e
   ·subst qa;obtain rfl:=vx (hn.symm.trans hn');refine⟨st,by rw[l1];exact now_same rfl rfl rfl st,fun b hm=>?_⟩;rw[mu rfl rfl rfl] at hm;rcases mem_br.1 hm with w|w
    ·rcases goOn_cases (szB c body) (a+sz0 c e+1) a with⟨r,r'⟩|⟨r,r'⟩<;>rw[r'] at w
     ·exact .inr ⟨JQ,JQ,by rw[w];exact hh⟩
     ·exact .inr ⟨JQ,JQ,by rw[w];exact hBh r⟩
    ·exact .inl ⟨w,rfl⟩
   ·obtain⟨now,e1,e2⟩:=hB i n JQ JQ hn';refine⟨now,e1,fun b hm=>?_⟩;rcases e2 b hm with⟨w,w'⟩|⟨w1,w2,w3⟩
    ·exact .inr ⟨JQ,JQ,by rw[w,hh,w']⟩
    ·exact .inr ⟨JQ,JQ,w3⟩
  |false=>
  rw[k4] at h hl;cases k5:kind==5 with
  |true=>
   rw[k5] at h hl;simp only[r7,lh] at h hl |-
   obtain⟨hn,h⟩:=h.cons;obtain⟨a1,h⟩:=h.app (aV ..);obtain⟨l0,hl⟩:=hl.cons;obtain⟨lb,hl⟩:=hl.app (fk ..);have lu:=hl.cons.1;have hu:=h.cons.1;have hB:=hb _ _ _ _ a1 lb;have h1:lab (a+1)=st++[findI c.p.locks name 0]:=by
    rcases HQ (szB c body) with q|q
    ·rw[q] at lu;exact lu
    ·exact lb 0 _ (hb0 _ q)
   intro i n q1 q2 hn';by_cases qa:i=a
   ·subst qa;obtain rfl:=vx (hn.symm.trans hn');refine⟨st++[findI c.p.locks name 0],by rw[l0];rfl,fun b hm=>?_⟩;rw[folN_one (to:=i+1) rfl rfl rfl,xB] at hm;exact .inr ⟨JQ,JQ,by rw[hm];exact h1⟩
   by_cases qb:i<a+1+szB c body
   ·obtain⟨now,e1,e2⟩:=hB i n JQ qb hn';refine⟨now,e1,fun b hm=>?_⟩;rcases e2 b hm with⟨w,w'⟩|⟨w1,w2,w3⟩
    ·exact .inr ⟨JQ,JQ,by rw[w,lu,w']⟩
    ·exact .inr ⟨JQ,JQ,w3⟩
   ·obtain rfl:i=a+1+szB c body:=JQ;obtain rfl:=vx (hu.symm.trans hn');refine⟨st,by rw[lu];exact sj _ _ _ rfl rfl,fun b hm=>?_⟩;rw[folN_one (to:=to) rfl rfl rfl,xB] at hm;exact .inl ⟨hm,rfl⟩
  |false=>
  rw[k5] at h hl;cases k6:kind==6 with
  |true=>
   rw[k6] at h hl;simp only[r7,lh] at h hl |-
   obtain⟨a0,h⟩:=h.app (aH ..);obtain⟨l0,l1⟩:=gU hl;refine HL.seq (dH c e a0 l0) (HL.one (now:=st) h.cons.1 (by rw[l1];exact now_same rfl rfl rfl st) (fun b hb=>?_)) (fun _=>l1);rw[folN_one (to:=to) rfl rfl rfl,xB] at hb;exact hb
  |false=>exact .zero
theorem eS(c:aJ)(L:List Nd)(lab:Nat->List Int):∀(l:List Stmt)(a m to:Nat)(st:List Int),At L a (bH c l a m to)->iF lab a (mL c l st)->HL L lab a (szB c l) to st
 |[],a,m,to,st,h,hl=>by unfold szB;exact .zero
 |x::r,a,m,to,st,h,hl=>by have hx:=fun a m to st=>xR c L lab x a m to st;have hr:=fun a m to st=>eS c L lab r a m to st;have hr0:=fun st=>ez c r st;unfold bH at h;unfold mL at hl;unfold szB;obtain⟨a1,a2⟩:=h.app (gm ..);obtain⟨l1,l2⟩:=hl.app (iQ ..);exact HL.seq (hx _ _ _ st a1 l1) (hr _ _ _ st a2 l2) (fun q=>l2 0 st (hr0 st q))
end
structure HI(N:Nat)(lab:Nat->List Int)(s:HSt):Prop where
 len:s.1.length=N
 nd:s.2.Nodup
 ok:∀x∈s.2,x<N/\lkAt s.1 x=lab x
theorem zE{lk:List (Option (List Int))}{y:Nat}{now:List Int}(hy:y<lk.length)(x:Nat):lkAt (lk.set y (some now)) x=if x=y then now else lkAt lk x:=by
 unfold lkAt;rw[t5,t5];by_cases q:x=y;·subst q;rw[Gw rfl,GD hy];rfl
 ·rw[GN q,GW (fun e=>q e.symm)]
theorem AU:∀l:List Int,eqI l l=true
 |[]=>rfl
 |a::l=>by have e:(a != a)=false:=JX;show(bif a != a then false else eqI l l)=true;rw[e,lh,AU l]
theorem Dw(l:List Int):eqI2 l l=true:=by have e:((l.length:Int) != (l.length:Int))=false:=JX;unfold eqI2;rw[e,lh,AU]
theorem vZ{N:Nat}{lab:Nat->List Int}{now:List Int}:∀(ys:List Nat)(s:HSt),HI N lab s->(∀y∈ys,y<N/\lab y=now)->∃s',inH now ys s=(s',none)/\HI N lab s'
 |[],s,h,_=>⟨s,rfl,h⟩
 |y::r,s,h,hy=>by
  obtain⟨y1,y2⟩:=hy y (.head _);have hr:=fun y hm=>hy y (.tail _ hm);unfold inH;cases hc:s.2.contains y with
  |true=>
   have hm:y∈s.2:=by simpa using hc
   rw[r7,(h.ok y hm).2,y2,Dw,r7];exact vZ r s h hr
  |false=>
   have hm:y∉s.2:=by simpa using hc
   rw[lh];refine vZ r _ ⟨?_,?_,fun x hx=>?_⟩ hr
   ·show(s.1.set y (some now)).length=N;rw[G0];exact h.len
   ·show(s.2++[y]).Nodup;rw[HW];exact⟨h.nd,JX,fun a ha b hb=>by rw[xB] at hb;subst hb;intro e;exact hm (e ▸ ha)⟩
   ·have hx:x∈s.2++[y]:=hx;show x<N/\lkAt (s.1.set y (some now)) x=lab x;rw[zE (by rw[h.len];exact y1)];rcases FK.1 hx with q|q
    ·have ne:x≠y:=fun e=>hm (e ▸ q);rw[GN ne];exact h.ok x q
    ·rw[xB] at q;rw[Gw q,q];exact⟨y1,y2.symm⟩
theorem tV{g:Gr}{lab:Nat->List Int}(hg:∀i n,g.nodes[i]?=some n->∃now,nowN n (lab i)=some now/\∀b∈fol g i,b<g.nodes.length/\lab b=now):∀(f:Nat)(s:HSt)(k:Nat),HI g.nodes.length lab s->k<=s.2.length->g.nodes.length+1<=f+k->(vL g f s k).2=-1
 |0,s,k,h,hk,hf=>by have:=cI g.nodes.length s.2 h.nd (fun x hx=>(h.ok x hx).1);omega
 |f+1,s,k,h,hk,hf=>by
  unfold vL;cases ha:s.2[k]? with
  |none=>rfl
  |some a=>
   have hm:=i3 ha;obtain⟨a1,a2⟩:=h.ok a hm;obtain⟨n,hn⟩:∃n,g.nodes[a]?=some n:=⟨_,ab a1⟩;obtain⟨now,e1,e2⟩:=hg a n hn;obtain⟨s',e3,h'⟩:=vZ (fol g a) s h e2;simp only[hn,a2,e1,e3];have hk':=(a9.1 ha).1;refine tV hg f s' (k+1) h' ?_ JQ;have:∀(ys:List Nat)(s s':HSt),inH now ys s=(s',none)->s.2.length<=s'.2.length:=by
    intro ys;induction ys with
    |nil=>intro s s' e;cases e;exact t9 _
    |cons y r ih=>
     intro s s' e;unfold inH at e;revert e;cases s.2.contains y with
     |true=>
      cases eqI2 (lkAt s.1 y) now with
      |true=>intro e;exact ih _ _ e
      |false=>intro e;cases e
     |false=>
      intro e;have:=ih _ _ e;have q:(s.2++[y]).length<=s'.2.length:=this;rw[uR] at q;omega
   have:=this _ _ _ e3;omega
theorem zP{g:Gr}{lab:Nat->List Int}(h0:lab 0=[])(hN:0<g.nodes.length)(hg:∀i n,g.nodes[i]?=some n->∃now,nowN n (lab i)=some now/\∀b∈fol g i,b<g.nodes.length/\lab b=now):(heldR g).2=-1:=by refine tV hg _ _ 0 ⟨GE,JX,fun x hx=>?_⟩ (x5 _) (t9 _);have hx:x∈[0]:=hx;rw[xB] at hx;subst hx;refine⟨hN,?_⟩;show lkAt (List.replicate g.nodes.length none) 0=lab 0;rw[h0];unfold lkAt;rw[t5,G1,Gw hN];rfl
theorem kY(p:Prg):∀(l:List Thread)(i:Nat)(gs:List Gr),(∀th∈l,th.locals.length<=64)->lowTs p i l=some gs->gs.length=l.length/\∀j th,l[j]?=some th->gs[j]?=some (thrG p (i+j) th)/\szB (thrC p (i+j) th) th.body<4096
 |[],i,gs,_,h=>by cases h;exact⟨rfl,fun j th e=>by cases e⟩
 |x::r,i,gs,hl,h=>by
  unfold lowTs at h;cases ho:(endS (blockS (thrC p i x) x.body (low0 x))).over with
  |true=>rw[ho] at h;cases h
  |false=>
   rw[ho,lh] at h;cases hr:lowTs p (i+1) r with
   |none=>rw[hr] at h;cases h
   |some q=>
    rw[hr] at h;cases h;obtain⟨e1,e2⟩:=EJ p i x (hl x (.head _)) ho;obtain⟨e3,e4⟩:=kY p r (i+1) q (fun th hm=>hl th (.tail _ hm)) hr;refine⟨by rw[E0,E0,e3],fun j th e=>?_⟩;cases j with
    |zero=>
     cases e;exact⟨E8 some e1,e2⟩
    |succ j=>
     have:=e4 j th e
     rwa [(JQ:i+1+j=i+(j+1))] at this
def Er:List ByteArray->List ByteArray->Prop
 |_,[]=>True
 |l,n::r=>nameB n=true/\hasS l n=false/\Er (kL l n) r
theorem qO:∀(l:List ByteArray)(s n:ByteArray),hasS (kL l s) n=(hasS l n||n.toList==s.toList)
 |[],s,n=>by show(bif n.toList==s.toList then true else false)=(false||_);cases n.toList==s.toList<;>rfl
 |x::r,s,n=>by
  show hasS (bif s.toList==x.toList then s::r else x::kL r s) n=((bif n.toList==x.toList then true else hasS r n)||n.toList==s.toList);cases h:s.toList==x.toList with
  |true=>
   have e:s.toList=x.toList:=eq_of_beq h;show(bif n.toList==s.toList then true else hasS r n)=_;rw[e];cases n.toList==x.toList<;>simp
  |false=>
   show(bif n.toList==x.toList then true else hasS (kL r s) n)=_;rw[qO r s n];cases n.toList==x.toList<;>rfl
def sE(a b:ByteArray):Prop:=(b.toList==a.toList)=false
theorem xp:∀(ns l:List ByteArray),(∀n∈ns,nameB n=true)->(∀n∈ns,hasS l n=false)->ns.Pairwise sE->Er l ns
 |[],_,_,_,_=>trivial
 |n::r,l,h1,h2,h3=>by have h3:=List.pairwise_cons.1 h3;refine⟨h1 n (.head _),h2 n (.head _),xp r _ (fun x hx=>h1 x (.tail _ hx)) (fun x hx=>?_) h3.2⟩;rw[qO,h2 x (.tail _ hx),GU];exact h3.1 x hx
theorem Au:∀(gs:List Gr)(l:List ByteArray),Er l (gs.map (·.name))->nm3 l gs=true
 |[],_,_=>rfl
 |g::r,l,h=>by obtain⟨h1,h2,h3⟩:=h;show(bif addB l g.name then nm3 (kL l g.name) r else false)=true;unfold addB;rw[h1,h2];exact Au r _ h3
theorem Bp(gs:List Gr):∀(ds:List Decl)(l:List ByteArray),Er l (ds.map (·.name)++gs.map (·.name))->(∀d∈ds,d.word=0)->nm2 gs l ds=true
 |[],l,h,_=>Au gs l h
 |d::r,l,h,hw=>by obtain⟨h1,h2,h3⟩:=h;show(bif addB l d.name then(bif d.word != 0 then false else nm2 gs (kL l d.name) r) else false)=true;unfold addB;rw[h1,h2,hw d (.head _)];exact Bp gs r _ h3 (fun x hx=>hw x (.tail _ hx))
theorem Bl(ks:List Decl)(gs:List Gr)(hw:∀d∈ks,d.word=0):∀(ds:List Decl)(l:List ByteArray),Er l (ds.map (·.name)++(ks.map (·.name)++gs.map (·.name)))->nm1 ks gs l ds=true
 |[],l,h=>Bp gs ks l h hw
 |d::r,l,h=>by obtain⟨h1,h2,h3⟩:=h;show(bif addB l d.name then nm1 ks gs (kL l d.name) r else false)=true;unfold addB;rw[h1,h2];exact Bl ks gs hw r _ h3
theorem eU{l:List Decl}{n:ByteArray}(h:hasD l n=false):∀x∈l.map (·.name),sE x n:=fun x hx=>by
 obtain⟨d,hd,rfl⟩:=GM.1 hx;unfold hasD at h;have:=Iq.1 h d hd;have h2:seq d.name n=false:=by simpa using this
 rw[seq_comm] at h2;exact h2
theorem l9{l:List Decl}{n:ByteArray}{k:Nat}(h:decide (findI l n k>=0)=false):hasD l n=false:=by rw[<-a7 l n k];exact h
theorem kO{l:List ByteArray}(h:∀i n,l[i]?=some n->∀x∈l.take i,sE x n):l.Pairwise sE:=by rw[Iy];intro i j hi hj hij;refine h j l[j] (ab hj) l[i] ?_;exact i3 (i:=i) (by rw[Ba,Gw hij];exact ab hi)
theorem jM{p:Prg}{kind:Int}{most:Nat}{l:List Decl}(h:(declsF p kind most [] l).rule=0):(l.map (·.name)).Pairwise sE:=by refine kO fun i n hi=>?_;rw[z5,z9] at hi;obtain⟨d,hd,rfl⟩:=hi;have:=(lI (l:=l) (gG p kind most l [] h i d hd)).2.1;unfold twiceB at this;simp only[G8] at this;rw[<-H7];exact eU (l9 this.1.1)
theorem qw{p:Prg}{kind:Int}{most:Nat}{l:List Decl}(h:(declsF p kind most [] l).rule=0):∀d∈l,nameB d.name=true/\wordI kind d.word=false/\(kind=1->hasD p.shared d.name=false):=fun d hd=>by obtain⟨i,hi,e⟩:=Gy.1 hd;have:=lI (l:=l) (gG p kind most l [] h i d (by rw[ab hi,e]));refine⟨this.1,this.2.2.2,fun hk=>?_⟩;have q:=this.2.1;subst hk;unfold twiceB at q;simp only[G8] at q;have q:=q.1.2;have e1:((1:Int)==1||(1:Int)==2)=true:=rfl;rw[e1,GS] at q;exact l9 q
theorem zo{p:Prg}(hp:xq p){gs:List Gr}(hl:gs.length=p.threads.length)(hg:gs.map (·.name)=p.threads.map (·.name)):namedB ⟨p.shared,p.locks,gs⟩=true:=by
 have s1:=dC (most:=64) hp.shared;have s2:=dC (most:=16) hp.locks;have s3:p.threads.length<=8:=by
  rcases HQ p.threads.length with q|q
  ·omega
  ·obtain⟨d,hd⟩:∃d,p.threads[p.threads.length-1]?=some d:=⟨_,ab JQ⟩;have:=(hp.threads _ d hd).few;omega
 have d1:=qw hp.shared;have d2:=qw hp.locks;unfold namedB sZ;rw[Gz (JQ:¬ ((p.shared.length:Int) > 64)),Gz (JQ:¬ ((p.locks.length:Int) > 16)),Gz (JQ:¬ ((gs.length:Int) > 8))];have tm:∀th∈p.threads,∃i,p.threads[i]?=some th/\FG p i th:=fun th hm=>by
  obtain⟨i,hi,e⟩:=Gy.1 hm;have:p.threads[i]?=some th:=by rw[ab hi,e]
  exact⟨i,this,hp.threads i th this⟩
 refine Bl _ _ (fun d hd=>?_) _ _ (xp _ _ (fun n hn=>?_) (fun n _=>rfl) ?_)
 ·have:=(d2 d hd).2.1;unfold wordI at this;have e:((1:Int)==0&&d.word == -9223372036854775808)=false:=rfl;rw[e,GU] at this;simpa using this
 ·rw[hg] at hn;rcases FK.1 hn with hn|hn
  ·obtain⟨d,hd,rfl⟩:=GM.1 hn;exact(d1 d hd).1
  rcases FK.1 hn with hn|hn
  ·obtain⟨d,hd,rfl⟩:=GM.1 hn;exact(d2 d hd).1
  ·obtain⟨th,hm,rfl⟩:=GM.1 hn;obtain⟨i,_,hi⟩:=tm th hm;exact hi.name
 ·show(p.shared.map (·.name)++(p.locks.map (·.name)++gs.map (·.name))).Pairwise sE;rw[hg,JP,JP];refine⟨jM hp.shared,⟨jM hp.locks,kO fun i n hi=>?_,fun a ha b hb=>?_⟩,fun a ha b hb=>?_⟩
  ·rw[z5,z9] at hi;obtain⟨th,ht,rfl⟩:=hi;have h1:=(hp.threads i th ht).first;have h2:=gS p.threads th.name 0 i th ht (by show(th.name.toList==th.name.toList)=true;simp);rw[E7,h1] at h2;intro x hx;rw[<-H7] at hx;obtain⟨d,hd,rfl⟩:=GM.1 hx;unfold hasT at h2;have:=Iq.1 h2.symm d hd;have h3:seq d.name th.name=false:=by simpa using this
   rw[seq_comm] at h3;exact h3
  ·obtain⟨th,hm,rfl⟩:=GM.1 hb;obtain⟨i,_,hi⟩:=tm th hm;exact eU (l9 hi.locks) a ha
  ·rcases FK.1 hb with hb|hb
   ·obtain⟨d,hd,rfl⟩:=GM.1 hb;exact eU ((d2 d hd).2.2 rfl) a ha
   ·obtain⟨th,hm,rfl⟩:=GM.1 hb;obtain⟨i,_,hi⟩:=tm th hm;exact eU (l9 hi.shared) a ha
theorem yr(p:Prg)(t:Nat)(th:Thread):(heldR (thrG p t th)).2=-1:=by
 have hw:=B8 p t th;have hlen:=kj p t th;have hat:At (ko p t th) 0 (ko p t th):=fun i n e=>by rw[E7];exact e
 have hap:=hat.app (aV ..);rw[E7] at hap;have hend:=hap.2.cons.1;have hB:=eS (thrC p t th) (ko p t th) (fun i=>(mL (thrC p t th) th.body []).getD i []) th.body 0 (locN th) (szB (thrC p t th) th.body) [] hap.1 (fun i v e=>by show(mL (thrC p t th) th.body []).getD (0+i) []=v;rw[E7,t5,e];rfl)
 have hle:(mL (thrC p t th) th.body []).getD (szB (thrC p t th) th.body) []=[]:=by rw[t5,yB (by rw[fk];exact t9 _)];rfl
 refine zP (lab:=fun i=>(mL (thrC p t th) th.body []).getD i []) ?_ (by show 0<(ko p t th).length;omega) fun i n hn=>?_
 ·show(mL (thrC p t th) th.body []).getD 0 []=[];rcases HQ (szB (thrC p t th) th.body) with q|q
  ·rw[q] at hle;exact hle
  ·rw[t5,ez _ _ _ q];rfl
 ·have hn:(ko p t th)[i]?=some n:=hn;have hi:i<(ko p t th).length:=(a9.1 hn).1;show∃now,nowN n ((mL (thrC p t th) th.body []).getD i [])=some now/\∀b∈qP (ko p t th) i,b<(ko p t th).length/\(mL (thrC p t th) th.body []).getD b []=now;rcases HD i (szB (thrC p t th) th.body) with q|q
  ·obtain⟨now,e1,e2⟩:=hB i n (x5 _) JQ hn;refine⟨now,e1,fun b hb=>?_⟩;rw[ig hn] at hb;rcases e2 b hb with⟨w,w'⟩|⟨_,w2,w3⟩
   ·exact⟨JQ,by rw[w,w'];exact hle⟩
   ·exact⟨JQ,w3⟩
  ·obtain rfl:i=szB (thrC p t th) th.body:=JQ;obtain rfl:=vx (hend.symm.trans hn);refine⟨[],by rw[hle];rfl,fun b hb=>?_⟩;rw[ig hn] at hb;cases hb
theorem kH{u:Un}{g:Gr}:∀(l:List Nd)(i:Int),(∀n∈l,rightB u g n=true)->mW u g l i=none
 |[],_,_=>rfl
 |n::r,i,h=>by show(bif rightB u g n then mW u g r (i+1) else some i)=none;rw[h n (.head _)];exact kH r _ fun x hx=>h x (.tail _ hx)
theorem A7{u:Un}:∀(gs:List Gr)(t:Int),(∀g∈gs,fq g=false/\(∀n∈g.nodes,rightB u g n=true)/\(heldR g).2=-1)->ckG u gs t=(0,0,0)
 |[],_,_=>rfl
 |g::r,t,h=>by obtain⟨h1,h2,h3⟩:=h g (.head _);show(bif fq g then _ else uO g t (ckG u r (t+1)) (mW u g g.nodes 0))=_;rw[h1,lh,kH _ _ h2];show(bif decide ((heldR g).2>=0) then _ else _)=_;rw[h3];exact A7 r _ fun x hx=>h x (.tail _ hx)
theorem xc{p:Prg}{t:Nat}{th:Thread}(ht:p.threads[t]?=some th)(name:ByteArray):localI p t name<(locN th:Nat):=by unfold localI;rw[GN JQ,GY,ht];have:=iK th.locals name 0;rw[E7] at this;unfold locN;rw[ad];exact this
theorem f6{p:Prg}(hp:xq p){t:Nat}{th:Thread}(ht:p.threads[t]?=some th)(hz:szB (thrC p t th) th.body<4096)(gs:List Gr):∀n∈(thrG p t th).nodes,rightB ⟨p.shared,p.locks,gs⟩ (thrG p t th) n=true:=by have hlen:=kj p t th;have hc:tC (thrC p t th) ⟨p.shared,p.locks,gs⟩ (thrG p t th) (locN th+slB (thrC p t th) th.body) (szB (thrC p t th) th.body+1):=⟨rfl,hlen,JQ,rfl,rfl,fun name=>by have:=xc ht name;show localI p t name<_;omega⟩;have hk:=gd (thrC p t th) th.body 1 (hp.threads t th ht).body;exact bU (dR hc th.body 0 (locN th) _ hk JQ (t9 _) JQ) (aX (uT hc.slots hc.nodes JQ) ba)
theorem uI{p:Prg}(hp:xq p){t:Nat}{th:Thread}(ht:p.threads[t]?=some th)(hz:szB (thrC p t th) th.body<4096):fq (thrG p t th)=false:=by
 have hlen:=kj p t th;have hl:=dC (most:=64) (hp.threads t th ht).locals;have hs:=nM (thrC p t th) th.body;have e1:locN th<=64:=by unfold locN;rw[ad];exact hl
 unfold fq;simp only[G8,IN];show((((¬ ((locN th:Nat):Int)<0/\¬ ((locN th:Nat):Int) > 64)/\¬ ((locN th+slB (thrC p t th) th.body:Nat):Int)<(locN th:Nat))/\¬ ((locN th+slB (thrC p t th) th.body:Nat):Int) > 4160)/\¬ ((ko p t th).length:Int)<1)/\¬ ((ko p t th).length:Int) > 4096;omega
structure UnOk(p:Prg)(gs:List Gr):Prop where
 prg:xq p
 len:gs.length=p.threads.length
 at_:∀t th,p.threads[t]?=some th->gs[t]?=some (thrG p t th)/\szB (thrC p t th) th.body<4096
theorem Dq{p:Prg}{gs:List Gr}(hc:(checkW p).1=0)(h:lowTs p 0 p.threads=some gs):UnOk p gs:=by
 have hp:=w7 hc;have hm:∀th∈p.threads,th.locals.length<=64:=fun th hm=>by obtain⟨i,hi,e⟩:=Gy.1 hm;exact dC (most:=64) (hp.threads i th (by rw[ab hi,e])).locals
 obtain⟨h1,h2⟩:=kY p p.threads 0 gs hm h;have h3:∀t th,p.threads[t]?=some th->gs[t]?=some (thrG p t th)/\szB (thrC p t th) th.body<4096:=fun t th e=>by have:=h2 t th e;rwa [E7] at this
 exact⟨hp,h1,h3⟩
theorem sX{p:Prg}{gs:List Gr}(hO:UnOk p gs):gj ⟨p.shared,p.locks,gs⟩=(0,0,0):=by
 have hp:=hO.prg;have h1:=hO.len;have h3:=hO.at_;have hn:gs.map (·.name)=p.threads.map (·.name):=by
  refine GT fun i=>?_;rw[z5,z5];cases e:p.threads[i]? with
  |none=>
   rw[Jq] at e;rw[yB JQ];rfl
  |some th=>rw[(h3 i th e).1];rfl
 unfold gj;rw[zo hp h1 hn,r7];refine A7 gs 0 fun g hg=>?_;obtain⟨i,hi,e⟩:=Gy.1 hg;obtain⟨th,ht⟩:∃th,p.threads[i]?=some th:=⟨_,ab JQ⟩;obtain⟨q1,q2⟩:=h3 i th ht;have:g=thrG p i th:=by rw[ab hi,e] at q1;exact vx q1
 subst this;exact⟨uI hp ht q2,f6 hp ht q2 gs,yr p i th⟩
theorem lower_cases(p:Prg):((lowerU p).2≠0/\(lowerU p).1=⟨[],[],[]⟩)\/∃gs,lowerU p=(⟨p.shared,p.locks,gs⟩,0)/\UnOk p gs:=by
 unfold lowerU;cases hc:((checkW p).1 != 0) with
 |true=>
  rw[r7];exact .inl ⟨by simpa using hc,rfl⟩
 |false=>
  rw[lh];cases hl:lowTs p 0 p.threads with
  |none=>exact .inl ⟨(JS:(3:Int)≠0),rfl⟩
  |some gs=>exact .inr ⟨gs,rfl,Dq (by simpa using hc) hl⟩
def kB(n:Nd):Bool:=decide (1<=n.kind)&&decide (n.kind<=8)
def OkN(a:Nat)(D:List Nd):Prop:=∀i n,D[i]?=some n->kB n=true/\n.origin=((a+i:Nat):Int)
theorem OkN.nil{a:Nat}:OkN a []:=fun i n e=>by cases e
theorem OkN.app{a k:Nat}{X Y:List Nd}(hx:OkN a X)(hk:X.length=k)(hy:OkN (a+k) Y):OkN a (X++Y):=by
 subst hk;intro i n e;by_cases q:i<X.length;·rw[v9 q] at e;exact hx i n e
 ·rw[wS JQ] at e;have:=hy _ n e
  rwa [(JQ:a+X.length+(i-X.length)=a+i)] at this
theorem OkN.cons{a:Nat}{n:Nd}{Y:List Nd}(h1:kB n=true)(h2:n.origin=(a:Nat))(hy:OkN (a+1) Y):OkN a (n::Y):=by
 intro i m e;cases i with
 |zero=>cases e;exact⟨h1,h2⟩
 |succ j=>
  have:=hy j m e
  rwa [(JQ:a+1+j=a+(j+1))] at this
theorem OkN.one{a:Nat}{n:Nd}(h1:kB n=true)(h2:n.origin=(a:Nat)):OkN a [n]:=.cons h1 h2 .nil
mutual
theorem zz(c:aJ):∀(e:Expr)(a m to:Nat),OkN a (gC c e a m to)
 | .mk kind op _ name kids _,a,m,to=>by
  have h0:=fun a m to=>lO c kids a m to;have h1:=fun a m to=>yq c kids a m to;unfold gC;cases kind==1 with
  |true=>exact .nil
  |false=>
  cases kind==2 with
  |true=>
   cases decide (localI c.p c.t name>=0) with
   |true=>exact .nil
   |false=>exact .one rfl rfl
  |false=>
  cases two op with
  |true=>exact(h0 _ _ _).app (aH ..) ((h1 _ _ _).app (jN ..) (.one rfl (by rw[Hn])))
  |false=>exact(h0 _ _ _).app (aH ..) (.one rfl rfl)
theorem lO(c:aJ):∀(l:List Expr)(a m to:Nat),OkN a (cM c l a m to)
 |[],a,m,to=>by unfold cM;exact .nil
 |e::_,a,m,to=>by unfold cM;exact zz c e a m to
theorem yq(c:aJ):∀(l:List Expr)(a m to:Nat),OkN a (eh c l a m to)
 |[],a,m,to=>by unfold eh;exact .nil
 |_::r,a,m,to=>by unfold eh;exact lO c r a m to
end
mutual
theorem Al(c:aJ):∀(x:Stmt)(a m to:Nat),OkN a (gb c x a m to)
 | .mk kind name other e body els _,a,m,to=>by
  have h0:=fun a m to=>lO c e a m to;have hb:=fun a m to=>gD c body a m to;have hl:=fun a m to=>gD c els a m to;have lb:=fun a m to=>aV c body a m to;unfold gb;cases kind==1 with
  |true=>
   refine(h0 _ _ _).app (aH ..) ?_;unfold iW;cases decide (localI c.p c.t name>=0)<;>exact .one rfl rfl
  |false=>
  cases kind==2 with
  |true=>
   refine(h0 _ _ _).app (aH ..) ?_;unfold mA;cases decide (localI c.p c.t name>=0);·exact .cons rfl rfl (.one rfl rfl)
   ·exact .one rfl rfl
  |false=>
  cases kind==3 with
  |true=>exact(h0 _ _ _).app (aH ..) (.cons rfl rfl ((hb _ _ _).app (lb ..) (hl _ _ _)))
  |false=>
  cases kind==4 with
  |true=>exact(h0 _ _ _).app (aH ..) (.cons rfl rfl (hb _ _ _))
  |false=>
  cases kind==5 with
  |true=>exact .cons rfl rfl ((hb _ _ _).app (lb ..) (.one rfl rfl))
  |false=>
  cases kind==6 with
  |true=>exact(h0 _ _ _).app (aH ..) (.one rfl rfl)
  |false=>exact .nil
theorem gD(c:aJ):∀(l:List Stmt)(a m to:Nat),OkN a (bH c l a m to)
 |[],a,m,to=>by unfold bH;exact .nil
 |x::r,a,m,to=>by have hx:=fun a m to=>Al c x a m to;have hr:=fun a m to=>gD c r a m to;unfold bH;exact(hx _ _ _).app (gm ..) (hr _ _ _)
end
theorem rv(p:Prg)(t:Nat)(th:Thread){k:Nat}{n:Nd}(h:(thrG p t th).nodes[k]?=some n):n.origin=(k:Nat)/\0<=n.kind/\(n.kind==9)=(k==(thrG p t th).nodes.length-1):=by
 have hlen:=kj p t th;have hat:At (ko p t th) 0 (ko p t th):=fun i n e=>by rw[E7];exact e
 have hend:=(hat.app (aV ..)).2.cons.1;rw[E7] at hend;have hN:=gD (thrC p t th) th.body 0 (locN th) (szB (thrC p t th) th.body);have h:(ko p t th)[k]?=some n:=h;have hk:=(a9.1 h).1;show n.origin=(k:Nat)/\0<=n.kind/\(n.kind==9)=(k==(ko p t th).length-1);rw[hlen,Nat.add_sub_cancel];rcases HD k (szB (thrC p t th) th.body) with q|q
 ·have h2:(bH (thrC p t th) th.body 0 (locN th) (szB (thrC p t th) th.body))[k]?=some n:=by
   have:ko p t th=_++_:=rfl;rw[this,v9 (by rw[aV];exact q)] at h;exact h
  obtain⟨q1,q2⟩:=hN k n h2;unfold kB at q1;rw[t4,GR,GR] at q1;rw[E7] at q2;refine⟨q2,JQ,?_⟩;have e1:(n.kind==9)=false:=by rw[GX];omega
  have e2:(k==szB (thrC p t th) th.body)=false:=by rw[GX];omega
  rw[e1,e2]
 ·obtain rfl:k=szB (thrC p t th) th.body:=JQ;obtain rfl:=vx (hend.symm.trans h);exact⟨rfl,(JS:(0:Int)<=9),JX⟩
theorem xM{p:Prg}{gs:List Gr}(hO:UnOk p gs){t:Nat}{th:Thread}(ht:p.threads[t]?=some th):cm (thrG p t th)=true:=by have hz:=(hO.at_ t th ht).2;refine jJ (u:=⟨p.shared,p.locks,gs⟩) (uI hO.prg ht hz) fun n hn=>⟨f6 hO.prg ht hz gs n hn,?_⟩;obtain⟨i,hi,e⟩:=Gy.1 hn;exact(rv p t th (k:=i) (by rw[ab hi,e])).2.1
theorem nN:∀(l:List Int)(a:Int),0<a->0<leastW l a
 |[],a,h=>h
 |r::l,a,h=>by
  show 0<leastW l (bif decide (r > 0)&&((a==0)||decide (r<a)) then r else a);refine nN l _ ?_;cases hr:decide (r > 0) with
  |false=>exact h
  |true=>
   have:=of_decide_eq_true hr;rw[GS];cases ((a==0)||decide (r<a)) with
   |true=>exact this
   |false=>exact h
theorem ib:∀(l:List Int),decide (leastW l 0 > 0)=false->∀r∈l,r<=0
 |[],_,r,hr=>by cases hr
 |q::l,h,r,hr=>by
  have h:decide (leastW l (bif decide (q > 0)&&(((0:Int)==0)||decide (q<0)) then q else 0) > 0)=false:=h;cases hq:decide (q > 0) with
  |true=>
   rw[hq] at h;have h2:=ud h;exact absurd (nN l q (of_decide_eq_true hq)) h2
  |false=>
   rw[hq] at h;rcases F5.1 hr with rfl|hr
   ·have:=ud hq;omega
   ·exact ib l h r hr
theorem ve{k:Int}{b:Bool}(hk:0<k)(h:whenI k b<=0):b=false:=by
 unfold whenI at h;cases b with
 |false=>rfl
 |true=>rw[r7] at h;omega
theorem yi{kind op word:Int}{name:ByteArray}{kids:List Expr}{at_:Int}(h:partsB (.mk kind op word name kids at_)=true):(kind==1||kind==2||(bif two op then decide (2<=kids.length) else decide (1<=kids.length)))=true/\(kind=1\/kind=2\/kind=3\/kind=4)/\(kind=3->two op=false)/\(kind=4->two op=true):=by
 unfold partsB at h;dsimp only at h;cases h1:(kind==1) with
 |true=>
  have:=eq_of_beq h1;exact⟨rfl,.inl this,fun e=>JQ,fun e=>JQ⟩
 |false=>
 rw[h1,lh] at h;cases h2:(kind==2) with
 |true=>
  have:=eq_of_beq h2;exact⟨rfl,.inr (.inl this),fun e=>JQ,fun e=>JQ⟩
 |false=>
 rw[h2,lh] at h;cases h3:(kind==3) with
 |true=>
  rw[h3,r7] at h;simp only[t4,HH,Ib] at h;have e3:=eq_of_beq h3;have hl:=h.1.2;rw[aL] at hl;have ht:two op=false:=by rcases h.2 with rfl|rfl<;>rfl
  refine⟨?_,.inr (.inr (.inl e3)),fun _=>ht,fun e=>JQ⟩;rw[ht];simp only[GU,lh,GR];omega
 |false=>
 rw[h3,lh] at h;cases h4:(kind==4) with
 |false=>rw[h4] at h;cases h
 |true=>
  rw[h4,r7] at h;simp only[t4,HH] at h;have e4:=eq_of_beq h4;have hl:=h.1.2;rw[aL] at hl;refine⟨?_,.inr (.inr (.inr e4)),fun e=>JQ,fun _=>h.2⟩;rw[h.2];simp only[GU,r7,GR];omega
mutual
def FB:Expr->Bool
 | .mk kind op _ _ kids _=>(kind==1||kind==2||(kind==3 && !two op)||(kind==4&&two op))&&rS kids
def rS:List Expr->Bool
 |[]=>true
 |e::l=>FB e&&rS l
end
mutual
theorem zS(top locals:MI):∀(e:Expr)(deep:Int),exprW top locals e deep=none->wfE e=true/\FB e=true
 | .mk kind op word name kids at_,deep,h=>by
  have hk:=iZ top locals kids (deep+1);unfold exprW at h;cases hb:decide (leastW (exprRules top locals kind op word name kids at_ deep) 0 > 0) with
  |true=>rw[hb] at h;cases h
  |false=>
   rw[hb,lh] at h;have hp:=ve JS (ib _ hb (whenI 4 (!partsB (.mk kind op word name kids at_))) (by unfold exprRules;simp));rw[IK] at hp;obtain⟨p1,p2,p3,p4⟩:=yi hp;obtain⟨k1,k2⟩:=hk h;refine⟨by unfold wfE;rw[p1,k1];rfl,?_⟩;unfold FB;rw[k2,IH];rcases p2 with rfl|rfl|rfl|rfl
   ·rfl
   ·rfl
   ·rw[p3 rfl];rfl
   ·rw[p4 rfl];rfl
theorem iZ(top locals:MI):∀(l:List Expr)(deep:Int),exprsW top locals l deep=none->lA l=true/\rS l=true
 |[],_,_=>⟨by unfold lA;rfl,by unfold rS;rfl⟩
 |e::l,deep,h=>by
  unfold exprsW at h;cases he:exprW top locals e deep with
  |some f=>rw[he] at h;cases h
  |none=>
   rw[he] at h;obtain⟨a1,a2⟩:=zS top locals e deep he;obtain⟨b1,b2⟩:=iZ top locals l deep h;exact⟨by unfold lA;rw[a1,b1];rfl,by unfold rS;rw[a2,b2];rfl⟩
end
theorem xI{kind:Int}{name other:ByteArray}{e:List Expr}{body els:List Stmt}{at_:Int}(h:fieldsB (.mk kind name other e body els at_)=true):(decide (1<=kind)&&decide (kind<=7))=true/\(kind==5||kind==7||decide (1<=e.length))=true/\(kind=1\/kind=2\/kind=6\/kind=7->body=[]/\els=[])/\(kind=4\/kind=5->els=[])/\(kind=5\/kind=7->e=[])/\e.length<=1:=by
 have nil:∀l:List Stmt,(!decide (((Stmt.rows l).length:Int) > 0))=true->l=[]:=fun l q=>by rw[Ha] at q;have:=ud q;rw[bz] at this;exact GF JQ
 have one:(((Expr.rows e).length:Int)==1)=true->e.length=1:=fun q=>by have:=eq_of_beq q;rw[aL] at this;omega
 have zer:(((Expr.rows e).length:Int)==0)=true->e=[]:=fun q=>by have:=eq_of_beq q;rw[aL] at this;exact GF JQ
 unfold fieldsB at h;dsimp only at h;cases h1:(kind==1) with
 |true=>
  rw[h1,r7] at h;obtain rfl:=eq_of_beq h1;simp only[t4] at h;have l1:=one h.1.1.2;exact⟨rfl,by rw[l1];rfl,fun _=>⟨nil _ h.1.2,nil _ h.2⟩,fun q=>JQ,fun q=>JQ,JQ⟩
 |false=>
 rw[h1,lh] at h;cases h2:(kind==2) with
 |true=>
  rw[h2,r7] at h;obtain rfl:=eq_of_beq h2;simp only[t4] at h;have l1:=one h.1.1;exact⟨rfl,by rw[l1];rfl,fun _=>⟨nil _ h.1.2,nil _ h.2⟩,fun q=>JQ,fun q=>JQ,JQ⟩
 |false=>
 rw[h2,lh] at h;cases h3:(kind==3) with
 |true=>
  rw[h3,r7] at h;obtain rfl:=eq_of_beq h3;simp only[t4] at h;have l1:=one h.2;exact⟨rfl,by rw[l1];rfl,fun q=>JQ,fun q=>JQ,fun q=>JQ,JQ⟩
 |false=>
 rw[h3,lh] at h;cases h4:(kind==4) with
 |true=>
  rw[h4,r7] at h;obtain rfl:=eq_of_beq h4;simp only[t4] at h;have l1:=one h.1.2;exact⟨rfl,by rw[l1];rfl,fun q=>JQ,fun _=>nil _ h.2,fun q=>JQ,JQ⟩
 |false=>
 rw[h4,lh] at h;cases h5:(kind==5) with
 |true=>
  rw[h5,r7] at h;obtain rfl:=eq_of_beq h5;simp only[t4] at h;have l0:=zer h.1.2;exact⟨rfl,rfl,fun q=>JQ,fun _=>nil _ h.2,fun _=>l0,by rw[l0];exact x5 _⟩
 |false=>
 rw[h5,lh] at h;cases h6:(kind==6) with
 |true=>
  rw[h6,r7] at h;obtain rfl:=eq_of_beq h6;simp only[t4] at h;have l1:=one h.1.1.2;exact⟨rfl,by rw[l1];rfl,fun _=>⟨nil _ h.1.2,nil _ h.2⟩,fun q=>JQ,fun q=>JQ,JQ⟩
 |false=>
 rw[h6,lh] at h;cases h7:(kind==7) with
 |false=>rw[h7] at h;cases h
 |true=>
  rw[h7,r7] at h;obtain rfl:=eq_of_beq h7;simp only[t4] at h;have l0:=zer h.1.1.2;exact⟨rfl,rfl,fun _=>⟨nil _ h.1.2,nil _ h.2⟩,fun q=>JQ,fun _=>l0,by rw[l0];exact x5 _⟩
mutual
def Fv:Stmt->Bool
 | .mk _ _ _ e body els _=>rS e&&(pT body&&pT els)
def pT:List Stmt->Bool
 |[]=>true
 |x::r=>Fv x&&pT r
end
mutual
theorem yS(top locals:MI):∀(x:Stmt)(deep:Int),stmtW top locals x deep=none->wfS x=true/\Fv x=true
 | .mk kind name other e body els at_,deep,h=>by
  have hb1:=gw top locals body (deep+1);have hb2:=gw top locals els (deep+1);unfold stmtW at h;cases hb:decide (leastW (stmtRules top locals kind name other e body els at_ deep) 0 > 0) with
  |true=>rw[hb] at h;cases h
  |false=>
   rw[hb,lh] at h;have hp:=ve JS (ib _ hb (whenI 4 (!fieldsB (.mk kind name other e body els at_))) (by unfold stmtRules;cases kind==1<;>cases kind==2<;>cases kind==5<;>simp));rw[IK] at hp;obtain⟨f1,f2,_⟩:=xI hp;cases he:exprsW top locals e 1 with
   |some f=>rw[he] at h;cases h
   |none=>
    rw[he] at h;cases hbd:blockW top locals body (deep+1) with
    |some f=>simp only[hbd] at h;cases h
    |none=>
     simp only[hbd] at h;obtain⟨e1,e2⟩:=iZ top locals e 1 he;obtain⟨b1,b2⟩:=hb1 hbd;obtain⟨c1,c2⟩:=hb2 h;exact⟨by unfold wfS;rw[f1,f2,e1,b1,c1];rfl,by unfold Fv;rw[e2,b2,c2];rfl⟩
theorem gw(top locals:MI):∀(l:List Stmt)(deep:Int),blockW top locals l deep=none->r6 l=true/\pT l=true
 |[],_,_=>⟨by unfold r6;rfl,by unfold pT;rfl⟩
 |x::r,deep,h=>by
  unfold blockW at h;cases hx:stmtW top locals x deep with
  |some f=>rw[hx] at h;cases h
  |none=>
   rw[hx] at h;obtain⟨a1,a2⟩:=yS top locals x deep hx;obtain⟨b1,b2⟩:=gw top locals r deep h;exact⟨by unfold r6;rw[a1,b1];rfl,by unfold pT;rw[a2,b2];rfl⟩
end
theorem vg(p:Prg)(top:MI):∀(l:List Thread)(i:Nat)(m:MI),ph p top l i m=none->∀th∈l,threadW p top th=none
 |[],_,_,_,th,h=>by cases h
 |t::r,i,m,h,th,hm=>by
  unfold ph at h;cases hb:decide (leastW (thRules m i t) 0 > 0) with
  |true=>rw[hb] at h;cases h
  |false=>
   rw[hb,lh] at h;cases ht:threadW p top t with
   |some f=>rw[ht] at h;cases h
   |none=>
    rw[ht] at h;rcases F5.1 hm with rfl|hm
    ·exact ht
    ·exact vg p top r _ _ h th hm
theorem zH{p:Prg}(h:(checkW p).1=0):∀th∈p.threads,r6 th.body=true/\pT th.body=true:=by
 intro th hth;unfold checkW at h;cases hf:firstW p with
 |some f=>rw[hf] at h;exact absurd (show(50:Int)=0 from h) JS
 |none=>
  unfold firstW at hf;split at hf;·cases hf
  ·split at hf;·cases hf
   ·have:=vg p _ _ _ _ hf th hth;unfold threadW at this;split at this;·cases this
    ·exact gw _ _ _ _ this
end Go.Proofs.YtapmdfcmpglieaaGreatDoor.am
set_option maxRecDepth 100000
set_option maxHeartbeats 4000000
namespace Go.Proofs.YtapmdfcmpglieaaGreatDoor.ws
open Go Go.RowKit Go.Lib
def l7(l:List UInt8):Array Value:=(List.replicate (20-l.length) (Value.int .u8 0)++l.map fun c=>Value.int .u8 c.toNat).toArray
theorem uG(B:Nat)(W:World):
  (Instr.sliceAt 129 (.pointer (some ⟨B,0,none⟩)) (some (.int .i64 18)) none none).run Tryz.prog W=.ok (.slice (some ⟨B,18,none⟩) 2 2) W:=by
 kernel_rfl
theorem zG(w:World):
  (convert 131 9 (.slice (some ⟨w.heap.size,18,none⟩) 2 2)).run Tryz.prog (w.alloc (.cells (l7 [45,55]) 129))=.ok (.string ⟨#[45,55]⟩) (w.alloc (.cells (l7 [45,55]) 129)):=by
 refine run_convert_bytes_back _ _ _ 5 _ _ [45,55] Tryz.underlying131 Tryz.underlying5 Tryz.underlying9 fun j hj=>?_;have hj:j<2:=hj
 match j with
 |0=>exact(World.cell?_alloc_at _ _ _ _ rfl).trans rfl
 |1=>exact(World.cell?_alloc_at _ _ _ _ rfl).trans rfl
theorem print_m7(w:World):
  Calls Tryz.prog 14 #[.int .i64 (-7)] w fun e w'=>e=.returned (.string ⟨#[45,55]⟩)/\Below w.heap.size w w':=by
 have hw:IntKind.u64.wrap (-(IntKind.u64.wrap (-7)))=7:=JR;go_enter Tryz.func14,Tryz.ntmps14
 go_wp2
 go_loopw [4,5] (fun a n wr=>a=.int .i64 20/\n=.int .u64 7/\wr=w.alloc (.cells (l7 []) 129)) (fun a _ _=>(intOf a).toNat)
 case atStart=>exact⟨rfl,rfl,rfl⟩
 case round=>
  obtain⟨rfl,rfl,rfl⟩:=hrel;have hg:(l7 [])[19]?=some (.int .u8 0):=rfl;have hrow:(l7 []).setIfInBounds 19 (.int .u8 55)=l7 [55]:=rfl;have hg':(l7 [55])[18]?=some (.int .u8 0):=rfl;have hmin:(l7 [55]).setIfInBounds 18 (.int .u8 45)=l7 [45,55]:=rfl;have hsl:=uG w.heap.size;have hcv:=zG w;go_wp2
  go_ret
  exact⟨rfl,(Below.refl _ _).alloc (t9 _) _⟩
end Go.Proofs.YtapmdfcmpglieaaGreatDoor.ws
