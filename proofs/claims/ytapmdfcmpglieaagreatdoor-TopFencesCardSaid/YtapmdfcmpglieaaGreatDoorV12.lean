/- Plain: the loads that are left with fences: what they are; fewer fences leave more. Plain: how far spots are from an end (fences.Alone): what measure -/
import Derived.Test.YtapmdfcmpglieaaGreatDoorV11
import Derived.Test.YtapmdfcmpglieaaGreatDoorV5
import Derived.Test.YtapmdfcmpglieaaGreatDoorV8
import Derived.Test.YtapmdfcmpglieaaGreatDoorV7
import Derived.Test.YtapmdfcmpglieaaGreatDoorProg
import Derived.WalkLawsBesides
import Derived.Deep.WholeRow
import Derived.Lib.Hide
set_option linter.all false
namespace Go.Proofs.YtapmdfcmpglieaaGreatDoor.am
open Go
theorem Opn.mono{f f':Nat->List Nat}{D D' F F':Nat->Bool}{S S':Nat->Prop}(hf:∀a,∀k∈f a,k∈f' a)(hD:∀a,D a=false->D' a=false)(hF:∀a,∀k∈f a,F k=false->F' k=false)(hS:∀a,S a->S' a){k:Nat}(h:Opn f D F S k):Opn f' D' F' S' k:=by
 induction h with
 |st h1 h2 h3=>exact .st (hS _ h1) (hf _ _ h2) (hF _ _ h2 h3)
 |go _ h1 h2 h3 ih=>exact .go ih (hD _ h1) (hf _ _ h2) (hF _ _ h2 h3)
noncomputable def bmS(u:Un)(g:Gr)(k:Nat):Mk:=((List.range g.nodes.length).map (dE (bJ u) (rchL (fol g) (-1) g.nodes.length) g.nodes)).getD k mk0
theorem Cn(l:List Mk)(x:Int)(hx:0<=x)(k:Nat):(lR l x).getD k mk0=(let m:=l.getD k mk0;⟨m.s,m.l,m.d,m.f||(decide (k<l.length)&&(k:Int)==x)⟩):=by
 unfold lR;dsimp only;rw[t5,IR];by_cases hk:x.toNat=k
 ·subst hk;by_cases hl:x.toNat<l.length;·rw[Gw rfl,Gw hl,GC hl,(JQ:((x.toNat:Nat):Int)=x)];simp
  ·rw[Gw rfl,GN hl,Gz hl,t5,yB JQ];rfl
 ·rw[GN hk,show((k:Int)==x)=false from GX.2 JQ,<-t5];simp
theorem uo:∀(fs:List Int)(l:List Mk),(∀x∈fs,0<=x)->∀k,(fs.foldl lR l).getD k mk0=(let m:=l.getD k mk0;⟨m.s,m.l,m.d,m.f||(decide (k<l.length)&&fs.contains (k:Int))⟩)
 |[],l,_,k=>JX
 |x::r,l,h,k=>by show(r.foldl lR (lR l x)).getD k mk0=_;rw[uo r _ (fun y hy=>h y (.tail _ hy)) k,Cn l x (h x (.head _)),fenS_len];dsimp only;rw[IM];generalize (l.getD k mk0).f=a;generalize decide (k<l.length)=b;cases a<;>cases b<;>cases ((k:Int)==x)<;>simp
theorem CS(K:List Int)(r:Bool)(n:Nd):(iz K r n).f=false:=by unfold iz;cases n.kind==2<;>cases n.kind==3<;>cases n.kind==6<;>cases (n.kind==4||n.kind==5||n.kind==7)<;>rfl
theorem FD(u:Un)(g:Gr)(k:Nat):(bmS u g k).f=false:=by
 unfold bmS;rw[t5];by_cases hk:k<g.nodes.length;·simp only[z5,GZ hk,G5,Hs];exact CS ..
 ·rw[yB (by simpa using hk)];rfl
theorem tX(u:Un)(g:Gr)(fs:List Int)(h:∀x∈fs,0<=x)(k:Nat):(madeS u g fs).getD k mk0=⟨(bmS u g k).s,(bmS u g k).l,(bmS u g k).d,decide (k<g.nodes.length)&&fs.contains (k:Int)⟩:=by
 unfold madeS;rw[uo fs _ h k];have:=FD u g k;unfold bmS at this |-
 dsimp only;rw[this];simp
theorem fM:∀(l:List Mk)(i x:Nat),x∈storesL i l<->∃j,x=i+j/\j<l.length/\(l.getD j mk0).s=true
 |[],i,x=>by simp[storesL]
 |m::r,i,x=>by
  have ih:=fM r (i+1) x;have key:(∃j,x=i+j/\j<(m::r).length/\((m::r).getD j mk0).s=true)<->(x=i/\m.s=true)\/∃j,x=i+1+j/\j<r.length/\(r.getD j mk0).s=true:=by
   constructor
   ·rintro⟨j,h1,h2,h3⟩;cases j with
    |zero=>exact .inl ⟨h1,h3⟩
    |succ j=>exact .inr ⟨j,JQ,by simpa using h2,h3⟩
   ·rintro(⟨h1,h2⟩|⟨j,h1,h2,h3⟩);·exact⟨0,h1,JX,h2⟩
    ·exact⟨j+1,JQ,by simpa using h2,h3⟩
  rw[key,<-ih];rw[show storesL i (m::r)=bif m.s then i::storesL (i+1) r else storesL (i+1) r from rfl];cases m.s with
  |true=>simp
  |false=>simp
theorem gZ:∀(o:List Bool)(l:List Mk)(i:Nat)(x:Int),x∈loadsL i o l<->∃j,x=((i+j:Nat):Int)/\o[j]?=some true/\j<l.length/\(l.getD j mk0).l=true
 |[],l,i,x=>by simp[loadsL]
 |b::o,[],i,x=>by simp[loadsL]
 |b::o,m::r,i,x=>by
  have ih:=gZ o r (i+1) x;have key:(∃j,x=((i+j:Nat):Int)/\(b::o)[j]?=some true/\j<(m::r).length/\((m::r).getD j mk0).l=true)<->(x=i/\b=true/\m.l=true)\/∃j,x=((i+1+j:Nat):Int)/\o[j]?=some true/\j<r.length/\(r.getD j mk0).l=true:=by
   constructor
   ·rintro⟨j,h1,h2,h3,h4⟩;cases j with
    |zero=>exact .inl ⟨h1,by simpa using h2,h4⟩
    |succ j=>exact .inr ⟨j,JQ,by simpa using h2,by simpa using h3,h4⟩
   ·rintro(⟨h1,h2,h3⟩|⟨j,h1,h2,h3,h4⟩);·exact⟨0,h1,by simpa using h2,JX,h3⟩
    ·exact⟨j+1,JQ,by simpa using h2,by simpa using h3,h4⟩
  rw[key,<-ih];rw[show loadsL i (b::o) (m::r)=bif b&&m.l then(i:Int)::loadsL (i+1) o r else loadsL (i+1) o r from rfl];cases b<;>cases m.l<;>simp
theorem kZ:∀(o:List Bool)(l:List Mk)(i:Nat),(loadsL i o l).Pairwise (· < ·)/\∀x∈loadsL i o l,(i:Int)<=x
 |[],l,i=>by simp[loadsL]
 |b::o,[],i=>by simp[loadsL]
 |b::o,m::r,i=>by
  obtain⟨h1,h2⟩:=kZ o r (i+1);have h2':∀x∈loadsL (i+1) o r,(i:Int)+1<=x:=fun x hx=>by have:=h2 x hx;omega
  unfold loadsL;cases (b&&m.l) with
  |true=>
   rw[r7];refine⟨List.pairwise_cons.2 ⟨fun y hy=>by have:=h2' y hy;omega,h1⟩,fun x hx=>?_⟩;rcases F5.1 hx with e|hx
   ·rw[e];exact Hd _
   ·have:=h2' x hx;omega
  |false=>
   rw[lh];exact⟨h1,fun x hx=>by have:=h2' x hx;omega⟩
structure uh(N:Nat)(l:List Int):Prop where
 inc:l.Pairwise (· < ·)
 rng:∀x∈l,0<=x/\x<N
theorem uh.srt{N:Nat}{l:List Int}(h:uh N l):Srt N l:=fun i x hx=>by
 obtain⟨q1,q2⟩:=h.rng x (i3 hx);refine⟨?_,q2⟩;cases i with
 |zero=>show(-1:Int)<x;omega
 |succ i=>
  obtain⟨hi,ex⟩:=a9.1 hx;show l.getD i 0<x;rw[t5,ab JQ];rw[<-ex];exact Iy.1 h.inc i (i+1) JQ hi JQ
theorem uh.del{N:Nat}{l:List Int}(h:uh N l)(n:Int):uh N (delI l n):=⟨h.inc.filter _,fun x hx=>h.rng x (HB.1 hx).1⟩
theorem cg{l:List Int}{n x:Int}:x∈delI l n<->x∈l/\x≠n:=by unfold delI;rw[HB];simp
def LeftN(u:Un)(g:Gr)(fs:List Int)(k:Nat):Prop:=Opn (fol g) (fun k=>(bmS u g k).d) (fun k=>fs.contains (k:Int)) (fun k=>k<g.nodes.length/\(bmS u g k).s=true) k/\(bmS u g k).l=true
theorem oR{u:Un}{g:Gr}(hW:Whole g){fs:List Int}{k:Nat}(h:LeftN u g fs k):k<g.nodes.length:=by
 cases h.1 with
 |st _ h2 _=>exact hW.lt _ _ h2
 |go _ _ h2 _=>exact hW.lt _ _ h2
theorem od{u:Un}{g:Gr}{fs:List Int}{k:Nat}(h:LeftN u g fs k):fs.contains (k:Int)=false:=by
 cases h.1 with
 |st _ _ h3=>exact h3
 |go _ _ _ h3=>exact h3
theorem nP{u:Un}{g:Gr}{a b:List Int}(hab:∀x∈a,x∈b){k:Nat}(h:LeftN u g b k):LeftN u g a k:=
 ⟨h.1.mono (fun _ _ h=>h) (fun _ h=>h) (fun _ k _ h=>by
  cases hc:a.contains (k:Int) with
  |false=>rfl
  |true=>
   have:=hab _ (GJ.1 hc);rw[GJ.2 this] at h;cases h) (fun _ h=>h),h.2⟩
theorem fp{u:Un}{g:Gr}(hW:Whole g){fs:List Int}(hfs:∀x∈fs,0<=x)(x:Int):x∈loadsS u g fs<->∃k:Nat,x=k/\LeftN u g fs k:=by
 unfold loadsS;rw[gZ];have hmk:=tX u g fs hfs;have hm0:=tX u g [] (fun _ h=>by cases h);have e:∀j,Opn (dfl g) (tE (madeS u g fs)) (sv (madeS u g fs)) (· ∈ storesL 0 (madeS u g fs)) j<->Opn (fol g) (fun k=>(bmS u g k).d) (fun k=>fs.contains (k:Int)) (fun k=>k<g.nodes.length/\(bmS u g k).s=true) j:=fun j=>by
  constructor
  ·refine Opn.mono (fun a k h=>(jX g a k).1 h) (fun a h=>?_) (fun a k hk h=>?_) (fun a h=>?_);·unfold tE at h;rw[hmk] at h;exact h
   ·unfold sv at h;rw[hmk] at h;rw[GC (hW.lt a k ((jX g a k).1 hk)),GS] at h;exact h
   ·obtain⟨j,h1,h2,h3⟩:=(fM _ _ _).1 h;rw[E7] at h1;subst h1;rw[hmk] at h3;rw[cH] at h2;exact⟨h2,h3⟩
  ·refine Opn.mono (fun a k h=>(jX g a k).2 h) (fun a h=>?_) (fun a k hk h=>?_) (fun a h=>?_);·unfold tE;rw[hmk];exact h
   ·unfold sv;rw[hmk];show(decide (k<g.nodes.length)&&fs.contains (k:Int))=false;have h:fs.contains (k:Int)=false:=h;rw[h,It]
   ·refine(fM _ _ _).2 ⟨a,(E7 a).symm,by rw[cH];exact h.1,?_⟩;rw[hmk];exact h.2
 constructor
 ·rintro⟨j,h1,h2,h3,h4⟩;rw[cH] at h3;rw[hm0] at h4;refine⟨j,by rw[h1,E7],(e j).1 ?_,h4⟩;exact(gz h3).1 h2
 ·rintro⟨j,h1,h2⟩;have hj:=oR hW h2;refine⟨j,by rw[h1,E7],?_,by rw[cH];exact hj,by rw[hm0];exact h2.2⟩;exact(gz hj).2 ((e j).2 h2.1)
theorem kI{u:Un}{g:Gr}(hW:Whole g){fs:List Int}(hfs:∀x∈fs,0<=x):uh g.nodes.length (loadsS u g fs):=by refine⟨(kZ _ _ 0).1,fun x hx=>?_⟩;obtain⟨k,rfl,h⟩:=(fp hW hfs x).1 hx;have:=oR hW h;omega
theorem dB{u:Un}{g:Gr}(hW:Whole g){fs:List Int}(hfs:∀x∈fs,0<=x):loadsS u g fs=[]<->∀k,¬ LeftN u g fs k:=by
 constructor
 ·intro h k hk;have:=(fp hW hfs (k:Int)).2 ⟨k,rfl,hk⟩;rw[h] at this;cases this
 ·intro h;cases e:loadsS u g fs with
  |nil=>rfl
  |cons x r=>
   obtain⟨k,_,hk⟩:=(fp hW hfs x).1 (by rw[e];exact .head _);exact(h k hk).elim
theorem wF{u:Un}{g:Gr}(hW:Whole g):loadsS u g (loadsS u g [])=[]:=by have hs:=kI (u:=u) hW (fs:=[]) (fun _ h=>by cases h);refine(dB hW fun x hx=>(hs.rng x hx).1).2 fun k hk=>?_;have h0:=nP (a:=[]) (fun x h=>by cases h) hk;have:=(fp hW (fs:=[]) (fun _ h=>by cases h) (k:Int)).2 ⟨k,rfl,h0⟩;have h1:=od hk;rw[GJ.2 this] at h1;cases h1
structure Sp where
 n:Nat
 p:Bool
def Sp.eqb(a b:Sp):Bool:=((a.n:Int)==(b.n:Int))&&a.p==b.p
theorem Sp.eqb_iff{a b:Sp}:Sp.eqb a b=true<->a=b:=by
 obtain⟨n,p⟩:=a;obtain⟨m,q⟩:=b;unfold Sp.eqb;rw[t4,HH,HH];constructor
 ·rintro⟨h1,h2⟩;have h1:(n:Int)=m:=h1;have h2:p=q:=h2;rw[h2,(JQ:n=m)]
 ·intro h;cases h;exact⟨rfl,rfl⟩
def getF:List (Sp×Nat)->Sp->Option Nat
 |[],_=>none
 |x::r,s=>bif s.eqb x.1 then some x.2 else getF r s
theorem mt(M:List (Sp×Nat))(s t:Sp)(d:Nat):getF (M++[(s,d)]) t=match getF M t with|some v=>some v|none=>bif t.eqb s then some d else none:=by
 induction M with
 |nil=>rfl
 |cons x r ih=>
  show(bif t.eqb x.1 then some x.2 else getF (r++[(s,d)]) t)=_;rw[show getF (x::r) t=bif t.eqb x.1 then some x.2 else getF r t from rfl,ih];cases t.eqb x.1<;>rfl
theorem dk{M:List (Sp×Nat)}{s:Sp}{d:Nat}(h:getF M s=some d):(s,d)∈M:=by
 induction M with
 |nil=>cases h
 |cons x r ih=>
  rw[show getF (x::r) s=bif s.eqb x.1 then some x.2 else getF r s from rfl] at h;cases e:s.eqb x.1 with
  |true=>
   rw[e,r7] at h;cases h;rw[Sp.eqb_iff.1 e];exact .head _
  |false=>rw[e,lh] at h;exact .tail _ (ih h)
theorem qB{M:List (Sp×Nat)}{s:Sp}(h:s∈M.map (·.1)):∃d,getF M s=some d:=by
 induction M with
 |nil=>cases h
 |cons x r ih=>
  rw[show getF (x::r) s=bif s.eqb x.1 then some x.2 else getF r s from rfl];cases e:s.eqb x.1 with
  |true=>exact⟨x.2,rfl⟩
  |false=>
   rcases F5.1 h with h|h
   ·rw[Sp.eqb_iff.2 h] at e;cases e
   ·exact ih h
theorem tO:∀(M:List (Sp×Nat)),(M.map (·.1)).Nodup->∀(k:Nat)(s:Sp)(v:Nat),M[k]?=some (s,v)->getF M s=some v
 |[],_,k,s,v,h=>by cases h
 |x::r,hn,k,s,v,h=>by
  rw[show getF (x::r) s=bif s.eqb x.1 then some x.2 else getF r s from rfl];rw[GO,II] at hn;cases k with
  |zero=>
   have h:some x=some (s,v):=h;cases h;rw[Sp.eqb_iff.2 rfl];rfl
  |succ k=>
   have h:r[k]?=some (s,v):=h;cases e:s.eqb x.1 with
   |true=>
    have:=Sp.eqb_iff.1 e;exact absurd (GM.2 ⟨_,i3 h,this⟩) hn.1
   |false=>exact tO r hn.2 k s v h
theorem AO{N:Nat}{M:List (Sp×Nat)}(hn:(M.map (·.1)).Nodup)(hr:∀x∈M,x.1.n<N):M.length<=2*N:=by
 have h1:((M.map (·.1)).map fun s:Sp=>2*s.n+(if s.p then 1 else 0)).Nodup:=by rw[Jn,List.pairwise_map];refine(Jn.1 hn).imp fun{a b} hab e=>hab ?_;obtain⟨n,p⟩:=a;obtain⟨m,q⟩:=b;have e:2*n+(if p then 1 else 0)=2*m+(if q then 1 else 0):=e;cases p<;>cases q<;>simp at e |-<;>omega
 have h2:=gL (2*N) _ h1 (fun x hx=>by obtain⟨s,hs,rfl⟩:=GM.1 hx;obtain⟨y,hy,rfl⟩:=GM.1 hs;have:=hr y hy;split<;>omega)
 simpa using h2
section
variable {fol:Nat->List Nat} {N:Nat} {E ok oth isN:Nat->Bool}
structure lZ(fol:Nat->List Nat)(N:Nat)(E ok oth isN:Nat->Bool)(M:List (Sp×Nat))(Dn:Sp->Nat->Bool->Prop):Prop where
 nd:(M.map (·.1)).Nodup
 rng:∀x∈M,x.1.n<N
 val:∀x∈M,x.2<M.length
 snd:∀s d,getF M s=some d->(d=0/\s.p=true/\E s.n=true)\/∃s' d',d=d'+1/\getF M s'=some d'/\s'.n∈fol s.n/\s'.p=(s.p||isN s'.n)/\oth s'.n=false/\ok s.n=true
 ends:∀i,i<N->E i=true->∃d,getF M ⟨i,true⟩=some d
 clos:∀s' i p,Dn s' i p->oth s'.n=false->s'.n∈fol i->ok i=true->s'.p=(p||isN s'.n)->∃d,getF M ⟨i,p⟩=some d
theorem eH{M:List (Sp×Nat)}{s t:Sp}{d v:Nat}(h:getF M t=some v):getF (M++[(s,d)]) t=some v:=by rw[mt,h]
theorem lB{M:List (Sp×Nat)}{s:Sp}{d:Nat}(h:getF M s=none):getF (M++[(s,d)]) s=some d:=by rw[mt,h];show(bif s.eqb s then _ else _)=_;rw[Sp.eqb_iff.2 rfl];rfl
theorem lZ.insert{M:List (Sp×Nat)}{Dn:Sp->Nat->Bool->Prop}(h:lZ fol N E ok oth isN M Dn){s s':Sp}{d':Nat}(hs:getF M s=none)(hn:s.n<N)(h1:getF M s'=some d')(h2:s'.n∈fol s.n)(h3:s'.p=(s.p||isN s'.n))(h4:oth s'.n=false)(h5:ok s.n=true):lZ fol N E ok oth isN (M++[(s,d'+1)]) Dn:=by
 have hv:=h.val _ (dk h1);refine⟨?_,fun x hx=>?_,fun x hx=>?_,fun t v hv=>?_,fun i hi hE=>?_,fun s' i p q1 q2 q3 q4 q5=>?_⟩
 ·rw[FP,HW];refine⟨h.nd,JX,fun a ha b hb=>?_⟩;have hb:b=s:=by simpa using hb
  intro e;rw[e,hb] at ha;obtain⟨d,hd⟩:=qB ha;rw[hs] at hd;cases hd
 ·rcases FK.1 hx with hx|hx
  ·exact h.rng x hx
  ·rw[xB.1 hx];exact hn
 ·rw[uR];rcases FK.1 hx with hx|hx
  ·have:=h.val x hx;simp only[E0,H3];omega
  ·rw[xB.1 hx];simp only[E0,H3];omega
 ·rw[mt] at hv;cases e:getF M t with
  |some w=>
   rw[e] at hv;cases hv;rcases h.snd t _ e with q|⟨a,b,q1,q2,q3⟩
   ·exact .inl q
   ·exact .inr ⟨a,b,q1,eH q2,q3⟩
  |none=>
   rw[e] at hv;cases e2:t.eqb s with
   |true=>
    have hv:(bif t.eqb s then some (d'+1) else none)=some v:=hv;rw[e2] at hv;cases hv;obtain rfl:=Sp.eqb_iff.1 e2;exact .inr ⟨s',d',rfl,eH h1,h2,h3,h4,h5⟩
   |false=>
    have hv:(bif t.eqb s then some (d'+1) else none)=some v:=hv;rw[e2] at hv;cases hv
 ·obtain⟨d,q⟩:=h.ends i hi hE;exact⟨d,eH q⟩
 ·obtain⟨d,q⟩:=h.clos s' i p q1 q2 q3 q4 q5;exact⟨d,eH q⟩
theorem lZ.done{M:List (Sp×Nat)}{Dn Dn':Sp->Nat->Bool->Prop}(h:lZ fol N E ok oth isN M Dn)(hd:∀s' i p,Dn' s' i p->Dn s' i p\/(oth s'.n=false->s'.n∈fol i->ok i=true->s'.p=(p||isN s'.n)->∃d,getF M ⟨i,p⟩=some d)):lZ fol N E ok oth isN M Dn':=
 ⟨h.nd,h.rng,h.val,h.snd,h.ends,fun s' i p q1 q2 q3 q4 q5=>(hd s' i p q1).elim (fun q=>h.clos s' i p q q2 q3 q4 q5) fun q=>q q2 q3 q4 q5⟩
structure sd(E:Nat->Bool)(M:List (Sp×Nat))(i:Nat):Prop where
 nd:(M.map (·.1)).Nodup
 mem:∀x∈M,x.2=0/\x.1.p=true/\x.1.n<i/\E x.1.n=true
 all:∀j,j<i->E j=true->∃d,getF M ⟨j,true⟩=some d
theorem sd.skip{M:List (Sp×Nat)}{i:Nat}(h:sd E M i)(he:E i=false):sd E M (i+1):=
 ⟨h.nd,fun x hx=>by obtain⟨a,b,c,d⟩:=h.mem x hx;exact⟨a,b,JQ,d⟩,fun j hj hE=>by
  rcases HD j i with q|q
  ·exact h.all j q hE
  ·rw[(JQ:j=i),he] at hE;cases hE⟩
theorem sd.none{M:List (Sp×Nat)}{i:Nat}(h:sd E M i):getF M ⟨i,true⟩=none:=by
 cases e:getF M ⟨i,true⟩ with
 |none=>rfl
 |some d=>
  have:=(h.mem _ (dk e)).2.2.1;exact absurd this (Nat.lt_irrefl i)
theorem sd.push{M:List (Sp×Nat)}{i:Nat}(h:sd E M i)(he:E i=true):sd E (M++[(⟨i,true⟩,0)]) (i+1):=by
 have hno:=h.none;refine⟨?_,fun x hx=>?_,fun j hj hE=>?_⟩
 ·rw[FP,HW];refine⟨h.nd,JX,fun a ha b hb=>?_⟩;have hb:b=⟨i,true⟩:=by simpa using hb
  intro e;rw[e,hb] at ha;obtain⟨d,hd⟩:=qB ha;rw[hno] at hd;cases hd
 ·rcases FK.1 hx with hx|hx
  ·obtain⟨a,b,c,d⟩:=h.mem x hx;exact⟨a,b,JQ,d⟩
  ·rw[xB.1 hx];exact⟨rfl,rfl,Hh i,he⟩
 ·rcases HD j i with q|q
  ·obtain⟨d,hd⟩:=h.all j q hE;exact⟨d,eH hd⟩
  ·rw[(JQ:j=i)];exact⟨0,lB hno⟩
theorem sd.fin{M:List (Sp×Nat)}(h:sd E M N):lZ fol N E ok oth isN M (fun _ _ _=>False):=
 ⟨h.nd,fun x hx=>(h.mem x hx).2.2.1,fun x hx=>by
  have:=(h.mem x hx).1;have hl:=List.length_pos_of_mem hx;omega,fun s d hd=>by obtain⟨a,b,c,e⟩:=h.mem _ (dk hd);exact .inl ⟨a,b,e⟩,fun i hi hE=>h.all i hi hE,fun _ _ _ q=>q.elim⟩
theorem lZ.few{M:List (Sp×Nat)}{Dn:Sp->Nat->Bool->Prop}(h:lZ fol N E ok oth isN M Dn):M.length<=2*N:=AO h.nd h.rng
theorem sd.few{M:List (Sp×Nat)}{i:Nat}(h:sd E M i)(hi:i<=N):M.length<=2*N:=AO h.nd fun x hx=>Hb (h.mem x hx).2.2.1 hi
end
end Go.Proofs.YtapmdfcmpglieaaGreatDoor.am
set_option maxRecDepth 100000
set_option maxHeartbeats 4000000
namespace Go.Proofs.YtapmdfcmpglieaaGreatDoor.am
open Go Go.Proofs Go.RowKit
attribute [local irreducible] aj
theorem EF(v:Value)(vs:Array Value)(w:World):(callMethod (.iface 155 v) "Len" vs).run Tryz.prog w=(callFunc 50 (#[v]++vs)).run Tryz.prog w:=by kernel_rfl
theorem Bw(v:Value)(vs:Array Value)(w:World):(callMethod (.iface 155 v) "Less" vs).run Tryz.prog w=(callFunc 213 (#[v]++vs)).run Tryz.prog w:=by kernel_rfl
theorem Bc(v:Value)(vs:Array Value)(w:World):(callMethod (.iface 155 v) "Swap" vs).run Tryz.prog w=(callFunc 215 (#[v]++vs)).run Tryz.prog w:=by kernel_rfl
theorem FN(v:Value)(vs:Array Value)(w:World):(callMethod (.iface 155 v) "Pop" vs).run Tryz.prog w=(callFunc 214 (#[v]++vs)).run Tryz.prog w:=by kernel_rfl
abbrev quB(D:List Nat)(n:Nat):Blk:=.cells 160 [.sl 1 n,.ifc (HMod + 48) (.tr (a8 D))]
theorem Ao(D:List Nat)(a b:Int)(h0:0<=a/\a<D.length)(h1:0<=b/\b<D.length):∃r,K 48 [.tr (a8 D),.tr (ti a),.tr (ti b)] [] (.ret (.tr (tb r))) []:=by
 have hoD:=aZ D;obtain⟨x,hx⟩:∃x,D[a.toNat]?=some x:=⟨_,ab JQ⟩;obtain⟨y,hy⟩:∃y,D[b.toNat]?=some y:=⟨_,ab JQ⟩;refine⟨bif decide (((x:Nat):Int) > (y:Nat)) then true else bif ((x:Nat):Int)==(y:Nat) then decide (a > b) else false,?_⟩;refine Ctr.of hT hmix Tryz.func48 rfl (fun _ _=>JR) rfl fun hok=>?_;clear hok;conv=>whnf
 refine⟨rfl,h0.1,(by rw[hoD];exact h0.2),fun row hrow=>?_⟩;obtain⟨d,hd,rfl⟩:=aU hrow;obtain rfl:=vx (hx.symm.trans hd);clear hrow hd;conv=>whnf
 refine⟨rfl,h1.1,(by rw[hoD];exact h1.2),fun row hrow=>?_⟩;obtain⟨d,hd,rfl⟩:=aU hrow;obtain rfl:=vx (hy.symm.trans hd);clear hrow hd;conv=>whnf
 cases q1:decide (((x:Nat):Int) > (y:Nat)) with
 |true=>
  rw[r7];conv=>whnf
  refine drT ?_;conv=>whnf
  exact aut
 |false=>
 rw[lh];conv=>whnf
 refine⟨rfl,h0.1,(by rw[hoD];exact h0.2),fun row hrow=>?_⟩;obtain⟨d,hd,rfl⟩:=aU hrow;obtain rfl:=vx (hx.symm.trans hd);clear hrow hd;conv=>whnf
 refine⟨rfl,h1.1,(by rw[hoD];exact h1.2),fun row hrow=>?_⟩;obtain⟨d,hd,rfl⟩:=aU hrow;obtain rfl:=vx (hy.symm.trans hd);clear hrow hd;conv=>whnf
 cases q2:((x:Int)==(y:Nat)) with
 |true=>
  rw[r7];conv=>whnf
  refine drT ?_;conv=>whnf
  exact aut
 |false=>
 rw[lh];conv=>whnf
 refine drT ?_;conv=>whnf
 exact aut
theorem Cv(D:List Nat)(n:Nat)(L:List Int):K 50 [.ptr 0 0] [quB D n,ivB L] (.ret (.tr (ti n))) [some (quB D n),some (ivB L)]:=by
 refine Ctr.of hT hmix Tryz.func50 rfl (fun _ _=>JR) rfl fun hok=>?_;clear hok;conv=>whnf
 exact aut
theorem Fu(D:List Nat)(n:Nat)(L:List Int)(x:Int)(hn:0<n)(hn2:n<=4096)(hL:n<=L.length)(hx:L[n-1]?=some x):K 214 [.ptr 0 0] [quB D n,ivB L] (.ret (.ifc 3 (.tr (ti x)))) [some (quB D (n-1)),some (ivB L)]:=by
 have hoL:(L.map irow).length=L.length:=ad ..;have hw1:IntKind.i64.wrap ((n:Int)-1)=((n-1:Nat):Int):=by rw[w64 JQ JQ];omega
 refine Ctr.of hT hmix Tryz.func214 rfl (fun _ _=>JR) rfl fun hok=>?_;clear hok;conv=>whnf
 rw[hw1];refine⟨rfl,JQ,JQ,?_⟩;conv=>whnf
 refine ixV hx ?_;refine⟨(JS:0<1),fun t ht=>?_⟩;cases ht;conv=>whnf
 refine drT ?_;conv=>whnf
 rw[hw1];refine⟨(JQ:(0:Int)<=((n-1:Nat):Int)),(JQ:((n-1:Nat):Int)<=(n:Int)),?_⟩;conv=>whnf
 refine drT ?_;conv=>whnf
 exact aut
theorem Bb(D:List Nat)(n:Nat)(L:List Int)(i j:Nat)(x y:Int)(hi:i<n)(hj:j<n)(hL:n<=L.length)(hx:L[i]?=some x)(hy:L[j]?=some y):K 215 [.ptr 0 0,.tr (ti i),.tr (ti j)] [quB D n,ivB L] (.ret (.tup [])) [some (quB D n),some (ivB ((L.set i y).set j x))]:=by
 have hoL:(L.map irow).length=L.length:=ad ..;refine Ctr.of hT hmix Tryz.func215 rfl (fun _ _=>JR) rfl fun hok=>?_;clear hok;conv=>whnf
 refine⟨rfl,(JQ:(0:Int)<=(j:Int)),(JQ:(j:Int)<(n:Int)),?_⟩;conv=>whnf
 refine ixV hy ?_;refine⟨(JS:0<1),fun t ht=>?_⟩;cases ht;conv=>whnf
 refine⟨rfl,(JQ:(0:Int)<=(i:Int)),(JQ:(i:Int)<(n:Int)),?_⟩;conv=>whnf
 refine ixV hx ?_;refine⟨(JS:0<1),fun t ht=>?_⟩;cases ht;conv=>whnf
 refine⟨rfl,(JQ:(0:Int)<=(i:Int)),(JQ:(i:Int)<(n:Int)),?_⟩;conv=>whnf
 refine ixS hx ?_;refine⟨(JS:0+1<=1),?_⟩;conv=>whnf
 refine⟨rfl,(JQ:(0:Int)<=(j:Int)),(JQ:(j:Int)<(n:Int)),?_⟩;conv=>whnf
 refine⟨rfl,rfl,(by show j<((L.map irow).set i _).length;rw[G0];omega),fun row hrow=>?_⟩;have hrow:((L.set i y).map irow)[j]?=some row:=by rw[Hp];exact hrow
 obtain⟨d,hd,rfl⟩:=aC hrow;refine⟨(JS:0+1<=1),?_⟩;conv=>whnf
 refine drT ?_;conv=>whnf
 exact⟨J0,aut,⟨rfl,rfl,rfl,by rw[Hp,Hp];rfl⟩,J0⟩
theorem Bz(D:List Nat)(n:Nat)(L:List Int)(i j:Nat)(x y:Int)(hi:i<n)(hj:j<n)(hL:n<=L.length)(hx:L[i]?=some x)(hy:L[j]?=some y)(h0:0<=x/\x<D.length)(h1:0<=y/\y<D.length):∃r,K 213 [.ptr 0 0,.tr (ti i),.tr (ti j)] [quB D n,ivB L] (.ret (.tr (tb r))) [some (quB D n),some (ivB L)]:=by
 have hoL:(L.map irow).length=L.length:=ad ..;obtain⟨r,hk⟩:=Ao D x y h0 h1;refine⟨r,?_⟩;refine Ctr.of hT hmix Tryz.func213 rfl (fun _ _=>JR) rfl fun hok=>?_;clear hok;conv=>whnf
 refine⟨rfl,(JQ:(0:Int)<=(i:Int)),(JQ:(i:Int)<(n:Int)),?_⟩;conv=>whnf
 refine ixV hx ?_;refine⟨(JS:0<1),fun t ht=>?_⟩;cases ht;conv=>whnf
 refine⟨rfl,(JQ:(0:Int)<=(j:Int)),(JQ:(j:Int)<(n:Int)),?_⟩;conv=>whnf
 refine ixV hy ?_;refine⟨(JS:0<1),fun t ht=>?_⟩;cases ht;conv=>whnf
 refine aa.pure _ (hk) rfl rfl ?_;conv=>whnf
 refine drT ?_;conv=>whnf
 exact aut
end Go.Proofs.YtapmdfcmpglieaaGreatDoor.am
set_option maxRecDepth 100000
set_option maxHeartbeats 4000000
namespace Go.Proofs.YtapmdfcmpglieaaGreatDoor.am
open Go Go.Proofs Go.RowKit
attribute [local irreducible] aj
structure PmI(n:Nat)(L L':List Int):Prop where
 len:L'.length=L.length
 perm:(L'.take n).Perm (L.take n)
 rest:L'.drop n=L.drop n
theorem PmI.refl(n:Nat)(L:List Int):PmI n L L:=⟨rfl,List.Perm.refl _,rfl⟩
theorem PmI.trans{n:Nat}{a b c:List Int}(h:PmI n a b)(k:PmI n b c):PmI n a c:=⟨k.len.trans h.len,k.perm.trans h.perm,k.rest.trans h.rest⟩
theorem wh{l:List Int}{i j:Nat}{x y:Int}(hx:l[i]?=some x)(hy:l[j]?=some y):((l.set i y).set j x).Perm l:=by
 obtain⟨hi,ex⟩:=a9.1 hx;obtain⟨hj,ey⟩:=a9.1 hy;refine List.perm_iff_count.2 fun a=>?_;rw[List.count_set (by rw[G0];exact hj),List.count_set hi,List.getElem_set];have c1:x=a->0<l.count a:=fun e=>List.count_pos_iff.2 (e ▸ i3 hx);have c2:y=a->0<l.count a:=fun e=>List.count_pos_iff.2 (e ▸ i3 hy);rw[ex,ey];by_cases hij:i=j
 ·subst hij;rw[hx] at hy;cases hy;simp only[I6];by_cases e:x=a;·have:=c1 e;simp[e];omega
  ·simp[e]
 ·simp only[hij,I9];by_cases e:x=a
  ·have:=c1 e;by_cases e2:y=a;·simp[e,e2];omega
   ·simp[e,e2];omega
  ·by_cases e2:y=a
   ·have:=c2 e2;first|(simp[e,e2];done)|(simp[e,e2];omega)
   ·simp[e,e2]
theorem PmI.swap{n:Nat}{L:List Int}{i j:Nat}{x y:Int}(hi:i<n)(hj:j<n)(hx:L[i]?=some x)(hy:L[j]?=some y):PmI n L ((L.set i y).set j x):=by
 refine⟨JX,?_,?_⟩
 ·rw[List.take_set,List.take_set];exact wh (by rw[Ba,Gw hi];exact hx) (by rw[Ba,Gw hj];exact hy)
 ·rw[Je hj,Je hi]
def tK(N n:Nat)(L:List Int):Prop:=∀x∈L.take n,0<=x/\x<N
theorem tK.at_{N n:Nat}{L:List Int}(h:tK N n L){i:Nat}{x:Int}(hi:i<n)(hx:L[i]?=some x):0<=x/\x<N:=
 h x (i3 (i:=i) (by rw[Ba,Gw hi];exact hx))
theorem tK.of{N n:Nat}{L L':List Int}(h:tK N n L)(hp:PmI n L L'):tK N n L':=fun x hx=>h x (hp.perm.mem_iff.1 hx)
theorem Ax(D:List Nat)(m n i0:Nat)(L0:List Int)(hm:m<=L0.length)(hn:n<=m)(hl:L0.length<=4096)(hi0:i0<=4096)(hr:tK D.length n L0):KE 115 [.ifc 155 (.ptr 0 0),.tr (ti i0),.tr (ti n)] [quB D m,ivB L0] (fun r b=>∃L' t,PmI n L0 L'/\r=.ret (.tr (tb t))/\b=[some (quB D m),some (ivB L')]):=by
 refine cp.new [8] hT hmix Tryz.func115 rfl (fun _ _=>JR) rfl fun hok=>?_;clear hok;conv=>whnf
 refine aq.by (fun x:Nat×List Int=>⟨[(0,.ifc 155 (.ptr 0 0)),(1,.tr (ti i0)),(2,.tr (ti n)),(7,.tr (ti x.1))],[(0,quB D m),(1,ivB x.2)],11⟩) (fun x=>PmI n L0 x.2/\x.1<=4096) (fun x=>8192-x.1) (i0,L0) [0,1] [] (Sub.au) ⟨.refl ..,hi0⟩ ?_;rintro⟨i,L⟩ ⟨hP,hi⟩ -
 dsimp only at hP hi;have hlen:=hP.len;have hrL:=hr.of hP;have hw1:IntKind.i64.wrap (IntKind.i64.wrap (2*(i:Int))+1)=((2*i+1:Nat):Int):=by rw[w64 (n:=2*(i:Int)) JQ JQ,w64 JQ JQ];omega
 conv=>whnf
 rw[show IntKind.i64.wrap (IntKind.i64.wrap (2*((i,L).fst:Int))+1)=((2*i+1:Nat):Int) from hw1];have fin:∀b:Bool,∃L' t,PmI n L0 L'/\AE.ret (.tr (tb b))=.ret (.tr (tb t))/\[some (quB D m),some (ivB L)]=[some (quB D m),some (ivB L')]:=fun b=>⟨L,b,hP,rfl,rfl⟩;cases h1:decide (((2*i+1:Nat):Int)>=(n:Int)) with
 |true=>
  conv=>whnf
  refine⟨fun h=>absurd h JS,fun _=>?_⟩;conv=>whnf
  refine exT ?_;conv=>whnf
  exact⟨_,_,fin _,[0,1],rfl,rfl,aut⟩
 |false=>
 have h1':2*i+1<n:=by have:=ud h1;omega
 conv=>whnf
 rw[show decide (((2*i+1:Nat):Int)<0)=false from Gz JQ];have hw2:IntKind.i64.wrap (((2*i+1:Nat):Int)+1)=((2*i+2:Nat):Int):=by rw[w64 JQ JQ];omega
 obtain⟨x,hx⟩:∃x,L[i]?=some x:=⟨_,ab JQ⟩;conv=>whnf
 refine bD.by (fun j:Nat=>⟨[(0,.ifc 155 (.ptr 0 0)),(1,.tr (ti i0)),(2,.tr (ti n)),(7,.tr (ti i)),(9,.tr (ti j))],[(0,quB D m),(1,ivB L)],11⟩) (fun j=>i<j/\j<n) ?_ ?_
 ·conv=>whnf
  rw[hw2];cases h2:decide (((2*i+2:Nat):Int)<(n:Int)) with
  |false=>
   conv=>whnf
   exact⟨2*i+1,[0,1],[],Sub.au,JQ,h1'⟩
  |true=>
  have h2':2*i+2<n:=by have:=of_decide_eq_true h2;omega
  obtain⟨y,hy⟩:∃y,L[2*i+2]?=some y:=⟨_,ab JQ⟩;obtain⟨z,hz⟩:∃z,L[2*i+1]?=some z:=⟨_,ab JQ⟩;obtain⟨r,hk⟩:=Bz D m L (2*i+2) (2*i+1) y z JQ JQ JQ hy hz (hrL.at_ h2' hy) (hrL.at_ h1' hz);conv=>whnf
  refine⟨_,Bw,?_⟩;refine aa.au [0,1] [] hk ?_;intro _;conv=>whnf
  cases r with
  |true=>
   conv=>whnf
   exact⟨2*i+2,[0,1],[],Sub.au,JQ,h2'⟩
  |false=>
   conv=>whnf
   exact⟨2*i+1,[0,1],[],Sub.au,JQ,h1'⟩
 rintro j ⟨hij,hjn⟩ -
 obtain⟨y,hy⟩:∃y,L[j]?=some y:=⟨_,ab JQ⟩;obtain⟨r,hk⟩:=Bz D m L j i y x JQ JQ JQ hy hx (hrL.at_ hjn hy) (hrL.at_ JQ hx);have hsw:=Bb D m L i j x y JQ JQ JQ hx hy;conv=>whnf
 refine⟨_,Bw,?_⟩;refine aa.au [0,1] [] hk ?_;intro _;conv=>whnf
 cases r with
 |false=>
  conv=>whnf
  refine⟨fun h=>absurd h JS,fun _=>?_⟩;conv=>whnf
  refine exT ?_;conv=>whnf
  exact⟨_,_,fin _,[0,1],rfl,rfl,aut⟩
 |true=>
 conv=>whnf
 refine⟨_,Bc,?_⟩;refine aa.au [0,1] [] hsw ?_;intro _;conv=>whnf
 exact⟨(j,(L.set i y).set j x),[0,1],[],Sub.au,⟨hP.trans (.swap JQ hjn hx hy),JQ⟩,by show 8192-j<8192-i;omega⟩
theorem DZ(D:List Nat)(n:Nat)(L0:List Int)(hn:n<=L0.length)(hl:L0.length<=4096)(hr:tK D.length n L0):KE 49 [.ifc 155 (.ptr 0 0)] [quB D n,ivB L0] (fun r b=>∃L',PmI n L0 L'/\r=.ret (.tup [])/\b=[some (quB D n),some (ivB L')]):=by
 have hv:IntKind.i64.wrap (IntKind.i64.wrap ((n:Int).tdiv 2)-1)=((n / 2:Nat):Int)-1:=by
  have hq:(n:Int).tdiv 2=((n / 2:Nat):Int):=by rw[Int.tdiv_eq_ediv_of_nonneg JQ];omega
  rw[hq,w64 (n:=((n / 2:Nat):Int)) JQ JQ,w64 JQ JQ]
 refine cp.new [2000004] hT hmix Tryz.func49 rfl (fun _ _=>JR) rfl fun hok=>?_;clear hok;conv=>whnf
 refine⟨_,EF,?_⟩;refine aa.au [0,1] [] (Cv D n L0) ?_;intro _;conv=>whnf
 refine⟨JS,?_⟩;conv=>whnf
 refine aq.by (fun x:Nat×List Int=>⟨[(0,.ifc 155 (.ptr 0 0)),(2,.tr (ti n)),(3,.tr (ti ((x.1:Int)-1)))],[(0,quB D n),(1,ivB x.2)],11⟩) (fun x=>PmI n L0 x.2/\x.1<=4096) (fun x=>x.1) (n / 2,L0) [0,1] [] (Sub.mk' rfl ⟨aut,JZ,.inl (E8 ti hv),J0⟩ aut rfl rfl) ⟨.refl ..,by show n / 2<=4096;omega⟩ ?_;rintro⟨k,L⟩ ⟨hP,hk⟩ -
 dsimp only at hP hk;conv=>whnf
 cases h1:decide (((k:Int)-1)>=0) with
 |false=>
  conv=>whnf
  refine exT ?_;conv=>whnf
  exact⟨_,_,⟨L,hP,rfl,rfl⟩,[0,1],rfl,rfl,aut⟩
 |true=>
 have h1':0<k:=by have:=of_decide_eq_true h1;omega
 have hd:=Ax D n n (k-1) L (by have:=hP.len;omega) (t9 _) (by have:=hP.len;omega) JQ (hr.of hP);rw[(JQ:(((k-1:Nat):Nat):Int)=(k:Int)-1)] at hd;have hw2:IntKind.i64.wrap ((k:Int)-1-1)=((k-1:Nat):Int)-1:=by rw[w64 JQ JQ];omega
 conv=>whnf
 refine af hT 3 ?_;conv=>whnf
 refine aj.by [0,1] [] hd ?_;rintro res bout ⟨L',b,hP',rfl,rfl⟩;refine⟨rfl,?_⟩;conv=>whnf
 intro _;conv=>whnf
 rw[hw2];exact⟨(k-1,L'),[0,1],[],Sub.au,⟨hP.trans hP',by show k-1<=4096;omega⟩,by show k-1<k;omega⟩
theorem E6(D:List Nat)(n:Nat)(L0:List Int)(h0:0<n)(hn:n<=L0.length)(hl:L0.length<=4096)(hr:tK D.length n L0):KE 51 [.ifc 155 (.ptr 0 0)] [quB D n,ivB L0] (fun r b=>∃L' x,L'.length=L0.length/\((x::L'.take (n-1)).Perm (L0.take n))/\r=.ret (.ifc 3 (.tr (ti x)))/\b=[some (quB D (n-1)),some (ivB L')]):=by
 have hw1:IntKind.i64.wrap ((n:Int)-1)=((n-1:Nat):Int):=by rw[w64 JQ JQ];omega
 obtain⟨x,hx⟩:∃x,L0[0]?=some x:=⟨_,ab JQ⟩;obtain⟨y,hy⟩:∃y,L0[n-1]?=some y:=⟨_,ab JQ⟩;have hsw:=Bb D n L0 0 (n-1) x y h0 JQ hn hx hy;have hP:=PmI.swap (n:=n) h0 (by omega:n-1<n) hx hy;have hS:((L0.set 0 y).set (n-1) x).length=L0.length:=JX;have hr1:tK D.length (n-1) ((L0.set 0 y).set (n-1) x):=fun z hz=>hr.of hP z (by
  have e:((L0.set 0 y).set (n-1) x).take (n-1)=(((L0.set 0 y).set (n-1) x).take n).take (n-1):=by rw[List.take_take,Hf JQ]
  rw[e] at hz;exact G2 hz)
 have hd:=Ax D n (n-1) 0 _ (by rw[hS];exact hn) JQ (by rw[hS];exact hl) JQ hr1;have hlast:((L0.set 0 y).set (n-1) x)[n-1]?=some x:=by rw[GD (by simp;omega)]
 generalize (L0.set 0 y).set (n-1) x=L1 at *
 refine cp.new [2000003] hT hmix Tryz.func51 rfl (fun _ _=>JR) rfl fun hok=>?_;clear hok;conv=>whnf
 refine⟨_,EF,?_⟩;refine aa.au [0,1] [] (Cv D n L0) ?_;intro _;conv=>whnf
 rw[hw1];refine⟨_,Bc,?_⟩;refine aa.au [0,1] [] hsw ?_;intro _;conv=>whnf
 refine af hT 2 ?_;conv=>whnf
 refine aj.by [0,1] [] hd ?_;rintro res bout ⟨L',b,hP',rfl,rfl⟩;refine⟨rfl,?_⟩;conv=>whnf
 intro _;conv=>whnf
 have hx':L'[n-1]?=some x:=by have:=E8 (fun l=>l[0]?) hP'.rest;simp only[GA,HR] at this;exact this.trans hlast
 have hpp:=Fu D n L' x h0 JQ (by have:=hP'.len;omega) hx';refine⟨_,FN,?_⟩;refine aa.au [0,1] [] hpp ?_;intro _;conv=>whnf
 exact⟨_,_,⟨L',x,hP'.len.trans hS,((hP'.perm.cons x).trans (List.perm_append_singleton x _).symm).trans (by rw[<-aN hlast,(JQ:n-1+1=n)];exact hP.perm),rfl,rfl⟩,[0,1],rfl,rfl,aut⟩
end Go.Proofs.YtapmdfcmpglieaaGreatDoor.am
set_option maxRecDepth 100000
set_option maxHeartbeats 4000000
namespace Go.Proofs.YtapmdfcmpglieaaGreatDoor.am
open Go Go.Proofs Go.RowKit
attribute [local irreducible] aj
structure MgI(u:Un)(g:Gr)(l0 cur q:List Int):Prop where
 srt:uh g.nodes.length cur
 sub:∀x∈cur,x∈l0
 nil:loadsS u g cur=[]
 kept:∀n∈cur,n∈q\/loadsS u g (delI cur n)≠[]
theorem MgI.drop{u:Un}{g:Gr}{l0 cur q q':List Int}{x:Int}(hW:Whole g)(h:MgI u g l0 cur q)(hq:(x::q').Perm q)(hl:loadsS u g (delI cur x)=[]):MgI u g l0 (delI cur x) q':=by
 refine⟨h.srt.del x,fun y hy=>h.sub y (cg.1 hy).1,hl,fun n hn=>?_⟩;obtain⟨h1,h2⟩:=cg.1 hn;rcases h.kept n h1 with k|k
 ·rcases F5.1 (hq.mem_iff.2 k) with e|k
  ·exact(h2 e).elim
  ·exact .inl k
 ·refine .inr fun e=>k ?_;have r1:∀y∈delI cur n,0<=y:=fun y hy=>(h.srt.rng y (cg.1 hy).1).1;have r2:∀y∈delI (delI cur x) n,0<=y:=fun y hy=>(h.srt.rng y (cg.1 (cg.1 hy).1).1).1;refine(dB hW r1).2 fun j hj=>(dB hW r2).1 e j (nP (fun y hy=>?_) hj);obtain⟨a,b⟩:=cg.1 hy;exact cg.2 ⟨(cg.1 a).1,b⟩
theorem MgI.keep{u:Un}{g:Gr}{l0 cur q q':List Int}{x:Int}(h:MgI u g l0 cur q)(hq:(x::q').Perm q)(hl:loadsS u g (delI cur x)≠[]):MgI u g l0 cur q':=by
 refine⟨h.srt,h.sub,h.nil,fun n hn=>?_⟩;rcases h.kept n hn with k|k
 ·rcases F5.1 (hq.mem_iff.2 k) with e|k
  ·exact .inr (by rw[e];exact hl)
  ·exact .inl k
 ·exact .inr k
theorem yy(u:Un)(hu:xX u)(t:Nat)(g:Gr)(hg:u.graphs[t]?=some g)(l0:List Int)(hs:uh g.nodes.length l0)(hn:loadsS u g l0=[]):KE 19 [u.av,.tr (ti t),.tr (az l0)] [] (fun r b=>∃cur,MgI u g l0 cur []/\r=.ret (.tr (az cur))/\b=[]):=by
 have hm:=i3 hg;have hwb:=hu.lk.whole g hm;have hW:=aT hwb;have htl:t<u.graphs.length:=(a9.1 hg).1;have hgl:=hu.lk.few;have hf0:=hs.srt.few;have hmo:=hW.most;have hdp:=BO g hwb;have hdl:(nt (fol g) g.nodes.length).length=g.nodes.length:=by unfold nt;exact fe ..
 have hcl:=me l0 JQ;have hlo:∀fs,uh g.nodes.length fs->K 18 [u.av,.tr (ti t),.tr (az fs)] [] (.ret (.tup [.tr (az (loadsS u g fs)),.tr (ti 0)])) []:=fun fs h=>pr u hu t g hg fs h.srt;have hI0:MgI u g l0 l0 l0:=⟨hs,fun _ h=>h,hn,fun n h=>.inl h⟩;have hdrop:=fun cur q q' x=>MgI.drop (u:=u) (g:=g) (l0:=l0) (cur:=cur) (q:=q) (q':=q') (x:=x) hW;have hkeep:=fun cur q q' x=>MgI.keep (u:=u) (g:=g) (l0:=l0) (cur:=cur) (q:=q) (q':=q') (x:=x);have hperm:∀cur q q',MgI u g l0 cur q->q'.Perm q->MgI u g l0 cur q':=fun cur q q' h hp=>⟨h.srt,h.sub,h.nil,fun n hn=>(h.kept n hn).imp (fun k=>hp.mem_iff.2 k) id⟩;have hsrt:∀cur q,MgI u g l0 cur q->uh g.nodes.length cur:=fun cur q h=>h.srt;have hr0:tK g.nodes.length l0.length l0:=fun x hx=>hs.rng x (G2 hx);generalize nt (fol g) g.nodes.length=D at *
 rw[<-hdl] at hr0;have hfew:∀cur,uh g.nodes.length cur->cur.length<=4096:=fun cur h=>GB h.srt.few hmo;generalize MgI u g l0=MI at *
 generalize loadsS u g=LS at *
 obtain⟨shared,lks,graphs⟩:=u;obtain⟨name,locals,slots,nodes⟩:=g;dsimp only at hg htl hgl hf0 hmo hdl hsrt hfew hlo;have hoG:(graphs.map Gr.cells).length=graphs.length:=ad ..;refine cp.new [2000002,2000004] hT hmix Tryz.func19 rfl (fun _ _=>JR) rfl fun hok=>?_;clear hok;conv=>whnf
 refine aa.new [] [] _ _ _ _ (hcl) rfl rfl rfl rfl aut aut rfl rfl ?_;conv=>whnf
 refine ixM hg ?_;conv=>whnf
 refine aa.pure _ (hdp) rfl rfl ?_;conv=>whnf
 refine drT ?_;conv=>whnf
 refine af hT 2 ?_;conv=>whnf
 refine aj.by [12,3] [] (DZ D l0.length l0 (t9 _) JQ hr0) ?_;rintro res bout ⟨L1,hP1,rfl,rfl⟩;refine⟨rfl,?_⟩;conv=>whnf
 intro _;conv=>whnf
 have hL1:=hP1.len;have hI1:MI l0 (L1.take l0.length):=by
  refine hperm _ _ _ hI0 ?_;have:=hP1.perm
  rwa [Hi] at this
 have hr1:=hr0.of hP1;refine aq.by (fun x:Nat×List Int×List Int=>⟨[(1,.tr (ti t)),(2,.tr (az x.2.2)),(3,.ptr 2 0),(7,.ptr 0 0)],[(0,quB D x.1),(1,ivB x.2.1),(2,.cells 26 [.tr (ae shared),.tr (ae lks),.tr (bt graphs)])],11⟩) (fun x=>x.1<=x.2.1.length/\x.2.1.length=l0.length/\tK D.length x.1 x.2.1/\MI x.2.2 (x.2.1.take x.1)) (fun x=>x.1) (l0.length,L1,l0) [12,3,0] [] (Sub.au) ⟨by show l0.length<=L1.length;omega,hL1,hr1,hI1⟩ ?_;clear hP1 hL1 hI1 hr1 hI0 hr0;rintro⟨k,L,cur⟩ ⟨hk,hL,hr,hI⟩ -
 dsimp only at hk hL hr hI;have hcs:=hsrt _ _ hI;conv=>whnf
 refine aa.au [0,1] [] (Cv D k L) ?_;intro _;conv=>whnf
 cases h1:decide ((k:Int) > 0) with
 |false=>
  have h1':k=0:=by have:=ud h1;omega
  subst h1';conv=>whnf
  refine exT ?_;conv=>whnf
  exact⟨_,_,⟨cur,hI,rfl,rfl⟩,[],rfl,rfl,aut⟩
 |true=>
 have h1':0<k:=by have:=of_decide_eq_true h1;omega
 conv=>whnf
 refine af hT 2 ?_;conv=>whnf
 refine aj.by [0,1] [] (E6 D k L h1' hk JQ hr) ?_;rintro res bout ⟨L2,x,hl2,hp2,rfl,rfl⟩;refine⟨rfl,?_⟩;conv=>whnf
 intro _;conv=>whnf
 refine aa.au [] [] (kS cur x (by have:=hfew _ hcs;omega)) ?_;intro _;conv=>whnf
 have hlk:=hlo (delI cur x) (hcs.del x);have hlen:((((LS (delI cur x)).map irow).length:Int)==0)=(LS (delI cur x)).isEmpty:=by
  rw[ad];cases LS (delI cur x) with
  |nil=>rfl
  |cons y r=>rw[E0];exact GX.2 JQ
 have hd1:=hdrop cur _ _ x hI hp2;have hk1:=hkeep cur _ _ x hI hp2;have hr2:tK D.length (k-1) L2:=fun z hz=>hr z (hp2.mem_iff.1 (.tail _ hz));refine aa.au [] [] (hlk) ?_;intro _;conv=>whnf
 rw[hlen];cases h2:(LS (delI cur x)).isEmpty with
 |true=>
  have h2':LS (delI cur x)=[]:=by simpa using h2
  conv=>whnf
  exact⟨(k-1,L2,delI cur x),[0,1,2],[],Sub.au,⟨by show k-1<=L2.length;omega,hl2.trans hL,hr2,hd1 h2'⟩,by show k-1<k;omega⟩
 |false=>
  have h2':LS (delI cur x)≠[]:=fun e=>by rw[e] at h2;cases h2
  conv=>whnf
  exact⟨(k-1,L2,cur),[0,1,2],[],Sub.au,⟨by show k-1<=L2.length;omega,hl2.trans hL,hr2,hk1 h2'⟩,by show k-1<k;omega⟩
end Go.Proofs.YtapmdfcmpglieaaGreatDoor.am
set_option maxRecDepth 100000
set_option maxHeartbeats 4000000
namespace Go.Proofs.YtapmdfcmpglieaaGreatDoor.am
open Go Go.Proofs Go.RowKit
attribute [local irreducible] aj
def esF(M:List (Sp×Nat)):List (MK×Tr):=M.map fun x=>(.kib ((x.1.n:Nat):Int) x.1.p,ti (x.2:Nat))
theorem du:∀(M:List (Sp×Nat))(n:Nat)(p:Bool),ew (esF M) (.kib ((n:Nat):Int) p)=(getF M ⟨n,p⟩).map fun(d:Nat)=>ti d
 |[],_,_=>rfl
 |x::r,n,p=>by
  show(bif (((n:Int)==(x.1.n:Int))&&p==x.1.p) then some (ti (x.2:Nat)) else ew (esF r) (.kib ((n:Nat):Int) p))=(bif (((n:Int)==(x.1.n:Int))&&p==x.1.p) then some x.2 else getF r ⟨n,p⟩).map _;cases (((n:Int)==(x.1.n:Int))&&p==x.1.p) with
  |true=>rfl
  |false=>exact du r n p
theorem mb:∀(M:List (Sp×Nat))(n:Nat)(p:Bool)(d:Nat),getF M ⟨n,p⟩=none->mput (esF M) (.kib ((n:Nat):Int) p) (ti (d:Nat))=esF (M++[(⟨n,p⟩,d)])
 |[],_,_,_,_=>rfl
 |x::r,n,p,d,h=>by
  have h:(bif (((n:Int)==(x.1.n:Int))&&p==x.1.p) then some x.2 else getF r ⟨n,p⟩)=none:=h;show(bif (((n:Int)==(x.1.n:Int))&&p==x.1.p) then _ else(MK.kib ((x.1.n:Nat):Int) x.1.p,ti (x.2:Nat))::mput (esF r) (.kib ((n:Nat):Int) p) (ti (d:Nat)))=_;cases e:(((n:Int)==(x.1.n:Int))&&p==x.1.p) with
  |true=>rw[e] at h;cases h
  |false=>
   rw[e,lh] at h;rw[lh,mb r n p d h];rfl
abbrev fmB(M:List (Sp×Nat)):Blk:=.map (.struct [(0,0)]) (esF M)
abbrev trB(g:Gr)(L:List Cls)(oth:List Int)(node:Int):Blk:=.cells 104 [.tr (ts g.name),.tr (ti g.locals),.tr (ti g.slots),.tr (aO g.nodes),.tr (eg L),.tr (az oth),.tr (ti node),.mp 1]
def kA(x:Sp×Nat):List Tr:=[ti (x.1.n:Nat),tb x.1.p]
theorem Bi(g:Gr)(L:List Cls)(oth:List Int)(node:Int)(M:List (Sp×Nat))(n:Nd)(c:Cls)(h0:0<=n.thing)(hc:L[n.thing.toNat]?=some c):K 32 [.ptr 0 0,n.av] [trB g L oth node,fmB M] (.ret (.tr (tb (c.k==3)))) [some (trB g L oth node),some (fmB M)]:=by
 have hoL:(L.map Cls.cells).length=L.length:=ad ..;obtain⟨ck,ct,cl⟩:=c;have hlt:n.thing.toNat<L.length:=(a9.1 hc).1;obtain⟨kind,op,slot,thing,⟨sa,ka,wa⟩,⟨sb,kb,wb⟩,next,els,origin⟩:=n;dsimp only at h0 hc hlt;refine Ctr.of hT hmix Tryz.func32 rfl (fun _ _=>JR) rfl fun hok=>?_;clear hok;conv=>whnf
 refine⟨rfl,h0,(by show thing<((L.map Cls.cells).length:Int);rw[hoL];omega),fun row hrow=>?_⟩;obtain⟨d,hd,rfl⟩:=aC hrow;obtain rfl:=vx (hc.symm.trans hd);clear hrow hd;conv=>whnf
 refine drT ?_;conv=>whnf
 exact aut
def xW(g:Gr)(K:List Int)(R:List Bool)(oth:List Int)(i:Nat):Bool:=R.getD i false&&((g.nodes.getD i ndz).kind==2&&(eO K (g.nodes.getD i ndz) && !oth.contains (i:Int)))
def okN(g:Gr)(R:List Bool)(i:Nat):Bool:=R.getD i false && !rE (g.nodes.getD i ndz)
theorem jq(M:List (Sp×Nat))(x:Sp×Nat):(M.map kA).take M.length++[kA x]=(M++[x]).map kA:=by rw[vG (Ee (ad ..)),FP];rfl
theorem xz(g:Gr)(K:List Int)(L:List Cls)(R:List Bool)(oth:List Int)(node:Int)(hwb:cm g=true)(hR:R.length=g.nodes.length)(hL:L.map Cls.k=K)(hth:∀n∈g.nodes,n.kind=2\/n.kind=3->0<=n.thing/\n.thing<K.length)(hol:oth.length<=8192):
  KE 31 [.ptr 0 0,.tr (bh R)] [trB g L oth node,fmB []] (fun r b=>∃M,lZ (fol g) g.nodes.length (xW g K R oth) (okN g R) (fun i=>oth.contains (i:Int)) (fun i=>(i:Int)==node) M (fun s _ _=>s∈M.map (·.1))/\r=.ret (.tup [])/\b=[some (trB g L oth node),some (fmB M)]):=by
 have hah:=pM g hwb;have hW:=aT hwb;have hmo:=hW.most;have hcon:=fun x=>gY oth x hol;have hrac:=fun M n c h0 hc=>Bi g L oth node M n c h0 hc;have hLl:L.length=K.length:=by rw[<-hL,ad]
 obtain⟨A,hA⟩:∃A,aheadL (fol g) g.nodes.length=A:=⟨_,rfl⟩;rw[hA] at hah;have hE:∀(i:Nat) n r,g.nodes[i]?=some n->R[i]?=some r->xW g K R oth i=(r&&(n.kind==2&&(eO K n && !oth.contains (i:Int)))):=fun i n r h1 h2=>by unfold xW;rw[t5,h2,t5,h1];rfl
 have hO:∀(i:Nat) n r,g.nodes[i]?=some n->R[i]?=some r->okN g R i=(r && !rE n):=fun i n r h1 h2=>by unfold okN;rw[t5,h2,t5,h1];rfl
 generalize xW g K R oth=EB at *
 have hOk:∀i,okN g R i=true->i<g.nodes.length:=fun i h=>by
  unfold okN at h;rcases HD i R.length with q|q
  ·omega
  ·rw[t5,yB q] at h;cases h
 generalize okN g R=OK at *
 have hfl:∀(a:Nat),∀b∈fol g a,b<g.nodes.length:=hW.lt;generalize fol g=FO at *
 obtain⟨name,locals,slots,nodes⟩:=g;dsimp only at hR hth hmo hA hE hO hfl hOk;have hoN:(nodes.map Nd.cells).length=nodes.length:=ad ..;have hoR:(R.map brow).length=R.length:=ad ..;refine cp.new [] hT hmix Tryz.func31 rfl (fun _ _=>JR) rfl fun hok=>?_;clear hok;conv=>whnf
 refine aa.pure _ (hah) rfl rfl fun _=>?_;conv=>whnf
 refine aq.by (fun x:Nat×List (Sp×Nat)=>⟨[(0,.ptr 0 0),(1,.tr (bh R)),(4,.tr (cD A)),(5,.sl 2 x.2.length),(26,.tr (aO nodes)),(27,.tr (ti nodes.length)),(28,.tr (ti x.1))],[(0,trB ⟨name,locals,slots,nodes⟩ L oth node),(1,fmB x.2),(2,.vec 107 2 16 (x.2.map kA))],11⟩) (fun x=>x.1<=nodes.length/\sd EB x.2 x.1) (fun x=>nodes.length-x.1) (0,[]) [0,1] [2] (Sub.mk' rfl ⟨JY,JZ,JZ,aut,JZ,.inl (by rw[hoN]),aut⟩ ⟨aut,JY,⟨rfl,107,2,16,rfl,JQ⟩,J0⟩ rfl rfl) ⟨x5 _,IT,fun x h=>(by cases h),fun j h=>absurd h (Hl j)⟩ ?_;rintro⟨i,M⟩ ⟨hi,hF⟩ -
 dsimp only at hi hF;have hMl:=hF.few hi;conv=>whnf
 cases h1:decide ((i:Int)<(nodes.length:Int)) with
 |true=>
  have h1':i<nodes.length:=by have:=of_decide_eq_true h1;omega
  have hwi:IntKind.i64.wrap ((i:Int)+1)=((i+1:Nat):Int):=by rw[w64 JQ JQ];omega
  obtain⟨r,hr⟩:∃r,R[i]?=some r:=⟨_,ab JQ⟩;obtain⟨n,hn⟩:∃n,nodes[i]?=some n:=⟨_,ab h1'⟩;have hthn:=hth n (i3 hn);have hrn:=hrac M n;conv=>whnf
  refine ixM hn ?_;obtain⟨kind,op,slot,thing,⟨sa,ka,wa⟩,⟨sb,kb,wb⟩,next,els,origin⟩:=n;dsimp only at hthn;conv=>whnf
  refine ixM hr ?_;cases r with
  |false=>
  have he:EB i=false:=by rw[hE i _ _ hn hr];rfl
  conv=>whnf
  rw[hwi];exact⟨(i+1,M),[0,1,2],[],Sub.au,⟨h1',hF.skip he⟩,by show nodes.length-(i+1)<nodes.length-i;omega⟩
  |true=>
  conv=>whnf
  cases h2:(kind==2) with
  |false=>
  have he:EB i=false:=by rw[hE i _ _ hn hr];dsimp only;rw[h2];rfl
  conv=>whnf
  rw[hwi];exact⟨(i+1,M),[0,1,2],[],Sub.au,⟨h1',hF.skip he⟩,by show nodes.length-(i+1)<nodes.length-i;omega⟩
  |true=>
  have hk2:kind=2:=eq_of_beq h2;obtain⟨q1,q2⟩:=hthn (.inl hk2);obtain⟨c,hc⟩:∃c,L[thing.toNat]?=some c:=⟨_,ab JQ⟩;have hrk:∀(kd op2 slot2 nx2 el2 or2:Int)(va vb:Val),eO K ⟨kd,op2,slot2,thing,va,vb,nx2,el2,or2⟩=(c.k==3):=fun kd op2 slot2 nx2 el2 or2 va vb=>by unfold eO;dsimp only;rw[<-hL,t5,z5,hc];rfl
  have hrn:=hrn c q1 hc;have hkc:=hcon (i:Int);have hEi:EB i=((c.k==3) && !oth.contains (i:Int)):=by rw[hE i _ _ hn hr];dsimp only;rw[h2,hrk];rfl
  conv=>whnf
  refine aa.au [0,1] [] (hrn) ?_;intro _;conv=>whnf
  cases h3:(c.k==3) with
  |false=>
  have he:EB i=false:=by rw[hEi,h3];rfl
  conv=>whnf
  rw[hwi];exact⟨(i+1,M),[0,1,2],[],Sub.au,⟨h1',hF.skip he⟩,by show nodes.length-(i+1)<nodes.length-i;omega⟩
  |true=>
  conv=>whnf
  refine aa.au [] [] (hkc) ?_;intro _;conv=>whnf
  cases h4:oth.contains (i:Int) with
  |true=>
  have he:EB i=false:=by rw[hEi,h3,h4];rfl
  conv=>whnf
  rw[hwi];exact⟨(i+1,M),[0,1,2],[],Sub.au,⟨h1',hF.skip he⟩,by show nodes.length-(i+1)<nodes.length-i;omega⟩
  |false=>
  have he:EB i=true:=by rw[hEi,h3,h4];rfl
  have hoM:(M.map kA).length=M.length:=ad ..;conv=>whnf
  refine drT ?_;conv=>whnf
  refine⟨rfl,rfl,rfl,Ee hoM.symm,by show(M.length+1)*16<=150000000000000;omega,neL rfl,?_⟩;conv=>whnf
  rw[hwi];exact⟨(i+1,M++[(Sp.mk i true,0)]),[0,1,_],[],Sub.mk' rfl ⟨JY,JZ,JZ,⟨rfl,by show M.length+1=(M++[_]).length;rw[uR];rfl⟩,JZ,JZ,JZ,J0⟩ ⟨⟨rfl,JZ,JZ,JZ,JZ,JZ,JZ,JZ,rfl,J0⟩,⟨rfl,mb M i true 0 hF.none⟩,⟨rfl,rfl,rfl,jq M (Sp.mk i true,0)⟩,J0⟩ rfl rfl,⟨h1',hF.push he⟩,by show nodes.length-(i+1)<nodes.length-i;omega⟩
 |false=>
 have h1':i=nodes.length:=by have:=ud h1;omega
 subst h1';have hI0:lZ FO nodes.length EB OK (fun i=>oth.contains (i:Int)) (fun i=>(i:Int)==node) M (fun s _ _=>s∈(M.map (·.1)).take 0):=hF.fin.done (fun s i p h=>by simp at h);clear hF hi hMl;conv=>whnf
 refine exT ?_;conv=>whnf
 refine aq.by (fun x:Nat×List (Sp×Nat)=>match x with|(k,M)=>(⟨[(0,.ptr 0 0),(1,.tr (bh R)),(4,.tr (cD A)),(5,.sl 2 M.length),(9,.tr (ti k))],[(0,trB ⟨name,locals,slots,nodes⟩ L oth node),(1,fmB M),(2,.vec 107 2 16 (M.map kA))],11⟩:LJ)) (fun x=>x.1<=x.2.length/\lZ FO nodes.length EB OK (fun i=>oth.contains (i:Int)) (fun i=>(i:Int)==node) x.2 (fun s _ _=>s∈(x.2.map (·.1)).take x.1)) (fun x=>2*nodes.length-x.1) (0,M) [0,1,2] [] (Sub.au) ⟨x5 _,hI0⟩ ?_;clear hI0 h1;rintro⟨k,M⟩ ⟨hk,hI⟩ -
 dsimp only at hk hI;have hMl:=hI.few;have hoM:(M.map kA).length=M.length:=ad ..;conv=>whnf
 cases h1:decide ((k:Int)<(M.length:Int)) with
 |false=>
  have h1':M.length<=k:=by have:=ud h1;omega
  have hfin:=hI.done (Dn':=fun s _ _=>s∈M.map (·.1)) (fun s' i p h=>.inl (by rw[vG (by rw[ad];exact h1')];exact h));conv=>whnf
  refine exT ?_;conv=>whnf
  exact⟨_,_,⟨M,hfin,rfl,rfl⟩,[0,1],rfl,rfl,aut⟩
 |true=>
 have h1':k<M.length:=by have:=of_decide_eq_true h1;omega
 have hwk:IntKind.i64.wrap ((k:Int)+1)=((k+1:Nat):Int):=by rw[w64 JQ JQ];omega
 obtain⟨⟨⟨tn,tp⟩,tv⟩,hs⟩:∃x,M[k]?=some x:=⟨_,ab h1'⟩;have htn:tn<nodes.length:=hI.rng _ (i3 hs);have hkc:=hcon (tn:Int);have hks:∀M':List (Sp×Nat),M'[k]?=some (⟨tn,tp⟩,tv)->∀s':Sp,s'∈(M'.map (·.1)).take (k+1)->s'∈(M'.map (·.1)).take k\/s'=⟨tn,tp⟩:=fun M' hM' s' h=>by
  rw[aN (by rw[z5,hM'];rfl)] at h;rcases FK.1 h with h|h
  ·exact .inl h
  ·exact .inr (by simpa using h)
 conv=>whnf
 refine⟨rfl,(JQ:(0:Int)<=(k:Int)),(JQ:(k:Int)<(M.length:Int)),?_⟩;conv=>whnf
 refine ixV hs ?_;conv=>whnf
 refine⟨(by show 2<=2;decide),?_⟩;conv=>whnf
 refine aa.pure _ (hkc) rfl rfl ?_;conv=>whnf
 refine drT ?_;conv=>whnf
 cases h2:oth.contains (tn:Int) with
 |true=>
  conv=>whnf
  refine exT ?_;conv=>whnf
  rw[hwk];exact⟨(k+1,M),[0,1,2],[],Sub.au,⟨h1',hI.done fun s' i p h=>(hks M hs s' h).imp id fun e q1=>by rw[e] at q1;exact absurd (h2.symm.trans q1) JS⟩,by show 2*nodes.length-(k+1)<2*nodes.length-k;omega⟩
 |false=>
 obtain⟨F,hF⟩:∃F,A[tn]?=some F:=⟨_,ab (by rw[<-hA];simp[aheadL];exact htn)⟩;have hFm:∀i,i∈F<->i<nodes.length/\tn∈FO i:=fun i=>by
  have:F=bj FO nodes.length tn:=by rw[<-hA] at hF;unfold aheadL at hF;rw[z5,GZ htn] at hF;exact(vx hF).symm
  rw[this,cV]
 have hFl:F.length<=4096:=by
  have:F=bj FO nodes.length tn:=by rw[<-hA] at hF;unfold aheadL at hF;rw[z5,GZ htn] at hF;exact(vx hF).symm
  rw[this];exact GB sQ hmo
 have hoF:=aZ F;conv=>whnf
 refine ixM hF ?_;conv=>whnf
 refine aq.by (fun x:Nat×List (Sp×Nat)=>match x with|(a,M)=>(⟨[(0,.ptr 0 0),(1,.tr (bh R)),(4,.tr (cD A)),(5,.sl 2 M.length),(9,.tr (ti k)),(10,.ptr 3 0),(89,.tr (a8 F)),(90,.tr (ti F.length)),(91,.tr (ti a))],[(0,trB ⟨name,locals,slots,nodes⟩ L oth node),(1,fmB M),(2,.vec 107 2 16 (M.map kA)),(3,.cells 107 [.tr (ti (tn:Nat)),.tr (tb tp)])],11⟩:LJ)) (fun x=>x.1<=F.length/\k<x.2.length/\x.2[k]?=some (⟨tn,tp⟩,tv)/\lZ FO nodes.length EB OK (fun i=>oth.contains (i:Int)) (fun i=>(i:Int)==node) x.2 (fun s' i q=>s'∈(x.2.map (·.1)).take k\/(s'=⟨tn,tp⟩/\∃j,j<x.1/\F[j]?=some i))) (fun x=>F.length-x.1) (0,M) [0,1,2,_] [] (Sub.mk' rfl ⟨JY,JZ,JZ,JY,JZ,JY,JZ,.inl (by rw[hoF]),JZ,J0⟩ ⟨⟨rfl,JZ,JZ,JZ,JZ,JZ,JZ,JZ,rfl,J0⟩,JY,⟨rfl,rfl,rfl,rfl⟩,⟨rfl,JZ,JZ,J0⟩,J0⟩ rfl rfl) ⟨x5 _,h1',hs,hI.done fun s' i p h=>h.elim .inl fun⟨_,j,hj,_⟩=>absurd hj (Hl j)⟩ ?_;clear hI hMl hoM h1 h1' hs hk;rintro⟨a,M⟩ ⟨ha,hk,hs,hI⟩ -
 dsimp only at ha hk hs hI;have hMl:=hI.few;conv=>whnf
 cases h1:decide ((a:Int)<(F.length:Int)) with
 |false=>
  have h1':F.length<=a:=by have:=ud h1;omega
  conv=>whnf
  refine exT ?_;conv=>whnf
  rw[hwk];exact⟨(k+1,M),[0,1,2],[],Sub.au,⟨hk,hI.done fun s' i p h=>(hks M hs s' h).elim (fun q=>.inl (.inl q)) fun e=>by
   by_cases hm:i∈F
   ·obtain⟨j,hj,ej⟩:=Gy.1 hm;exact .inl (.inr ⟨e,j,JQ,by rw[ab hj,ej]⟩)
   ·refine .inr fun q1 q2 q3 q4=>?_;rw[e] at q2;by_cases hin:i<nodes.length;·exact absurd ((hFm i).2 ⟨hin,q2⟩) hm
    ·exact absurd (hOk i q3) hin⟩,by show 2*nodes.length-(k+1)<2*nodes.length-k;omega⟩
 |true=>
 have h1':a<F.length:=by have:=of_decide_eq_true h1;omega
 have hwa:IntKind.i64.wrap ((a:Int)+1)=((a+1:Nat):Int):=by rw[w64 JQ JQ];omega
 obtain⟨p0,hp⟩:∃p0,F[a]?=some p0:=⟨_,ab h1'⟩;obtain⟨hpN,hpt⟩:=(hFm p0).1 (i3 hp);obtain⟨r,hr⟩:∃r,R[p0]?=some r:=⟨_,ab JQ⟩;obtain⟨n,hn⟩:∃n,nodes[p0]?=some n:=⟨_,ab hpN⟩;have hOp:=hO p0 n r hn hr;have hdr:=yD n;have hstep:∀ {M':List (Sp×Nat)} (a':Nat) (s':Sp) (i:Nat),(s'∈(M'.map (·.1)).take k\/(s'=⟨tn,tp⟩/\∃j,j<a+1/\F[j]?=some i))->(s'∈(M'.map (·.1)).take k\/(s'=⟨tn,tp⟩/\∃j,j<a/\F[j]?=some i))\/(s'=⟨tn,tp⟩/\i=p0):=fun a' s' i h=>by
  rcases h with h|⟨h,j,hj,hji⟩
  ·exact .inl (.inl h)
  ·by_cases e:j=a;·subst e;rw[hp] at hji;cases hji;exact .inr ⟨h,rfl⟩
   ·exact .inl (.inr ⟨h,j,JQ,hji⟩)
 conv=>whnf
 refine ixN hp ?_;conv=>whnf
 refine ixM hr ?_;have hbad:OK p0=false->lZ FO nodes.length EB OK (fun i=>oth.contains (i:Int)) (fun i=>(i:Int)==node) M (fun s' i q=>s'∈(M.map (·.1)).take k\/(s'=⟨tn,tp⟩/\∃j,j<a+1/\F[j]?=some i)):=fun hb=>hI.done fun s' i p h=>(hstep a s' i h).elim .inl fun⟨_,e⟩=>.inr fun _ _ q3 _=>by rw[e,hb] at q3;cases q3
 cases r with
 |false=>
  conv=>whnf
  refine exT ?_;conv=>whnf
  rw[hwa];exact⟨(a+1,M),[0,1,2,3],[],Sub.au,⟨h1',hk,hs,hbad hOp⟩,by show F.length-(a+1)<F.length-a;omega⟩
 |true=>
 conv=>whnf
 refine ixM hn ?_;obtain⟨kind,op,slot,thing,⟨sa,ka,wa⟩,⟨sb,kb,wb⟩,next,els,origin⟩:=n;conv=>whnf
 refine aa.au [] [] (hdr) ?_;intro _;conv=>whnf
 generalize rE ⟨kind,op,slot,thing,⟨sa,ka,wa⟩,⟨sb,kb,wb⟩,next,els,origin⟩=dr at hOp |-
 cases dr with
 |true=>
  conv=>whnf
  refine exT ?_;conv=>whnf
  rw[hwa];exact⟨(a+1,M),[0,1,2,3],[],Sub.au,⟨h1',hk,hs,hbad hOp⟩,by show F.length-(a+1)<F.length-a;omega⟩
 |false=>
 have hOp:OK p0=true:=hOp;clear hbad;conv=>whnf
 refine aq.by (fun x:Nat×List (Sp×Nat)=>match x with|(b,M)=>(⟨[(0,.ptr 0 0),(1,.tr (bh R)),(4,.tr (cD A)),(5,.sl 2 M.length),(9,.tr (ti k)),(10,.ptr 3 0),(89,.tr (a8 F)),(90,.tr (ti F.length)),(91,.tr (ti a)),(115,.sl 4 2),(116,.tr (ti 2)),(117,.tr (ti b))],[(0,trB ⟨name,locals,slots,nodes⟩ L oth node),(1,fmB M),(2,.vec 107 2 16 (M.map kA)),(3,.cells 107 [.tr (ti (tn:Nat)),.tr (tb tp)]),(4,.vec 107 2 16 [[ti (p0:Nat),tb false],[ti (p0:Nat),tb true]])],11⟩:LJ)) (fun x=>x.1<=2/\k<x.2.length/\x.2[k]?=some (⟨tn,tp⟩,tv)/\lZ FO nodes.length EB OK (fun i=>oth.contains (i:Int)) (fun i=>(i:Int)==node) x.2 (fun s' i q=>(s'∈(x.2.map (·.1)).take k\/(s'=⟨tn,tp⟩/\∃j,j<a/\F[j]?=some i))\/(s'=⟨tn,tp⟩/\i=p0/\((0<x.1/\q=false)\/(1<x.1/\q=true))))) (fun x=>2-x.1) (0,M) [0,1,2,3,_] [] (Sub.mk' rfl ⟨JY,JZ,JZ,JY,JZ,JY,JZ,JZ,JZ,JY,JZ,JZ,J0⟩ ⟨⟨rfl,JZ,JZ,JZ,JZ,JZ,JZ,JZ,rfl,J0⟩,JY,⟨rfl,rfl,rfl,rfl⟩,⟨rfl,JZ,JZ,J0⟩,⟨rfl,rfl,rfl,rfl⟩,J0⟩ rfl rfl) ⟨x5 _,hk,hs,hI.done fun s' i p h=>h.elim .inl fun⟨_,_,q⟩=>by rcases q with⟨q,_⟩|⟨q,_⟩<;>omega⟩ ?_;clear hI hMl h1 hs hk;rintro⟨b,M⟩ ⟨hb,hk,hs,hI⟩ -
 dsimp only at hb hk hs hI;have hMl:=hI.few;have hoM:(M.map kA).length=M.length:=ad ..;conv=>whnf
 cases h1:decide ((b:Int)<2) with
 |false=>
  have hb2:b=2:=by have:=ud h1;omega
  conv=>whnf
  refine exT ?_;conv=>whnf
  rw[hwa];exact⟨(a+1,M),[0,1,2,3],[],Sub.au,⟨h1',hk,hs,hI.done fun s' i q h=>(hstep (M':=M) a s' i h).elim (fun z=>.inl (.inl z)) fun⟨e1,e2⟩=>.inl (.inr ⟨e1,e2,by cases q;exact .inl ⟨JQ,rfl⟩;exact .inr ⟨JQ,rfl⟩⟩)⟩,by show F.length-(a+1)<F.length-a;omega⟩
 |true=>
 have hb2:b=0\/b=1:=by have:=of_decide_eq_true h1;omega
 have hwb:IntKind.i64.wrap ((b:Int)+1)=((b+1:Nat):Int):=by rw[w64 JQ JQ];omega
 have hgt:getF M ⟨tn,tp⟩=some tv:=tO M hI.nd k _ _ hs;have hval:tv<M.length:=hI.val _ (i3 hs);have hwv:IntKind.i64.wrap ((tv:Int)+1)=((tv+1:Nat):Int):=by rw[w64 JQ JQ];omega
 have hnx:∀(q:Bool){M':List (Sp×Nat)},(q=decide (b=1))->lZ FO nodes.length EB OK (fun i=>oth.contains (i:Int)) (fun i=>(i:Int)==node) M' (fun s' i q=>(s'∈(M'.map (·.1)).take k\/(s'=⟨tn,tp⟩/\∃j,j<a/\F[j]?=some i))\/(s'=⟨tn,tp⟩/\i=p0/\((0<b/\q=false)\/(1<b/\q=true))))->(tp=(q||((tn:Int)==node))->∃d,getF M' ⟨p0,q⟩=some d)->lZ FO nodes.length EB OK (fun i=>oth.contains (i:Int)) (fun i=>(i:Int)==node) M' (fun s' i q=>(s'∈(M'.map (·.1)).take k\/(s'=⟨tn,tp⟩/\∃j,j<a/\F[j]?=some i))\/(s'=⟨tn,tp⟩/\i=p0/\((0<b+1/\q=false)\/(1<b+1/\q=true)))):=fun q M' hq h hh=>h.done fun s' i q' hh'=>by
  rcases hh' with z|⟨e1,e2,e3⟩
  ·exact .inl (.inl z)
  ·by_cases e:q'=q
   ·refine .inr fun _ _ _ q4=>?_;rw[e1,e] at q4;rw[e2,e];exact hh q4
   ·refine .inl (.inr ⟨e1,e2,?_⟩);rcases hb2 with hb2|hb2
    ·subst hb2;rcases e3 with⟨_,e3⟩|⟨e3,_⟩
     ·exact absurd (e3.trans hq.symm) e
     ·omega
    ·subst hb2;rcases e3 with⟨_,e3⟩|⟨_,e3⟩
     ·exact .inl ⟨JQ,e3⟩
     ·exact absurd (e3.trans hq.symm) e
 rcases hb2 with rfl|rfl
 ·conv=>whnf
  refine⟨rfl,JS,JS,?_⟩;conv=>whnf
  refine⟨rfl,(by show 0<2;decide),fun row hrow=>?_⟩;cases hrow;refine⟨(by show 2<=2;decide),?_⟩;conv=>whnf
  refine drT ?_;conv=>whnf
  cases ht:(!(tp==((tn:Int)==node))) with
  |true=>
   have hne:¬ tp=(false||((tn:Int)==node)):=by intro e;rw[e] at ht;simp at ht
   conv=>whnf
   refine exT ?_;conv=>whnf
   rw[hwb];exact⟨(0+1,M),[0,1,2,3,4],[],Sub.au,⟨by show 0+1<=2;decide,hk,hs,hnx false rfl hI fun e=>absurd e hne⟩,by show 2-(0+1)<2-0;decide⟩
  |false=>
  have heq:tp=(false||((tn:Int)==node)):=by
   have:tp=((tn:Int)==node):=by simpa using ht
   rw[this];simp
  conv=>whnf
  rw[du];cases hg:getF M ⟨p0,false⟩ with
  |some d=>
   conv=>whnf
   refine drT ?_;conv=>whnf
   rw[hwb];exact⟨(0+1,M),[0,1,2,3,4],[],Sub.au,⟨by show 0+1<=2;decide,hk,hs,hnx false rfl hI fun _=>⟨d,hg⟩⟩,by show 2-(0+1)<2-0;decide⟩
  |none=>
  have hkt:∀x:Sp×Nat,((M++[x]).map (·.1)).take k=(M.map (·.1)).take k:=fun x=>by rw[FP,HU (by rw[ad];omega)]
  have hpu:=mb M p0 false (tv+1) hg;have hI2:=hI.insert hg hpN hgt hpt heq h2 hOp;conv=>whnf
  refine drT ?_;conv=>whnf
  rw[du,hgt];conv=>whnf
  rw[hwv];refine drT ?_;conv=>whnf
  refine⟨rfl,rfl,rfl,Ee hoM.symm,by show(M.length+1)*16<=150000000000000;omega,neL rfl,?_⟩;conv=>whnf
  rw[hwb];exact⟨(0+1,M++[(Sp.mk p0 false,tv+1)]),[0,1,_,3,4],[],Sub.mk' rfl ⟨JY,JZ,JZ,⟨rfl,by show M.length+1=(M++[_]).length;rw[uR];rfl⟩,JZ,JY,JZ,JZ,JZ,JY,JZ,JZ,J0⟩ ⟨⟨rfl,JZ,JZ,JZ,JZ,JZ,JZ,JZ,rfl,J0⟩,⟨rfl,hpu⟩,⟨rfl,rfl,rfl,jq M (Sp.mk p0 false,tv+1)⟩,⟨rfl,JZ,JZ,J0⟩,⟨rfl,rfl,rfl,rfl⟩,J0⟩ rfl rfl,⟨by show 0+1<=2;decide,by show k<(M++[_]).length;rw[uR];omega,by show(M++[_])[k]?=_;rw[v9 hk];exact hs,hnx false rfl (hI2.done fun s' i q h=>.inl (by rw[hkt] at h;exact h)) fun _=>⟨_,lB hg⟩⟩,by show 2-(0+1)<2-0;decide⟩
 ·conv=>whnf
  refine⟨rfl,JS,JS,?_⟩;conv=>whnf
  refine⟨rfl,(by show 1<2;decide),fun row hrow=>?_⟩;cases hrow;refine⟨(by show 2<=2;decide),?_⟩;conv=>whnf
  refine drT ?_;conv=>whnf
  cases ht:(!(tp==true)) with
  |true=>
   have hne:¬ tp=(true||((tn:Int)==node)):=by intro e;rw[e] at ht;simp at ht
   conv=>whnf
   refine exT ?_;conv=>whnf
   rw[hwb];exact⟨(1+1,M),[0,1,2,3,4],[],Sub.au,⟨by show 1+1<=2;decide,hk,hs,hnx true rfl hI fun e=>absurd e hne⟩,by show 2-(1+1)<2-1;decide⟩
  |false=>
  have heq:tp=(true||((tn:Int)==node)):=by
   have:tp=true:=by simpa using ht
   rw[this];simp
  conv=>whnf
  rw[du];cases hg:getF M ⟨p0,true⟩ with
  |some d=>
   conv=>whnf
   refine drT ?_;conv=>whnf
   rw[hwb];exact⟨(1+1,M),[0,1,2,3,4],[],Sub.au,⟨by show 1+1<=2;decide,hk,hs,hnx true rfl hI fun _=>⟨d,hg⟩⟩,by show 2-(1+1)<2-1;decide⟩
  |none=>
  have hkt:∀x:Sp×Nat,((M++[x]).map (·.1)).take k=(M.map (·.1)).take k:=fun x=>by rw[FP,HU (by rw[ad];omega)]
  have hpu:=mb M p0 true (tv+1) hg;have hI2:=hI.insert hg hpN hgt hpt heq h2 hOp;conv=>whnf
  refine drT ?_;conv=>whnf
  rw[du,hgt];conv=>whnf
  rw[hwv];refine drT ?_;conv=>whnf
  refine⟨rfl,rfl,rfl,Ee hoM.symm,by show(M.length+1)*16<=150000000000000;omega,neL rfl,?_⟩;conv=>whnf
  rw[hwb];exact⟨(1+1,M++[(Sp.mk p0 true,tv+1)]),[0,1,_,3,4],[],Sub.mk' rfl ⟨JY,JZ,JZ,⟨rfl,by show M.length+1=(M++[_]).length;rw[uR];rfl⟩,JZ,JY,JZ,JZ,JZ,JY,JZ,JZ,J0⟩ ⟨⟨rfl,JZ,JZ,JZ,JZ,JZ,JZ,JZ,rfl,J0⟩,⟨rfl,hpu⟩,⟨rfl,rfl,rfl,jq M (Sp.mk p0 true,tv+1)⟩,⟨rfl,JZ,JZ,J0⟩,⟨rfl,rfl,rfl,rfl⟩,J0⟩ rfl rfl,⟨by show 1+1<=2;decide,by show k<(M++[_]).length;rw[uR];omega,by show(M++[_])[k]?=_;rw[v9 hk];exact hs,hnx true rfl (hI2.done fun s' i q h=>.inl (by rw[hkt] at h;exact h)) fun _=>⟨_,lB hg⟩⟩,by show 2-(1+1)<2-1;decide⟩
end Go.Proofs.YtapmdfcmpglieaaGreatDoor.am
set_option maxRecDepth 100000
set_option maxHeartbeats 4000000
namespace Go.Proofs.YtapmdfcmpglieaaGreatDoor.am
open Go Go.Proofs Go.RowKit
attribute [local irreducible] aj
structure NxI(fol:Nat->List Nat)(oth isN:Nat->Bool)(M:List (Sp×Nat))(a:Sp)(d:Nat)(s:Sp):Prop where
 mem:s.n∈fol a.n
 flag:s.p=(a.p||isN s.n)
 far:getF M s=some d
 free:oth s.n=false
theorem Ds{g:Gr}(hW:Whole g){x:Nat}{n:Nd}(hn:g.nodes[x]?=some n)(hk:(n.kind==9)=false):∃a:Nat,n.next=a/\((n.kind==8)=false->∀y,y∈fol g x<->y=a)/\((n.kind==8)=true->∃b:Nat,n.els=b/\∀y,y∈fol g x<->y=a\/y=b):=by
 have hf:=hW.fol x n hn;have h0:∀y∈folI n,∃z:Nat,y=z:=fun y hy=>by rw[hf] at hy;obtain⟨z,_,rfl⟩:=GM.1 hy;exact⟨z,rfl⟩
 have hm:∀y:Nat,y∈fol g x<->(y:Int)∈folI n:=fun y=>by
  rw[hf,GM];constructor;·intro h;exact⟨y,h,rfl⟩
  ·rintro⟨z,hz,e⟩;rw[(JQ:y=z)];exact hz
 have hD:∀y,y∈folI n<->y∈folD n:=fun y=>(lw n y).symm;have hnx:n.next∈folI n:=by rw[hD];unfold folD;rw[hk,lh];cases (n.kind==8)<;>simp
 obtain⟨a,ha⟩:=h0 _ hnx;refine⟨a,ha,fun h8 y=>?_,fun h8=>?_⟩;·rw[hm,hD];unfold folD;rw[hk,lh,h8,lh,xB,ha];omega
 ·have hel:n.els∈folI n:=by
   rw[hD];unfold folD;rw[hk,lh,h8,r7];simp
  obtain⟨b,hb⟩:=h0 _ hel;refine⟨b,hb,fun y=>?_⟩;rw[hm,hD];unfold folD;rw[hk,lh,h8,r7,ha,hb];simp only[F5,Hr,Is];omega
theorem CK(g:Gr)(L:List Cls)(oth:List Int)(node:Int)(M:List (Sp×Nat))(a:Sp)(d:Nat)(hwb:cm g=true)(hol:oth.length<=8192)(han:a.n<g.nodes.length)(hfa:getF M a=some (d+1))(hd:d<=100000)(hex:∃s,NxI (fol g) (fun i=>oth.contains (i:Int)) (fun i=>(i:Int)==node) M a d s):
  KE 33 [.ptr 0 0,.agg [.tr (ti (a.n:Nat)),.tr (tb a.p)]] [trB g L oth node,fmB M] (fun r b=>∃s:Sp,NxI (fol g) (fun i=>oth.contains (i:Int)) (fun i=>(i:Int)==node) M a d s/\r=.ret (.agg [.tr (ti (s.n:Nat)),.tr (tb s.p)])/\b=[some (trB g L oth node),some (fmB M)]):=by
 have hW:=aT hwb;have hmo:=hW.most;have hcon:=fun x=>gY oth x hol;obtain⟨n,hn⟩:∃n,g.nodes[a.n]?=some n:=⟨_,ab han⟩;have hk9:(n.kind==9)=false:=by
  obtain⟨s,hs⟩:=hex;cases h9:(n.kind==9) with
  |false=>rfl
  |true=>
   have h1:s.n∈fol g a.n:=hs.mem;unfold fol at h1;rw[hn] at h1;have h1:s.n∈(folI n).map Int.toNat:=h1;unfold folI at h1;rw[h9] at h1;cases h1
 have hto:=Ds hW hn hk9;obtain⟨an,ap⟩:=a;dsimp only at han hn hto;have hwd:IntKind.i64.wrap (((d+1:Nat):Int)-1)=(d:Int):=by rw[w64 JQ JQ];omega
 generalize fol g=FO at *
 obtain⟨name,locals,slots,nodes⟩:=g;dsimp only at han hn hmo;have hoN:(nodes.map Nd.cells).length=nodes.length:=ad ..;obtain⟨kind,op,slot,thing,⟨sa,ka,wa⟩,⟨sb,kb,wb⟩,next,els,origin⟩:=n;dsimp only at hto;obtain⟨x1,rfl,h8f,h8t⟩:=hto;refine cp.new [6,10] hT hmix Tryz.func33 rfl (fun _ _=>JR) rfl fun hok=>?_;clear hok;conv=>whnf
 refine ixM hn ?_;conv=>whnf
 refine drT ?_;conv=>whnf
 refine bD.by (fun T:List Nat=>⟨[(0,.ptr 0 0),(3,.ptr 2 0),(4,.ptr 3 0),(5,.ptr 4 0),(7,.sl 5 T.length)],[(0,trB ⟨name,locals,slots,nodes⟩ L oth node),(1,fmB M),(2,.cells 107 [.tr (ti (an:Nat)),.tr (tb ap)]),(3,.cells 107 [.tr (ti 0),.tr (tb false)]),(4,.cells 107 [.tr (ti (-1)),.tr (tb false)]),(5,bX T)],11⟩) (fun T=>(∀y,y∈T<->y∈FO an)/\T.length<=2) ?_ ?_
 ·conv=>whnf
  cases h8:(kind==8) with
  |false=>
   conv=>whnf
   exact⟨[x1],[0,1,_,_,_,_],[],Sub.aw,fun y=>by rw[h8f h8 y];simp,by show 1<=2;decide⟩
  |true=>
   obtain⟨x2,rfl,h8e⟩:=h8t h8;conv=>whnf
   refine⟨rfl,rfl,rfl,t9 _,by show(1+1)*8<=150000000000000;decide,neL rfl,?_⟩;conv=>whnf
   exact⟨[x1,x2],[0,1,_,_,_,_],[],Sub.aw,fun y=>by rw[h8e y];simp,by show 2<=2;decide⟩
 rintro T ⟨hT1,hT2⟩ -
 clear h8f h8t hn;have hoT:(T.map eo).length=T.length:=ad ..;conv=>whnf
 refine aq.by (fun x:Nat×Int×Bool=>⟨[(0,.ptr 0 0),(3,.ptr 2 0),(4,.ptr 3 0),(5,.ptr 4 0),(34,.sl 5 T.length),(35,.tr (ti T.length)),(36,.tr (ti x.1))],[(0,trB ⟨name,locals,slots,nodes⟩ L oth node),(1,fmB M),(2,.cells 107 [.tr (ti (an:Nat)),.tr (tb ap)]),(3,.cells 107 [.tr (ti 0),.tr (tb false)]),(4,.cells 107 [.tr (ti x.2.1),.tr (tb x.2.2)]),(5,bX T)],11⟩) (fun x=>x.1<=T.length/\((x.2.1=-1/\∀(j y:Nat) q,j<x.1->T[j]?=some y->¬ NxI FO (fun i=>oth.contains (i:Int)) (fun i=>(i:Int)==node) M ⟨an,ap⟩ d ⟨y,q⟩)\/∃m:Nat,x.2.1=m/\NxI FO (fun i=>oth.contains (i:Int)) (fun i=>(i:Int)==node) M ⟨an,ap⟩ d ⟨m,x.2.2⟩)) (fun x=>T.length-x.1) (0,-1,false) [0,1,2,3,4,5] [] (Sub.au) ⟨x5 _,.inl ⟨rfl,fun j y q hj=>absurd hj (Hl j)⟩⟩ ?_;rintro⟨i,bn,bp⟩ ⟨hi,hB⟩ -
 dsimp only at hi hB;conv=>whnf
 cases h1:decide ((i:Int)<(T.length:Int)) with
 |false=>
  have h1':T.length<=i:=by have:=ud h1;omega
  obtain⟨m,rfl,hg⟩:∃m:Nat,bn=m/\NxI FO (fun i=>oth.contains (i:Int)) (fun i=>(i:Int)==node) M ⟨an,ap⟩ d ⟨m,bp⟩:=by
   rcases hB with⟨_,h⟩|h
   ·obtain⟨⟨sn,sq⟩,hs⟩:=hex;obtain⟨j,hj,e⟩:=Gy.1 ((hT1 sn).2 hs.mem);exact absurd hs (h j sn sq JQ (by rw[ab hj,e]))
   ·exact h
  conv=>whnf
  refine exT ?_;conv=>whnf
  exact⟨_,_,⟨⟨m,bp⟩,hg,rfl,rfl⟩,[0,1],rfl,rfl,aut⟩
 |true=>
 have h1':i<T.length:=by have:=of_decide_eq_true h1;omega
 have hwi:IntKind.i64.wrap ((i:Int)+1)=((i+1:Nat):Int):=by rw[w64 JQ JQ];omega
 obtain⟨y,hy⟩:∃y,T[i]?=some y:=⟨_,ab h1'⟩;have hyF:y∈FO an:=(hT1 y).1 (i3 hy);have hkc:=hcon (y:Int);conv=>whnf
 refine⟨rfl,(JQ:(0:Int)<=(i:Int)),(JQ:(i:Int)<(T.length:Int)),?_⟩;conv=>whnf
 refine ixV hy ?_;refine⟨(JS:0<1),fun t ht=>?_⟩;cases ht;conv=>whnf
 refine bD.by (fun q:Bool=>⟨[(0,.ptr 0 0),(3,.ptr 2 0),(4,.ptr 3 0),(5,.ptr 4 0),(9,.tr (ti (y:Nat))),(10,.ptr 6 0),(34,.sl 5 T.length),(35,.tr (ti T.length)),(36,.tr (ti i))],[(0,trB ⟨name,locals,slots,nodes⟩ L oth node),(1,fmB M),(2,.cells 107 [.tr (ti (an:Nat)),.tr (tb ap)]),(3,.cells 107 [.tr (ti 0),.tr (tb false)]),(4,.cells 107 [.tr (ti bn),.tr (tb bp)]),(5,bX T),(6,.cells 107 [.tr (ti (y:Nat)),.tr (tb q)])],11⟩) (fun q=>q=(ap||((y:Int)==node))) ?_ ?_
 ·conv=>whnf
  cases ap with
  |true=>
   conv=>whnf
   exact⟨true,[0,1,2,3,4,5,_],[],Sub.aw,rfl⟩
  |false=>
   conv=>whnf
   exact⟨((y:Int)==node),[0,1,2,3,4,5,_],[],Sub.aw,rfl⟩
 rintro q hq -
 conv=>whnf
 rw[du];cases hg:getF M ⟨y,q⟩ with
 |none=>
  have hno:∀q',¬ NxI FO (fun i=>oth.contains (i:Int)) (fun i=>(i:Int)==node) M ⟨an,ap⟩ d ⟨y,q'⟩:=fun q' h=>by
   have e:q'=q:=by rw[hq];exact h.flag
   have hf:=h.far;rw[e] at hf;rw[hg] at hf;cases hf
  conv=>whnf
  refine drT ?_;conv=>whnf
  refine drT ?_;conv=>whnf
  rw[hwi];exact⟨(i+1,bn,bp),[0,1,2,3,4,5],[],Sub.au,⟨h1',hB.imp (fun h=>⟨h.1,fun j z q' hj hz=>by
   by_cases e:j=i;·subst e;rw[hy] at hz;cases hz;exact hno q'
   ·exact h.2 j z q' JQ hz⟩) id⟩,by show T.length-(i+1)<T.length-i;omega⟩
 |some v=>
 conv=>whnf
 refine drT ?_;conv=>whnf
 rw[du,hfa];conv=>whnf
 rw[hwd];cases h2:((v:Int)==(d:Int)) with
 |false=>
  have hno:∀q',¬ NxI FO (fun i=>oth.contains (i:Int)) (fun i=>(i:Int)==node) M ⟨an,ap⟩ d ⟨y,q'⟩:=fun q' h=>by
   have e:q'=q:=by rw[hq];exact h.flag
   have hf:=h.far;rw[e] at hf;rw[hg] at hf;cases hf;simp at h2
  conv=>whnf
  refine drT ?_;conv=>whnf
  rw[hwi];exact⟨(i+1,bn,bp),[0,1,2,3,4,5],[],Sub.au,⟨h1',hB.imp (fun h=>⟨h.1,fun j z q' hj hz=>by
   by_cases e:j=i;·subst e;rw[hy] at hz;cases hz;exact hno q'
   ·exact h.2 j z q' JQ hz⟩) id⟩,by show T.length-(i+1)<T.length-i;omega⟩
 |true=>
 have hvd:v=d:=by have h2:(v:Int)=d:=eq_of_beq h2;omega
 subst hvd;conv=>whnf
 refine aa.pure _ (hkc) rfl rfl ?_;conv=>whnf
 cases h3:oth.contains (y:Int) with
 |true=>
  have hno:∀q',¬ NxI FO (fun i=>oth.contains (i:Int)) (fun i=>(i:Int)==node) M ⟨an,ap⟩ v ⟨y,q'⟩:=fun q' h=>by have:=h.free;rw[h3] at this;cases this
  conv=>whnf
  refine drT ?_;conv=>whnf
  rw[hwi];exact⟨(i+1,bn,bp),[0,1,2,3,4,5],[],Sub.au,⟨h1',hB.imp (fun h=>⟨h.1,fun j z q' hj hz=>by
   by_cases e:j=i;·subst e;rw[hy] at hz;cases hz;exact hno q'
   ·exact h.2 j z q' JQ hz⟩) id⟩,by show T.length-(i+1)<T.length-i;omega⟩
 |false=>
 have hgood:NxI FO (fun i=>oth.contains (i:Int)) (fun i=>(i:Int)==node) M ⟨an,ap⟩ v ⟨y,q⟩:=⟨hyF,hq,hg,h3⟩;conv=>whnf
 cases h4:decide (bn<0) with
 |true=>
  conv=>whnf
  refine drT ?_;conv=>whnf
  rw[hwi];exact⟨(i+1,(y:Int),q),[0,1,2,3,4,5],[],Sub.au,⟨h1',.inr ⟨y,rfl,hgood⟩⟩,by show T.length-(i+1)<T.length-i;omega⟩
 |false=>
 have hB2:∃m:Nat,bn=m/\NxI FO (fun i=>oth.contains (i:Int)) (fun i=>(i:Int)==node) M ⟨an,ap⟩ v ⟨m,bp⟩:=by
  rcases hB with⟨h,_⟩|h
  ·have:=ud h4;omega
  ·exact h
 conv=>whnf
 cases h5:decide ((y:Int)<bn) with
 |true=>
  conv=>whnf
  refine drT ?_;conv=>whnf
  rw[hwi];exact⟨(i+1,(y:Int),q),[0,1,2,3,4,5],[],Sub.au,⟨h1',.inr ⟨y,rfl,hgood⟩⟩,by show T.length-(i+1)<T.length-i;omega⟩
 |false=>
  conv=>whnf
  refine drT ?_;conv=>whnf
  rw[hwi];exact⟨(i+1,bn,bp),[0,1,2,3,4,5],[],Sub.au,⟨h1',.inr hB2⟩,by show T.length-(i+1)<T.length-i;omega⟩
end Go.Proofs.YtapmdfcmpglieaaGreatDoor.am
set_option maxRecDepth 100000
set_option maxHeartbeats 4000000
namespace Go.Proofs.YtapmdfcmpglieaaGreatDoor.am
open Go Go.Proofs Go.RowKit
attribute [local irreducible] aj
theorem yz(u:Un)(hu:xX u)(t:Nat)(g:Gr)(hg:u.graphs[t]?=some g)(l:List Int)(hs:Srt g.nodes.length l)(n:Int)(hn:l.contains n=true):K 28 [u.av,.tr (ti t),.tr (az l),.tr (ti n)] [] (.ret (.tr (ti 0))) []:=by
 have hc:=jZ u;rw[hu.lk.chk] at hc;have hgl:=hu.lk.few;have hm:=i3 hg;have hW:=aT (hu.lk.whole g hm);have htl:t<u.graphs.length:=(a9.1 hg).1;have hfr:=zW g l hW.most hs;have hf:=hs.few;have hmo:=hW.most;have hkc:=gY l n JQ;rw[hn] at hkc;obtain⟨shared,lks,graphs⟩:=u;obtain⟨name,locals,slots,nodes⟩:=g;dsimp only at hg hgl htl;have hoG:(graphs.map Gr.cells).length=graphs.length:=ad ..;refine Ctr.of hT hmix Tryz.func28 rfl (fun _ _=>JR) rfl fun hok=>?_;clear hok;conv=>whnf
 refine aa.au [] [] (hc) ?_;intro _;conv=>whnf
 rw[show decide ((t:Int)<0)=false from Gz JQ];conv=>whnf
 rw[show decide ((t:Int)>=((graphs.map Gr.cells).length:Int))=false from Gz (by rw[hoG];omega)];conv=>whnf
 refine ixM hg ?_;conv=>whnf
 refine aa.au [] [] (hfr) ?_;intro _;conv=>whnf
 refine aa.au [] [] (hkc) ?_;intro _;conv=>whnf
 exact aut
structure EM(fol:Nat->List Nat)(ok oth isN:Nat->Bool)(st:Nat)(W:List Nat)(a:Sp):Prop where
 head:W[0]?=some st
 last:W[W.length-1]?=some a.n
 step:∀(i:Nat) x y,W[i]?=some x->W[i+1]?=some y->y∈fol x/\oth y=false/\ok x=true
 flag:a.p=true->∃i y:Nat,W[i+1]?=some y/\isN y=true
theorem EM.more{fol:Nat->List Nat}{ok oth isN:Nat->Bool}{st:Nat}{W:List Nat}{a s:Sp}(h:EM fol ok oth isN st W a)(h1:s.n∈fol a.n)(h2:s.p=(a.p||isN s.n))(h3:oth s.n=false)(h4:ok a.n=true):EM fol ok oth isN st (W++[s.n]) s:=by
 have hp:0<W.length:=(a9.1 h.head).1;refine⟨by rw[v9 hp];exact h.head,JX,fun i x y hx hy=>?_,fun hf=>?_⟩
 ·rcases HD (i+1) W.length with q|q
  ·rw[v9 JQ] at hx;rw[v9 q] at hy;exact h.step i x y hx hy
  ·have hl:i+1<(W++[s.n]).length:=(a9.1 hy).1;rw[uR] at hl;have e:i=W.length-1:=by simp only[E0,H3] at hl;omega
   rw[v9 JQ,e,h.last] at hx;cases hx;rw[wS q,(JQ:i+1-W.length=0)] at hy;cases hy;exact⟨h1,h3,h4⟩
 ·rw[h2,Ib] at hf;rcases hf with hf|hf
  ·obtain⟨i,y,q1,q2⟩:=h.flag hf;exact⟨i,y,by rw[v9 (a9.1 q1).1];exact q1,q2⟩
  ·exact⟨W.length-1,s.n,(by rw[show W.length-1+1=W.length from JQ];simp),hf⟩
def opnN(K:List Int)(n:Nd):Bool:=bif n.kind==6 then true else bif n.kind==3 then eO K n else false
def WayQ(u:Un)(g:Gr)(l:List Int)(node:Int)(W:List Nat):Prop:=∃st a,EM (fol g) (okN g (rchL (fol g) (-1) g.nodes.length)) (fun i=>(delI l node).contains (i:Int)) (fun i=>(i:Int)==node) st W a/\a.p=true/\xW g (bJ u) (rchL (fol g) (-1) g.nodes.length) (delI l node) a.n=true/\st<g.nodes.length/\opnN (bJ u) (g.nodes.getD st ndz)=true/\W.length<=16384
def FL(u:Un)(g:Gr)(l:List Int)(node:Int):Prop:=∀M,lZ (fol g) g.nodes.length (xW g (bJ u) (rchL (fol g) (-1) g.nodes.length) (delI l node)) (okN g (rchL (fol g) (-1) g.nodes.length)) (fun i=>(delI l node).contains (i:Int)) (fun i=>(i:Int)==node) M (fun s _ _=>s∈M.map (·.1))->∃m:Nat,m<g.nodes.length/\(∃d,getF M ⟨m,false⟩=some d)/\(rchL (fol g) (-1) g.nodes.length)[m]?=some true/\opnN (bJ u) (g.nodes.getD m ndz)=true
theorem Da(u:Un)(hu:xX u)(t:Nat)(g:Gr)(hg:u.graphs[t]?=some g)(l:List Int)(hs:Srt g.nodes.length l)(node:Int)(hn:l.contains node=true)(hfs:FL u g l node):
  KE 10 [u.av,.tr (ti t),.tr (az l),.tr (ti node)] [] (fun r b=>∃W,WayQ u g l node W/\r=.ret (.tup [.tr (a8 W),.tr (tb true),.tr (ti 0)])/\b=[]):=by
 have has:=yz u hu t g hg l hs node hn;have hcl:=jo u hu.lk hu.shr;have hm:=i3 hg;have hwb:=hu.lk.whole g hm;have hre:=jE g hwb;have hW:=aT hwb;have hgl:=hu.lk.few;have htl:t<u.graphs.length:=(a9.1 hg).1;have hf:=hs.few;have hmo:=hW.most;have hwo:=kS l node JQ;have hdl:(delI l node).length<=8192:=GB (yV l node) JQ;have hRl:(rchL (fol g) (-1) g.nodes.length).length=g.nodes.length:=dl;have hKl:=j7 u;have hth:∀n∈g.nodes,n.kind=2\/n.kind=3->0<=n.thing/\n.thing<(bJ u).length:=fun n h1 h2=>by rw[hKl];exact hu.thing g hm n h1 h2
 have hme:=fun L hL=>xz g (bJ u) L (rchL (fol g) (-1) g.nodes.length) (delI l node) node hwb hRl hL hth hdl;have hrac:=fun L M n c h0 hc=>Bi g L (delI l node) node M n c h0 hc;have hnxt:=fun L M a d h1 h2 h3 h4=>CK g L (delI l node) node M a d hwb hdl h1 h2 h3 h4;unfold FL at hfs;unfold WayQ;generalize xW g (bJ u) (rchL (fol g) (-1) g.nodes.length) (delI l node)=EB at *
 generalize okN g (rchL (fol g) (-1) g.nodes.length)=OK at *
 generalize rchL (fol g) (-1) g.nodes.length=R at *
 generalize delI l node=oth at *
 generalize bJ u=KK at *
 generalize fol g=FO at *
 clear hwb hW;obtain⟨shared,lks,graphs⟩:=u;obtain⟨name,locals,slots,nodes⟩:=g;dsimp only at hg hgl htl hf hmo hRl hth hfs hnxt hKl;have hoG:(graphs.map Gr.cells).length=graphs.length:=ad ..;have hoN:(nodes.map Nd.cells).length=nodes.length:=ad ..;have hoR:(R.map brow).length=R.length:=ad ..;refine cp.new [2000004,2000008,2000024,15,16] hT hmix Tryz.func10 rfl (fun _ _=>JR) rfl fun hok=>?_;clear hok;conv=>whnf
 refine aa.au [] [] (has) ?_;intro _;conv=>whnf
 refine af hT 1 ?_;conv=>whnf
 refine aj.by [] [] hcl ?_;rintro res bout ⟨rfl,L,hL,rfl⟩;have hme:=hme L hL;have hLl:L.length=KK.length:=by rw[<-hL,ad]
 refine⟨rfl,?_⟩;conv=>whnf
 intro _;conv=>whnf
 refine ixM hg ?_;conv=>whnf
 refine aa.pure _ (hre) rfl rfl fun _=>?_;conv=>whnf
 refine aa.pure _ (hwo) rfl rfl ?_;conv=>whnf
 refine drT ?_;conv=>whnf
 refine af hT 2 ?_;conv=>whnf
 refine aj.by [37,35] [] hme ?_;rintro res bout ⟨M,hM,rfl,rfl⟩;obtain⟨m0,hm0,hg0⟩:=hfs M hM;refine⟨rfl,?_⟩;conv=>whnf
 intro _;conv=>whnf
 refine aq.by (fun x:Nat×Int=>⟨[(15,.tr (bh R)),(16,.ptr 0 0),(17,.ptr 2 0),(60,.tr (aO nodes)),(61,.tr (ti nodes.length)),(62,.tr (ti x.1))],[(0,trB ⟨name,locals,slots,nodes⟩ L oth node),(1,fmB M),(2,.cells 107 [.tr (ti x.2),.tr (tb false)])],11⟩) (fun x=>x.1<=nodes.length/\((x.2=-1/\∀m,m<x.1->¬ ((∃d,getF M ⟨m,false⟩=some d)/\R[m]?=some true/\opnN KK (nodes.getD m ndz)=true))\/∃m:Nat,x.2=m/\m<nodes.length/\((∃d,getF M ⟨m,false⟩=some d)/\R[m]?=some true/\opnN KK (nodes.getD m ndz)=true))) (fun x=>nodes.length-x.1) (0,-1) [37,35,_] [] (Sub.mk' rfl ⟨JZ,JY,JY,JZ,.inl (by rw[hoN]),JZ,J0⟩ ⟨⟨rfl,JZ,JZ,JZ,JZ,JZ,JZ,JZ,rfl,J0⟩,JY,⟨rfl,JZ,JZ,J0⟩,J0⟩ rfl rfl) ⟨x5 _,.inl ⟨rfl,fun j hj=>absurd hj (Hl j)⟩⟩ ?_;rintro⟨i,fn⟩ ⟨hi,hB⟩ -
 dsimp only at hi hB;conv=>whnf
 cases h1:decide ((i:Int)<(nodes.length:Int)) with
 |true=>
  have h1':i<nodes.length:=by have:=of_decide_eq_true h1;omega
  have hwi:IntKind.i64.wrap ((i:Int)+1)=((i+1:Nat):Int):=by rw[w64 JQ JQ];omega
  obtain⟨r,hr⟩:∃r,R[i]?=some r:=⟨_,ab JQ⟩;obtain⟨n,hnn⟩:∃n,nodes[i]?=some n:=⟨_,ab h1'⟩;have hno0:opnN KK (nodes.getD i ndz)=opnN KK n:=by rw[t5,hnn];rfl
  have hthn:=hth n (i3 hnn);have hrn:=hrac L M n;conv=>whnf
  refine ixM hnn ?_;obtain⟨kind,op,slot,thing,⟨sa,ka,wa⟩,⟨sb,kb,wb⟩,next,els,origin⟩:=n;dsimp only at hthn;obtain⟨v,hv⟩:∃v,getF M ⟨i,false⟩=v:=⟨_,rfl⟩;conv=>whnf
  refine bD.by (fun _:Unit=>⟨[(15,.tr (bh R)),(16,.ptr 0 0),(17,.ptr 2 0),(18,.tr (ti i)),(19,.ptr 3 0),(20,.ptr 4 0),(21,.tr (ti ((v.getD 0:Nat):Int))),(22,.tr (tb v.isSome)),(60,.tr (aO nodes)),(61,.tr (ti nodes.length)),(62,.tr (ti i))],[(0,trB ⟨name,locals,slots,nodes⟩ L oth node),(1,fmB M),(2,.cells 107 [.tr (ti fn),.tr (tb false)]),(3,.cells 112 [.tr (tu kind),.tr (tu op),.tr (ti slot),.tr (ti thing),.tr (tb sa),.tr (ti ka),.tr (ti wa),.tr (tb sb),.tr (ti kb),.tr (ti wb),.tr (ti next),.tr (ti els),.tr (ti origin)]),(4,.cells 107 [.tr (ti i),.tr (tb false)])],11⟩) (fun _=>True) ?_ ?_
  ·conv=>whnf
   rw[du];rw[show getF M ⟨(i,fn).fst,false⟩=v from hv];cases v with
   |none=>
    conv=>whnf
    refine drT ?_;conv=>whnf
    exact⟨(),[0,1,2,_,_],[],Sub.aw,J0⟩
   |some d=>
    conv=>whnf
    refine drT ?_;conv=>whnf
    exact⟨(),[0,1,2,_,_],[],Sub.aw,J0⟩
  rintro - - -
  refine bD.by (fun o:Bool=>⟨[(15,.tr (bh R)),(16,.ptr 0 0),(17,.ptr 2 0),(18,.tr (ti i)),(20,.ptr 3 0),(21,.tr (ti ((v.getD 0:Nat):Int))),(22,.tr (tb v.isSome)),(23,.tr (tb o)),(60,.tr (aO nodes)),(61,.tr (ti nodes.length)),(62,.tr (ti i))],[(0,trB ⟨name,locals,slots,nodes⟩ L oth node),(1,fmB M),(2,.cells 107 [.tr (ti fn),.tr (tb false)]),(3,.cells 107 [.tr (ti i),.tr (tb false)])],11⟩) (fun o=>opnN KK (nodes.getD i ndz)=o) ?_ ?_
  ·rw[hno0];have hop:∀(kd op2 slot2 nx2 el2 or2:Int)(va vb:Val),opnN KK ⟨kd,op2,slot2,thing,va,vb,nx2,el2,or2⟩=(bif kd==6 then true else bif kd==3 then eO KK ⟨kd,op2,slot2,thing,va,vb,nx2,el2,or2⟩ else false):=fun _ _ _ _ _ _ _ _=>rfl;conv=>whnf
   cases h6:(kind==6) with
   |true=>
    conv=>whnf
    exact⟨true,[0,1,2,4],[],Sub.au,by rw[hop,h6];rfl⟩
   |false=>
   conv=>whnf
   cases h3:(kind==3) with
   |false=>
    conv=>whnf
    exact⟨false,[0,1,2,4],[],Sub.au,by rw[hop,h6,h3];rfl⟩
   |true=>
   have hk3:kind=3:=eq_of_beq h3;obtain⟨q1,q2⟩:=hthn (.inr hk3);obtain⟨c,hc⟩:∃c,L[thing.toNat]?=some c:=⟨_,ab JQ⟩;have hrk:∀(kd op2 slot2 nx2 el2 or2:Int)(va vb:Val),eO KK ⟨kd,op2,slot2,thing,va,vb,nx2,el2,or2⟩=(c.k==3):=fun kd op2 slot2 nx2 el2 or2 va vb=>by unfold eO;dsimp only;rw[<-hL,t5,z5,hc];rfl
   have hrn:=hrn c q1 hc;conv=>whnf
   refine aa.au [0,1] [] (hrn) ?_;intro _;conv=>whnf
   exact⟨(c.k==3),[0,1,2,4],[],Sub.au,by rw[hop,h6,h3,hrk];rfl⟩
  rintro o ho -
  conv=>whnf
  cases v with
  |none=>
   have hno:¬ ((∃d,getF M ⟨i,false⟩=some d)/\R[i]?=some true/\opnN KK (nodes.getD i ndz)=true):=fun h=>by obtain⟨⟨d,hd⟩,_⟩:=h;rw[hv] at hd;cases hd
   conv=>whnf
   refine drT ?_;conv=>whnf
   rw[hwi];exact⟨(i+1,fn),[0,1,2],[],Sub.au,⟨h1',hB.imp (fun h=>⟨h.1,fun j hj=>by
   by_cases e:j=i;·subst e;exact hno
   ·exact h.2 j JQ⟩) id⟩,by show nodes.length-(i+1)<nodes.length-i;omega⟩
  |some d=>
  conv=>whnf
  refine ixM hr ?_;cases r with
  |false=>
   have hno:¬ ((∃d,getF M ⟨i,false⟩=some d)/\R[i]?=some true/\opnN KK (nodes.getD i ndz)=true):=fun h=>by obtain⟨_,h2,_⟩:=h;rw[hr] at h2;cases h2
   conv=>whnf
   refine drT ?_;conv=>whnf
   rw[hwi];exact⟨(i+1,fn),[0,1,2],[],Sub.au,⟨h1',hB.imp (fun h=>⟨h.1,fun j hj=>by
   by_cases e:j=i;·subst e;exact hno
   ·exact h.2 j JQ⟩) id⟩,by show nodes.length-(i+1)<nodes.length-i;omega⟩
  |true=>
  cases o with
  |false=>
   have hno:¬ ((∃d,getF M ⟨i,false⟩=some d)/\R[i]?=some true/\opnN KK (nodes.getD i ndz)=true):=fun h=>by obtain⟨_,_,h3⟩:=h;rw[ho] at h3;cases h3
   conv=>whnf
   refine drT ?_;conv=>whnf
   rw[hwi];exact⟨(i+1,fn),[0,1,2],[],Sub.au,⟨h1',hB.imp (fun h=>⟨h.1,fun j hj=>by
   by_cases e:j=i;·subst e;exact hno
   ·exact h.2 j JQ⟩) id⟩,by show nodes.length-(i+1)<nodes.length-i;omega⟩
  |true=>
  have hgd:((∃d,getF M ⟨i,false⟩=some d)/\R[i]?=some true/\opnN KK (nodes.getD i ndz)=true):=⟨⟨d,hv⟩,hr,ho⟩;conv=>whnf
  cases h4:decide (fn<0) with
  |true=>
   conv=>whnf
   refine drT ?_;conv=>whnf
   rw[hwi];exact⟨(i+1,(i:Int)),[0,1,2],[],Sub.au,⟨h1',.inr ⟨i,rfl,h1',hgd⟩⟩,by show nodes.length-(i+1)<nodes.length-i;omega⟩
  |false=>
  obtain⟨m,rfl,hmN,hgm⟩:∃m:Nat,fn=m/\m<nodes.length/\((∃d,getF M ⟨m,false⟩=some d)/\R[m]?=some true/\opnN KK (nodes.getD m ndz)=true):=by
   rcases hB with⟨h,_⟩|h
   ·have:=ud h4;omega
   ·exact h
  obtain⟨⟨dm,hdm⟩,_⟩:=hgm;conv=>whnf
  rw[du,hdm];conv=>whnf
  cases h5:decide ((((some d:Option Nat).getD 0:Nat):Int)<((dm:Nat):Int)) with
  |true=>
   conv=>whnf
   refine drT ?_;conv=>whnf
   rw[hwi];exact⟨(i+1,(i:Int)),[0,1,2],[],Sub.au,⟨h1',.inr ⟨i,rfl,h1',hgd⟩⟩,by show nodes.length-(i+1)<nodes.length-i;omega⟩
  |false=>
   conv=>whnf
   refine drT ?_;conv=>whnf
   rw[hwi];exact⟨(i+1,(m:Int)),[0,1,2],[],Sub.au,⟨h1',.inr (hB.elim (fun h=>absurd h.1 JQ) id)⟩,by show nodes.length-(i+1)<nodes.length-i;omega⟩
 |false=>
 have h1':i=nodes.length:=by have:=ud h1;omega
 obtain⟨m,rfl,hmN,⟨dm,hdm⟩,hmR,hmO⟩:∃m:Nat,fn=m/\m<nodes.length/\((∃d,getF M ⟨m,false⟩=some d)/\R[m]?=some true/\opnN KK (nodes.getD m ndz)=true):=by
  rcases hB with⟨_,h⟩|h
  ·exact absurd hg0 (h m0 JQ)
  ·exact h
 have hMl:M.length<=2*nodes.length:=hM.few;have hdv:=hM.val _ (dk hdm);have hdv:dm<M.length:=hdv;conv=>whnf
 refine exT ?_;conv=>whnf
 rw[show decide ((m:Int)<0)=false from Gz JQ];conv=>whnf
 refine aq.by (fun x:List Nat×Sp×Nat=>⟨[(16,.ptr 0 0),(24,.sl 2 x.1.length),(25,.ptr 3 0)],[(0,trB ⟨name,locals,slots,nodes⟩ L oth node),(1,fmB M),(2,bX x.1),(3,.cells 107 [.tr (ti (x.2.1.n:Nat)),.tr (tb x.2.1.p)])],11⟩) (fun x=>EM FO OK (fun i=>oth.contains (i:Int)) (fun i=>(i:Int)==node) m x.1 x.2.1/\getF M x.2.1=some x.2.2/\x.1.length+x.2.2<=M.length+1) (fun x=>x.2.2) ([m],⟨m,false⟩,dm) [0,1,_,_] [] (Sub.aw) ⟨⟨rfl,rfl,fun i x y _ h=>(by cases h),fun h=>(by cases h)⟩,hdm,by show 1+dm<=M.length+1;omega⟩ ?_;clear hB hg0 hme hcl hre hwo has hfs;rintro⟨W,⟨an,ap⟩,d⟩ ⟨hW,hd,hlen⟩ -
 dsimp only at hd hlen;have hoW:(W.map eo).length=W.length:=ad ..;have hdv2:d<M.length:=hM.val _ (dk hd);have han:an<nodes.length:=hM.rng _ (dk hd);conv=>whnf
 rw[du,hd];conv=>whnf
 refine drT ?_;conv=>whnf
 have hsn:=hM.snd ⟨an,ap⟩ d hd;cases h2:decide (((d:Nat):Int) > 0) with
 |false=>
  have h2':d=0:=by have:=ud h2;omega
  have hend:ap=true/\EB an=true:=by
   rcases hsn with⟨_,a,b⟩|⟨_,d',e,_⟩
   ·exact⟨a,b⟩
   ·omega
  conv=>whnf
  refine exT ?_;conv=>whnf
  have hnt:(W.map fun(x:Nat)=>(x:Int)).map irow=W.map eo:=by rw[Jh];rfl
  exact⟨_,_,⟨W,⟨m,⟨an,ap⟩,hW,hend.1,hend.2,hmN,hmO,JQ⟩,rfl,rfl⟩,[],rfl,rfl,⟨⟨⟨rfl,Ee hoW.symm,by show Tr.lst 1 8 ((W.map fun(x:Nat)=>(x:Int)).map irow)=_;rw[hnt,vG (Ee hoW)]⟩,JZ,JZ,J0⟩,J0⟩⟩
 |true=>
 obtain⟨s',d',rfl,hs1,hs2,hs3,hs4,hs5⟩:∃s' d',d=d'+1/\getF M s'=some d'/\s'.n∈FO an/\s'.p=(ap||((s'.n:Int)==node))/\oth.contains (s'.n:Int)=false/\OK an=true:=by
  rcases hsn with⟨e,_⟩|h
  ·have:=of_decide_eq_true h2;omega
  ·exact h
 have hk:=hnxt L M ⟨an,ap⟩ d' han hd JQ ⟨s',hs2,hs3,hs1,hs4⟩;conv=>whnf
 refine af hT 2 ?_;conv=>whnf
 refine aj.by [0,1] [] hk ?_;rintro res bout ⟨⟨sn,sq⟩,hnx,rfl,rfl⟩;have hW2:=hW.more (s:=⟨sn,sq⟩) hnx.mem hnx.flag hnx.free hs5;have hgs:=hnx.far;refine⟨rfl,?_⟩;conv=>whnf
 intro _;conv=>whnf
 refine⟨rfl,rfl,rfl,Ee hoW.symm,by show(W.length+1)*8<=150000000000000;omega,neL rfl,?_⟩;conv=>whnf
 have hda:(W.map eo).take W.length++[[ti (sn:Nat)]]=(W++[sn]).map eo:=by rw[vG (Ee hoW),FP];rfl
 exact⟨(W++[sn],⟨sn,sq⟩,d'),[0,1,_,_],[],Sub.mk' rfl ⟨JY,⟨rfl,by show W.length+1=(W++[_]).length;rw[uR];rfl⟩,JY,J0⟩ ⟨⟨rfl,JZ,JZ,JZ,JZ,JZ,JZ,JZ,rfl,J0⟩,JY,⟨rfl,rfl,rfl,hda⟩,⟨rfl,JZ,JZ,J0⟩,J0⟩ rfl rfl,⟨hW2,hgs,by show(W++[sn]).length+d'<=M.length+1;rw[uR];show W.length+1+d'<=_;omega⟩,Hh _⟩
end Go.Proofs.YtapmdfcmpglieaaGreatDoor.am
set_option maxRecDepth 100000
set_option maxHeartbeats 4000000
namespace Go.Proofs.YtapmdfcmpglieaaGreatDoor.am
open Go Go.Proofs Go.RowKit
attribute [local irreducible] aj
def oI(l:List Int):List Tr:=[az l]
abbrev mE(L:List (List Int)):Tr:=.lst 1 24 (L.map oI)
theorem EC(u:Un)(hu:xX u)(f:List (List Int))(hf:f.length=u.graphs.length)(hs:∀(t:Nat) g l,u.graphs[t]?=some g->f[t]?=some l->Srt g.nodes.length l)(hL:∀(t:Nat) g l,u.graphs[t]?=some g->f[t]?=some l->loadsS u g l=[]):K 8 [u.av,.tr (mE f)] [] (.ret (.tup [.tr (tb true),.tr (ti 0)])) []:=by
 have hc:=jZ u;rw[hu.lk.chk] at hc;have hgl:=hu.lk.few;have hr:∀(t:Nat) g l,u.graphs[t]?=some g->f[t]?=some l->K 23 [g.av,.tr (az l)] [] (.ret (.tr (tb true))) []:=fun t g l q1 q2=>qD g l (aT (hu.lk.whole g (i3 q1))).most (hs t g l q1 q2);have hl:∀(t:Nat) g l,u.graphs[t]?=some g->f[t]?=some l->K 18 [u.av,.tr (ti t),.tr (az l)] [] (.ret (.tup [.tr (az []),.tr (ti 0)])) []:=fun t g l q1 q2=>by have:=pr u hu t g q1 l (hs t g l q1 q2);rw[hL t g l q1 q2] at this;exact this
 clear hu hs hL;obtain⟨shared,lks,graphs⟩:=u;dsimp only at hgl hf hr hl;have hoG:(graphs.map Gr.cells).length=graphs.length:=ad ..;have hoF:(f.map oI).length=f.length:=ad ..;refine Ctr.of hT hmix Tryz.func8 rfl (fun _ _=>JR) rfl fun hok=>?_;clear hok;conv=>whnf
 refine aa.au [] [] (hc) ?_;intro _;conv=>whnf
 rw[show(((f.map oI).length:Int) != ((graphs.map Gr.cells).length:Int))=false by rw[hoF,hoG,hf];simp];conv=>whnf
 refine aq.by (fun j:Nat=>⟨[(1,.tr (mE f)),(2,.ptr 0 0),(30,.tr (mE f)),(31,.tr (ti f.length)),(32,.tr (ti j))],[(0,.cells 26 [.tr (ae shared),.tr (ae lks),.tr (bt graphs)])],11⟩) (fun j=>j<=f.length) (fun j=>f.length-j) 0 [_] [] (Sub.mk' rfl ⟨JZ,JY,JZ,.inl (by rw[hoF]),JZ,J0⟩ ⟨⟨rfl,JZ,JZ,JZ,J0⟩,J0⟩ rfl rfl) (x5 _) ?_;intro j hj _;conv=>whnf
 cases h1:decide ((j:Int)<(f.length:Int)) with
 |true=>
  have h1':j<f.length:=by have:=of_decide_eq_true h1;omega
  have hwj:IntKind.i64.wrap ((j:Int)+1)=((j+1:Nat):Int):=by rw[w64 JQ JQ];omega
  obtain⟨l,hl1⟩:∃l,f[j]?=some l:=⟨_,ab h1'⟩;obtain⟨g,hg1⟩:∃g,graphs[j]?=some g:=⟨_,ab JQ⟩;have hk:=hr j g l hg1 hl1;conv=>whnf
  refine ixM hl1 ?_;conv=>whnf
  refine ixM hg1 ?_;obtain⟨name,locals,slots,nodes⟩:=g;conv=>whnf
  refine aa.au [] [] (hk) ?_;intro _;conv=>whnf
  rw[hwj];exact⟨j+1,[0],[],Sub.au,h1',JQ⟩
 |false=>
 conv=>whnf
 refine exT ?_;conv=>whnf
 refine aq.by (fun j:Nat=>⟨[(2,.ptr 0 0),(46,.tr (mE f)),(47,.tr (ti f.length)),(48,.tr (ti j))],[(0,.cells 26 [.tr (ae shared),.tr (ae lks),.tr (bt graphs)])],11⟩) (fun j=>j<=f.length) (fun j=>f.length-j) 0 [_] [] (Sub.mk' rfl ⟨JY,JZ,.inl (by rw[hoF]),JZ,J0⟩ ⟨⟨rfl,JZ,JZ,JZ,J0⟩,J0⟩ rfl rfl) (x5 _) ?_;clear h1 hj;intro j hj _;conv=>whnf
 cases h1:decide ((j:Int)<(f.length:Int)) with
 |false=>
  conv=>whnf
  refine exT ?_;conv=>whnf
  exact aut
 |true=>
 have h1':j<f.length:=by have:=of_decide_eq_true h1;omega
 have hwj:IntKind.i64.wrap ((j:Int)+1)=((j+1:Nat):Int):=by rw[w64 JQ JQ];omega
 obtain⟨l,hl1⟩:∃l,f[j]?=some l:=⟨_,ab h1'⟩;obtain⟨g,hg1⟩:∃g,graphs[j]?=some g:=⟨_,ab JQ⟩;have hk:=hl j g l hg1 hl1;conv=>whnf
 refine ixM hl1 ?_;conv=>whnf
 refine aa.au [] [] (hk) ?_;intro _;conv=>whnf
 rw[hwj];exact⟨j+1,[0],[],Sub.au,h1',JQ⟩
end Go.Proofs.YtapmdfcmpglieaaGreatDoor.am
set_option maxRecDepth 100000
set_option maxHeartbeats 4000000
namespace Go.Proofs.YtapmdfcmpglieaaGreatDoor.am
open Go Go.Proofs Go.RowKit
attribute [local irreducible] aj
abbrev Cx:List Tr:=[.v (.slice none 0 0)]
theorem y4{F:List (List Int)}{c:List Int}{N:Nat}(h:F.length<N):(F.map oI++List.replicate (N-F.length) Cx).set F.length (oI c)=(F++[c]).map oI++List.replicate (N-(F++[c]).length) Cx:=by obtain⟨m,hm⟩:∃m,N-F.length=m+1:=⟨N-F.length-1,JQ⟩;rw[Ia _ _ (by rw[ad];exact t9 _),ad,Hm,hm,Ie,List.set_cons_zero,FP,uR,GH];congr 1;show oI c::_=[oI c]++_;rw[show N-(F.length+[c].length)=m by simp only[E0,H3];omega];rfl
structure PlI(u:Un)(g:Gr)(l:List Int):Prop where
 mg:MgI u g (loadsS u g []) l []
theorem C9(u:Un)(hu:xX u):KE 6 [u.av,.tr (tb true)] [] (fun r b=>∃f:List (List Int),f.length=u.graphs.length/\(∀(t:Nat) g l,u.graphs[t]?=some g->f[t]?=some l->PlI u g l)/\r=.ret (.tup [.tr (mE f),.tr (ti 0)])/\b=[]):=by
 have hc:=jZ u;rw[hu.lk.chk] at hc;have hgl:=hu.lk.few;have hlo:∀(t:Nat) g,u.graphs[t]?=some g->K 18 [u.av,.tr (ti t),.tr (az [])] [] (.ret (.tup [.tr (az (loadsS u g [])),.tr (ti 0)])) []:=fun t g h=>pr u hu t g h [] (Srt.nil _);have hmg:∀(t:Nat) g,u.graphs[t]?=some g->KE 19 [u.av,.tr (ti t),.tr (az (loadsS u g []))] [] (fun r b=>∃cur,(PlI u g cur/\cur.length<=4096)/\r=.ret (.tr (az cur))/\b=[]):=fun t g h=>by have hW:=aT (hu.lk.whole g (i3 h));refine(yy u hu t g h _ (kI hW fun _ h=>by cases h) (wF hW)).mono ?_;rintro r b ⟨cur,h1,h2,h3⟩;exact⟨cur,⟨⟨h1⟩,GB h1.srt.srt.few hW.most⟩,h2,h3⟩
 generalize PlI u=PI at *
 generalize loadsS u=LS at *
 obtain⟨shared,lks,graphs⟩:=u;dsimp only at hgl hlo hmg;have hoG:(graphs.map Gr.cells).length=graphs.length:=ad ..;refine cp.new [2000010] hT hmix Tryz.func6 rfl (fun _ _=>JR) rfl fun hok=>?_;clear hok;conv=>whnf
 refine aa.au [] [] (hc) ?_;intro _;conv=>whnf
 refine⟨HF _,Hd _,(by rw[hoG];show(graphs.length:Int)*24<=_;omega),?_⟩;conv=>whnf
 refine aq.by (fun F:List (List Int)=>⟨[(1,.tr (tb true)),(2,.ptr 0 0),(9,.sl 1 graphs.length),(28,.tr (ti graphs.length)),(29,.tr (ti F.length))],[(0,.cells 26 [.tr (ae shared),.tr (ae lks),.tr (bt graphs)]),(1,.vec 38 1 24 (F.map oI++List.replicate (graphs.length-F.length) Cx))],11⟩) (fun F=>F.length<=graphs.length/\∀(t:Nat) g l,graphs[t]?=some g->F[t]?=some l->PI g l) (fun F=>graphs.length-F.length) [] [_,_] [] (Sub.mk' rfl ⟨JZ,JY,⟨rfl,by rw[hoG];rfl⟩,.inl (by rw[hoG]),JZ,J0⟩ ⟨⟨rfl,JZ,JZ,JZ,J0⟩,⟨rfl,rfl,rfl,by show List.replicate (Int.toNat ((graphs.map Gr.cells).length:Int)) _=_;rw[GY,hoG];rfl⟩,J0⟩ rfl rfl) ⟨x5 _,fun t g l _ h=>by cases h⟩ ?_;rintro F ⟨hF,hP⟩ -
 conv=>whnf
 cases h1:decide ((F.length:Int)<(graphs.length:Int)) with
 |false=>
  have h1':F.length=graphs.length:=by have:=ud h1;omega
  conv=>whnf
  refine exT ?_;conv=>whnf
  have hoF:(F.map oI++List.replicate (graphs.length-F.length) Cx)=F.map oI:=by rw[h1',Hm];exact G7 _
  have hoF2:(F.map oI).length=graphs.length:=by rw[ad];exact h1'
  exact⟨_,_,⟨F,h1',hP,rfl,rfl⟩,[],rfl,rfl,⟨⟨⟨rfl,by rw[hoF,hoF2];exact t9 _,by rw[hoF,vG (by rw[hoF2];exact t9 _)]⟩,JZ,J0⟩,J0⟩⟩
 |true=>
 have h1':F.length<graphs.length:=by have:=of_decide_eq_true h1;omega
 have hwi:IntKind.i64.wrap ((F.length:Int)+1)=((F.length+1:Nat):Int):=by rw[w64 JQ JQ];omega
 obtain⟨g,hg⟩:∃g,graphs[F.length]?=some g:=⟨_,ab h1'⟩;have hlk:=hlo _ g hg;have hmk:=hmg _ g hg;conv=>whnf
 refine aa.au [] [] hlk ?_ (h5:=aut2);intro _;conv=>whnf
 refine af hT 3 ?_;conv=>whnf
 refine aj.by [] [] hmk ?_;rintro res bout ⟨cur,⟨hcur,hc2⟩,rfl,rfl⟩;refine⟨rfl,?_⟩;conv=>whnf
 intro _;conv=>whnf
 refine aa.au [] [] (qm cur JQ) ?_;intro _;conv=>whnf
 refine⟨rfl,(JQ:(0:Int)<=(F.length:Int)),(JQ:(F.length:Int)<(graphs.length:Int)),?_⟩;conv=>whnf
 have hrl:(F.map oI++List.replicate (graphs.length-F.length) Cx).length=graphs.length:=by simp;omega
 refine⟨rfl,rfl,(by rw[hrl];exact h1'),fun row hrow=>?_⟩;have hrow:row=Cx:=by have hrow:(F.map oI++List.replicate (graphs.length-F.length) Cx)[F.length]?=some row:=hrow;rw[wS (by rw[ad];exact t9 _),ad,Hm,G1,Gw JQ] at hrow;exact(vx hrow).symm
 subst hrow;refine⟨(JS:0+1<=1),?_⟩;conv=>whnf
 rw[hwi];have hl1:(F++[cur]).length=F.length+1:=by rw[uR];rfl
 exact⟨F++[cur],[0,1],[],Sub.mk' rfl ⟨JZ,JY,JY,JZ,.inl (by rw[hl1]),J0⟩ ⟨aut,⟨rfl,rfl,rfl,by rw[<-y4 h1'];rfl⟩,J0⟩ rfl rfl,⟨JQ,fun t g2 l h2 h3=>by
  rcases IS t F.length with q|q|q
  ·rw[v9 q] at h3;exact hP t g2 l h2 h3
  ·subst q;rw[hg] at h2;cases h2;rw[wS (t9 _),Hm] at h3;cases h3;exact hcur
  ·rw[yB JQ] at h3;cases h3⟩,JQ⟩
inductive OpF(f:Nat->List Nat)(D F isN:Nat->Bool)(S:Nat->Prop):Bool->Nat->Prop
 |st {a k:Nat}:S a->k∈f a->F k=false->OpF f D F isN S (isN k) k
 |go {q:Bool} {a k:Nat}:OpF f D F isN S q a->D a=false->k∈f a->F k=false->OpF f D F isN S (q||isN k) k
section
variable {f:Nat->List Nat} {D F isN:Nat->Bool} {S:Nat->Prop}
theorem Opn.flag{k:Nat}(h:Opn f D F S k):∃q,OpF f D F isN S q k:=by
 induction h with
 |st h1 h2 h3=>exact⟨_,.st h1 h2 h3⟩
 |go _ h1 h2 h3 ih=>obtain⟨q,hq⟩:=ih;exact⟨_,.go hq h1 h2 h3⟩
theorem OpF.off{F':Nat->Bool}(hF:∀k,F k=false->isN k=false->F' k=false){q:Bool}{k:Nat}(h:OpF f D F isN S q k):q=false->Opn f D F' S k:=by
 induction h with
 |st h1 h2 h3=>intro e;exact .st h1 h2 (hF _ h3 e)
 |go _ h1 h2 h3 ih=>
  intro e;rw[G8] at e;exact .go (ih e.1) h1 h2 (hF _ h3 e.2)
theorem OpF.back{N:Nat}{E ok:Nat->Bool}{M:List (Sp×Nat)}(hM:lZ f N E ok F isN M (fun s _ _=>s∈M.map (·.1)))(hS:∀a,S a->ok a=true)(hD:∀q a,OpF f D F isN S q a->D a=false->ok a=true){q:Bool}{k:Nat}(h:OpF f D F isN S q k):(∃d,getF M ⟨k,q⟩=some d)->∃a,S a/\∃d,getF M ⟨a,false⟩=some d:=by
 induction h with
 | @st a k h1 h2 h3=>
  rintro⟨d,hd⟩;exact⟨a,h1,hM.clos ⟨k,isN k⟩ a false (GM.2 ⟨_,dk hd,rfl⟩) h3 h2 (hS a h1) (GU _).symm⟩
 | @go q a k h0 h1 h2 h3 ih=>
  rintro⟨d,hd⟩;exact ih (hM.clos ⟨k,q||isN k⟩ a q (GM.2 ⟨_,dk hd,rfl⟩) h3 h2 (hD q a h0 h1) rfl)
theorem OpF.rch(hS:∀a,S a->Rch f (-1) a){q:Bool}{k:Nat}(h:OpF f D F isN S q k):Rch f (-1) k:=by
 induction h with
 |st h1 h2 _=>exact .step (hS _ h1) JQ h2
 |go _ _ h2 _ ih=>exact .step ih JQ h2
end
theorem xC(u:Un)(g:Gr){k:Nat}(hk:k<g.nodes.length):bmS u g k=iz (bJ u) ((rchL (fol g) (-1) g.nodes.length).getD k false) (g.nodes.getD k ndz):=by unfold bmS;rw[t5];simp only[z5,GZ hk,G5,Hs];rfl
theorem CE{K:List Int}{r:Bool}{n:Nd}(h:(iz K r n).s=true):r=true/\opnN K n=true/\rE n=false:=by
 unfold iz at h;unfold opnN rE;cases h2:(n.kind==2) with
 |true=>rw[h2] at h;cases h
 |false=>
 rw[h2,lh] at h;cases h3:(n.kind==3) with
 |true=>
  have e:n.kind=3:=eq_of_beq h3;rw[h3,r7] at h;rw[e];cases r with
  |false=>cases h
  |true=>exact⟨rfl,h,rfl⟩
 |false=>
 rw[h3,lh] at h;cases h6:(n.kind==6) with
 |true=>
  have e:n.kind=6:=eq_of_beq h6;rw[h6,r7] at h;rw[e];exact⟨h,rfl,rfl⟩
 |false=>
 rw[h6,lh] at h;cases h4:(n.kind==4||n.kind==5||n.kind==7) with
 |true=>rw[h4] at h;cases h
 |false=>rw[h4] at h;cases h
theorem Db{K:List Int}{r:Bool}{n:Nd}(h:(iz K r n).l=true):r=true/\(n.kind==2)=true/\eO K n=true:=by
 unfold iz at h;cases h2:(n.kind==2) with
 |true=>
  rw[h2,r7] at h;cases r with
  |false=>cases h
  |true=>exact⟨rfl,rfl,h⟩
 |false=>
 rw[h2,lh] at h;cases h3:(n.kind==3) with
 |true=>rw[h3] at h;cases h
 |false=>
 rw[h3,lh] at h;cases h6:(n.kind==6) with
 |true=>rw[h6] at h;cases h
 |false=>
 rw[h6,lh] at h;cases h4:(n.kind==4||n.kind==5||n.kind==7) with
 |true=>rw[h4] at h;cases h
 |false=>rw[h4] at h;cases h
theorem CT{K:List Int}{r:Bool}{n:Nd}(h:(iz K r n).d=false):rE n=false:=by
 unfold iz at h;unfold rE;cases h2:(n.kind==2) with
 |true=>have e:n.kind=2:=eq_of_beq h2;rw[e];rfl
 |false=>
 rw[h2,lh] at h;cases h3:(n.kind==3) with
 |true=>have e:n.kind=3:=eq_of_beq h3;rw[e];rfl
 |false=>
 rw[h3,lh] at h;cases h6:(n.kind==6) with
 |true=>have e:n.kind=6:=eq_of_beq h6;rw[e];rfl
 |false=>
 rw[h6,lh] at h;cases a:(n.kind==4) with
 |true=>rw[a] at h;cases h
 |false=>
 cases b:(n.kind==5) with
 |true=>rw[a,b] at h;cases h
 |false=>
 cases c:(n.kind==7) with
 |true=>rw[a,b,c] at h;cases h
 |false=>rfl
theorem Dl{u:Un}{g:Gr}(hW:Whole g){l:List Int}(h:PlI u g l){n:Int}(hn:n∈l):FL u g l n:=by
 intro M hM;have hsr:=h.mg.srt;have hr1:∀x∈l,0<=x:=fun x hx=>(hsr.rng x hx).1;have hr2:∀x∈delI l n,0<=x:=fun x hx=>hr1 x (cg.1 hx).1;have hno:=(dB hW hr1).1 h.mg.nil;have hne:loadsS u g (delI l n)≠[]:=(h.mg.kept n hn).resolve_left (fun q=>by cases q);obtain⟨k,hk⟩:∃k,LeftN u g (delI l n) k:=by refine HE fun q=>hne ((dB hW hr2).2 fun k hk=>q ⟨k,hk⟩)
 have hkN:=oR hW hk;obtain⟨q,hq⟩:=hk.1.flag (isN:=fun i=>(i:Int)==n);have hq1:q=true:=by
  cases q with
  |true=>rfl
  |false=>
   refine(hno k ⟨hq.off (fun i h1 h2=>?_) rfl,hk.2⟩).elim;have h1:(delI l n).contains (i:Int)=false:=h1;have h2:((i:Int)==n)=false:=h2;show l.contains (i:Int)=false;cases c:l.contains (i:Int) with
   |false=>rfl
   |true=>
    have hd:(i:Int)∈delI l n:=cg.2 ⟨GJ.1 c,by simpa using h2⟩;rw[GJ.2 hd] at h1;cases h1
 subst hq1;have hrN:∀(a:Nat),a<g.nodes.length->(rchL (fol g) (-1) g.nodes.length).getD a false=true->Rch (fol g) (-1) a:=fun a ha h=>by rw[t5,ab (by rw[dl];exact ha)] at h;exact(kf ha).1 (by rw[ab (by rw[dl];exact ha)];exact E8 some h)
 have hNr:∀(a:Nat),a<g.nodes.length->Rch (fol g) (-1) a->(rchL (fol g) (-1) g.nodes.length).getD a false=true:=fun a ha h=>by rw[t5,(kf ha).2 h];rfl
 have hSs:∀a,(a<g.nodes.length/\(bmS u g a).s=true)->(rchL (fol g) (-1) g.nodes.length).getD a false=true/\opnN (bJ u) (g.nodes.getD a ndz)=true/\rE (g.nodes.getD a ndz)=false:=fun a ha=>by have:=ha.2;rw[xC u g ha.1] at this;exact CE this
 have hSR:∀a,(a<g.nodes.length/\(bmS u g a).s=true)->Rch (fol g) (-1) a:=fun a ha=>hrN a ha.1 (hSs a ha).1;have hl:=hk.2;rw[xC u g hkN] at hl;obtain⟨e1,e2,e3⟩:=Db hl;have hend:xW g (bJ u) (rchL (fol g) (-1) g.nodes.length) (delI l n) k=true:=by unfold xW;rw[e1,e2,e3,od hk];rfl
 obtain⟨a,ha,hda⟩:=hq.back hM (fun a ha=>by
  unfold okN;rw[(hSs a ha).1,(hSs a ha).2.2];rfl) (fun q a hqa hD=>by
  have haN:a<g.nodes.length:=by
   cases hqa with
   |st _ h2 _=>exact hW.lt _ _ h2
   |go _ _ h2 _=>exact hW.lt _ _ h2
  have hD:(bmS u g a).d=false:=hD;rw[xC u g haN] at hD;unfold okN;rw[hNr a haN (hqa.rch hSR),CT hD];rfl) (hM.ends k hkN hend)
 refine⟨a,ha.1,hda,?_,(hSs a ha).2.1⟩;exact(kf ha.1).2 (hSR a ha)
end Go.Proofs.YtapmdfcmpglieaaGreatDoor.am
set_option maxRecDepth 100000
set_option maxHeartbeats 4000000
namespace Go.Proofs.YtapmdfcmpglieaaGreatDoor.am
open Go Go.Proofs Go.RowKit
attribute [local irreducible] aj
structure FY(ns:List Nd)(K:List Int)(l:List Int)(fence:Int)(W:List Nat):Prop where
 two:2<=W.length
 few:W.length<=16384
 lt:∀x∈W,x<ns.length
 fst:∀x n,W[0]?=some x->ns[x]?=some n->opnN K n=true
 lst:∀x n,W[W.length-1]?=some x->ns[x]?=some n->(n.kind==2)=true/\eO K n=true
 step:∀(i:Nat) x y a b,W[i]?=some x->W[i+1]?=some y->ns[x]?=some a->ns[y]?=some b->(a.next=y\/(a.kind=8/\a.els=y))/\(i+1<W.length-1->rE b=false)/\∀k∈l,k≠fence->k≠(y:Int)
 hit:∃i y:Nat,W[i+1]?=some y/\(y:Int)=fence
theorem wU{u:Un}{g:Gr}(hW:Whole g){l:List Int}{node:Int}{W:List Nat}(h:WayQ u g l node W):FY g.nodes (bJ u) l node W:=by
 obtain⟨st,⟨an,ap⟩,hI,hf,he,hs,ho,hl⟩:=h;have hf:ap=true:=hf;obtain⟨i0,y0,hy0,hn0⟩:=hI.flag hf;have h2:2<=W.length:=by have:=(a9.1 hy0).1;omega
 have hlt:∀(i:Nat) x,W[i]?=some x->x<g.nodes.length:=fun i x hx=>by
  cases i with
  |zero=>rw[hI.head] at hx;cases hx;exact hs
  |succ i=>
   have hi:=(a9.1 hx).1;obtain⟨z,hz⟩:∃z,W[i]?=some z:=⟨_,ab JQ⟩;exact hW.lt _ _ (hI.step i z x hz hx).1
 refine⟨h2,hl,fun x hx=>?_,fun x n hx hn=>?_,fun x n hx hn=>?_,fun i x y a b hx hy ha hb=>?_,⟨i0,y0,hy0,by simpa using hn0⟩⟩
 ·obtain⟨i,hi,e⟩:=Gy.1 hx;exact hlt i x (by rw[ab hi,e])
 ·rw[hI.head] at hx;cases hx
  rwa [t5,hn] at ho
 ·rw[hI.last] at hx;cases hx;unfold xW at he;simp only[t4] at he;have hn:g.nodes[an]?=some n:=hn;have e:g.nodes.getD an ndz=n:=by rw[t5,hn];rfl
  rw[e] at he;exact⟨he.2.1,he.2.2.1⟩
 ·obtain⟨q1,q2,q3⟩:=hI.step i x y hx hy;refine⟨?_,fun hi=>?_,fun k hk hne e=>?_⟩
  ·have q1:y∈dfl g x:=(jX g x y).2 q1;have hD:=AW hW ha;have hm:(y:Int)∈folD a:=by rw[hD];exact GM.2 ⟨y,q1,rfl⟩
   unfold folD at hm;cases h9:(a.kind==9) with
   |true=>rw[h9] at hm;cases hm
   |false=>
    rw[h9,lh] at hm;cases h8:(a.kind==8) with
    |true=>
     rw[h8,r7] at hm;rcases F5.1 hm with e|hm
     ·exact .inl e.symm
     ·exact .inr ⟨eq_of_beq h8,(xB.1 hm).symm⟩
    |false=>
     rw[h8,lh] at hm;exact .inl (xB.1 hm).symm
  ·obtain⟨z,hz⟩:∃z,W[i+1+1]?=some z:=⟨_,ab JQ⟩;have:=(hI.step (i+1) y z hy hz).2.2;unfold okN at this;rw[t5 (l:=g.nodes),hb] at this;simp only[t4,Ha] at this;exact this.2
  ·have:(delI l node).contains (y:Int)=true:=GJ.2 (cg.2 ⟨e ▸ hk,fun e2=>hne (e.trans e2)⟩);have q2:(delI l node).contains (y:Int)=false:=q2;rw[this] at q2;cases q2
theorem DS(ns:List Nd)(KK:List Int)(L:List Cls)(hL:L.map Cls.k=KK)(hth:∀n∈ns,n.kind=2\/n.kind=3->0<=n.thing/\n.thing<KK.length)(l:List Int)(hl:l.length<=4096)(fence:Int)(W:List Nat)(hN:ns.length<=4096)(h:FY ns KK l fence W):K 11 [.tr (aO ns),.tr (eg L),.tr (a8 W),.tr (az l),.tr (ti fence)] [] (.ret (.tr (tb true))) []:=by
 have hoN:(ns.map Nd.cells).length=ns.length:=ad ..;have hoW:=aZ W;have hoL:(L.map Cls.cells).length=L.length:=ad ..;have hol:(l.map irow).length=l.length:=ad ..;have hLl:L.length=KK.length:=by rw[<-hL,ad]
 have h2:=h.two;have hfew:=h.few;have hlt:∀(i:Nat) x,W[i]?=some x->x<ns.length:=fun i x hx=>h.lt x (i3 hx);obtain⟨x0,hx0⟩:∃x,W[0]?=some x:=⟨_,ab JQ⟩;obtain⟨xl,hxl⟩:∃x,W[W.length-1]?=some x:=⟨_,ab JQ⟩;have hx0n:=hlt _ _ hx0;have hxln:=hlt _ _ hxl;obtain⟨n0,hn0⟩:∃n,ns[x0]?=some n:=⟨_,ab hx0n⟩;obtain⟨nl,hnl⟩:∃n,ns[xl]?=some n:=⟨_,ab hxln⟩;have ho:=h.fst x0 n0 hx0 hn0;obtain⟨he1,he2⟩:=h.lst xl nl hxl hnl;have hrac:∀n∈ns,n.kind=2\/n.kind=3->eO KK n=true->∃c:Cls,L[n.thing.toNat]?=some c/\c.k=3/\0<=n.thing/\n.thing<L.length:=fun n hn hk hr=>by obtain⟨q1,q2⟩:=hth n hn hk;obtain⟨c,hc⟩:∃c,L[n.thing.toNat]?=some c:=⟨_,ab JQ⟩;refine⟨c,hc,?_,q1,JQ⟩;unfold eO at hr;rw[<-hL,t5,z5,hc] at hr;exact eq_of_beq hr
 have hwl:IntKind.i64.wrap ((((W.map fun(x:Nat)=>(x:Int)).map irow).length:Int)-1)=((W.length-1:Nat):Int):=by rw[hoW,w64 JQ JQ];omega
 have hr0:=hrac n0 (i3 hn0);obtain⟨⟨cl,cl1,cl2⟩,hcl,hcl3,hcl4,hcl5⟩:=hrac nl (i3 hnl) (.inl (eq_of_beq he1)) he2;have hcl3:cl=3:=hcl3;subst hcl3;obtain⟨kind0,op0,slot0,thing0,⟨sa0,ka0,wa0⟩,⟨sb0,kb0,wb0⟩,next0,els0,origin0⟩:=n0;obtain⟨kind1,op1,slot1,thing1,⟨sa1,ka1,wa1⟩,⟨sb1,kb1,wb1⟩,next1,els1,origin1⟩:=nl;have he1:kind1=2:=eq_of_beq he1;subst he1;dsimp only at hcl hcl4 hcl5 hr0;refine Ctr.cut [3,12,13,15,16] hT hmix Tryz.func11 rfl (fun _ _=>JR) rfl fun hok=>?_;clear hok;conv=>whnf
 refine ixN hx0 ?_;conv=>whnf
 refine ixM hn0 ?_;conv=>whnf
 rw[hwl];refine ixN hxl ?_;conv=>whnf
 refine ixM hnl ?_;conv=>whnf
 refine drT ?_;conv=>whnf
 refine bD.by (fun _:Unit=>⟨[(0,.tr (aO ns)),(1,.tr (eg L)),(2,.tr (a8 W)),(3,.tr (az l)),(4,.tr (ti fence)),(12,.ptr 0 0),(13,.tr (tb true))],[(0,.cells 112 [.tr (tu 2),.tr (tu op1),.tr (ti slot1),.tr (ti thing1),.tr (tb sa1),.tr (ti ka1),.tr (ti wa1),.tr (tb sb1),.tr (ti kb1),.tr (ti wb1),.tr (ti next1),.tr (ti els1),.tr (ti origin1)])],11⟩) (fun _=>True) ?_ ?_
 ·have ho':(bif kind0==6 then true else bif kind0==3 then eO KK ⟨kind0,op0,slot0,thing0,⟨sa0,ka0,wa0⟩,⟨sb0,kb0,wb0⟩,next0,els0,origin0⟩ else false)=true:=ho;conv=>whnf
  cases h6:(kind0==6) with
  |true=>
   conv=>whnf
   exact⟨(),[_],[],Sub.aw,J0⟩
  |false=>
  rw[h6,lh] at ho';cases h3:(kind0==3) with
  |false=>rw[h3] at ho';cases ho'
  |true=>
  rw[h3,r7] at ho';obtain⟨⟨ck,c1,c2⟩,hc,hc3,hc4,hc5⟩:=hr0 (.inr (eq_of_beq h3)) ho';have hc3:ck=3:=hc3;subst hc3;conv=>whnf
  rw[h3];conv=>whnf
  refine⟨rfl,hc4,(by show thing0<((L.map Cls.cells).length:Int);rw[hoL];exact hc5),fun row hrow=>?_⟩;obtain⟨d,hd,rfl⟩:=aC hrow;obtain rfl:=vx (hc.symm.trans hd);clear hrow hd;conv=>whnf
  exact⟨(),[_],[],Sub.aw,J0⟩
 rintro - - -
 conv=>whnf
 refine⟨rfl,hcl4,(by show thing1<((L.map Cls.cells).length:Int);rw[hoL];exact hcl5),fun row hrow=>?_⟩;obtain⟨d,hd,rfl⟩:=aC hrow;obtain rfl:=vx (hcl.symm.trans hd);clear hrow hd;conv=>whnf
 refine aq.by (fun x:Nat×Bool=>⟨[(0,.tr (aO ns)),(1,.tr (eg L)),(2,.tr (a8 W)),(3,.tr (az l)),(4,.tr (ti fence)),(14,.tr (tb x.2)),(15,.tr (ti x.1))],[],11⟩) (fun x=>1<=x.1/\x.1<=W.length/\(x.2=true\/∀j y:Nat,j+1<x.1->W[j+1]?=some y->(y:Int)≠fence)) (fun x=>W.length-x.1) (1,false) [] [] (Sub.mk' rfl aut trivial rfl rfl) ⟨t9 _,(by show 1<=W.length;omega),.inr fun j y hj=>(by have hj:j+1<1:=hj;omega)⟩ ?_;rintro⟨i,s⟩ ⟨hi1,hi2,hS⟩ -
 dsimp only at hi1 hi2 hS;conv=>whnf
 cases h1:decide ((i:Int)<((((W.map fun(x:Nat)=>(x:Int))).map irow).length:Int)) with
 |false=>
  have h1':W.length<=i:=by have:=ud h1;omega
  obtain rfl:s=true:=by
   rcases hS with h3|h3
   ·exact h3
   ·obtain⟨i0,y0,q1,q2⟩:=h.hit;have:=(a9.1 q1).1;exact absurd q2 (h3 i0 y0 JQ q1)
  conv=>whnf
  refine exT ?_;conv=>whnf
  exact aut
 |true=>
 have h1':i<W.length:=by have:=of_decide_eq_true h1;omega
 have hwi:IntKind.i64.wrap ((i:Int)+1)=((i+1:Nat):Int):=by rw[w64 JQ JQ];omega
 have hwm:IntKind.i64.wrap ((i:Int)-1)=((i-1:Nat):Int):=by rw[w64 JQ JQ];omega
 obtain⟨x,hx⟩:∃x,W[i-1]?=some x:=⟨_,ab JQ⟩;obtain⟨y,hy⟩:∃y,W[i]?=some y:=⟨_,ab h1'⟩;have hxn:=hlt _ _ hx;have hyn:=hlt _ _ hy;obtain⟨a,ha⟩:∃n,ns[x]?=some n:=⟨_,ab hxn⟩;obtain⟨b,hb⟩:∃n,ns[y]?=some n:=⟨_,ab hyn⟩;obtain⟨hs1,hs2,hs3⟩:=h.step (i-1) x y a b hx (by rw[(JQ:i-1+1=i)];exact hy) ha hb;rw[(JQ:i-1+1=i)] at hs2;obtain⟨kind2,op2,slot2,thing2,⟨sa2,ka2,wa2⟩,⟨sb2,kb2,wb2⟩,next2,els2,origin2⟩:=a;obtain⟨kind3,op3,slot3,thing3,⟨sa3,ka3,wa3⟩,⟨sb3,kb3,wb3⟩,next3,els3,origin3⟩:=b;dsimp only at hs1;conv=>whnf
 rw[hwm];refine ixN hx ?_;conv=>whnf
 refine ixM ha ?_;conv=>whnf
 refine ixN hy ?_;conv=>whnf
 refine ixM hb ?_;conv=>whnf
 refine drT ?_;conv=>whnf
 refine bD.by (fun _:Unit=>⟨[(0,.tr (aO ns)),(1,.tr (eg L)),(2,.tr (a8 W)),(3,.tr (az l)),(4,.tr (ti fence)),(14,.tr (tb s)),(15,.tr (ti i)),(17,.ptr 0 0)],[(0,.cells 112 [.tr (tu kind3),.tr (tu op3),.tr (ti slot3),.tr (ti thing3),.tr (tb sa3),.tr (ti ka3),.tr (ti wa3),.tr (tb sb3),.tr (ti kb3),.tr (ti wb3),.tr (ti next3),.tr (ti els3),.tr (ti origin3)])],11⟩) (fun _=>True) ?_ ?_
 ·conv=>whnf
  refine ixN hy ?_;conv=>whnf
  cases hq:(next2 != (y:Int)) with
  |false=>
   conv=>whnf
   refine drT ?_;conv=>whnf
   exact⟨(),[_],[],Sub.aw,J0⟩
  |true=>
  obtain⟨rfl,rfl⟩:kind2=8/\els2=(y:Int):=by
   rcases hs1 with e|e
   ·rw[e] at hq;simp at hq
   ·exact e
  conv=>whnf
  refine ixN hy ?_;conv=>whnf
  rw[(JX:((y:Int) != (y:Int))=false)];conv=>whnf
  refine drT ?_;conv=>whnf
  exact⟨(),[_],[],Sub.aw,J0⟩
 rintro - - -
 clear hs1 ha hx;refine bD.by (fun o:Bool=>⟨[(0,.tr (aO ns)),(1,.tr (eg L)),(2,.tr (a8 W)),(3,.tr (az l)),(4,.tr (ti fence)),(14,.tr (tb s)),(15,.tr (ti i)),(18,.tr (tb o))],[],11⟩) (fun o=>o=rE ⟨kind3,op3,slot3,thing3,⟨sa3,ka3,wa3⟩,⟨sb3,kb3,wb3⟩,next3,els3,origin3⟩) ?_ ?_
 ·have hdr:rE ⟨kind3,op3,slot3,thing3,⟨sa3,ka3,wa3⟩,⟨sb3,kb3,wb3⟩,next3,els3,origin3⟩=bif kind3==4 then true else bif kind3==5 then true else kind3==7:=rfl;rw[hdr];conv=>whnf
  cases h4:(kind3==4) with
  |true=>
   conv=>whnf
   exact⟨true,[],[],Sub.mk' rfl aut trivial rfl rfl,rfl⟩
  |false=>
  conv=>whnf
  cases h5:(kind3==5) with
  |true=>
   conv=>whnf
   exact⟨true,[],[],Sub.mk' rfl aut trivial rfl rfl,rfl⟩
  |false=>
   conv=>whnf
   exact⟨kind3==7,[],[],Sub.mk' rfl aut trivial rfl rfl,rfl⟩
 rintro o ho2 -
 generalize rE ⟨kind3,op3,slot3,thing3,⟨sa3,ka3,wa3⟩,⟨sb3,kb3,wb3⟩,next3,els3,origin3⟩=dr at *
 subst ho2;refine bD.by (fun _:Unit=>⟨[(0,.tr (aO ns)),(1,.tr (eg L)),(2,.tr (a8 W)),(3,.tr (az l)),(4,.tr (ti fence)),(14,.tr (tb s)),(15,.tr (ti i))],[],11⟩) (fun _=>True) ?_ ?_
 ·conv=>whnf
  cases o with
  |false=>
   conv=>whnf
   exact⟨(),[],[],Sub.mk' rfl aut trivial rfl rfl,J0⟩
  |true=>
  conv=>whnf
  rw[hwl];rw[show decide ((i:Int)<((W.length-1:Nat):Int))=false from Gz (fun q=>by have:=hs2 JQ;cases this)];conv=>whnf
  exact⟨(),[],[],Sub.mk' rfl aut trivial rfl rfl,J0⟩
 rintro - - -
 refine bD.by (fun s':Bool=>⟨[(0,.tr (aO ns)),(1,.tr (eg L)),(2,.tr (a8 W)),(3,.tr (az l)),(4,.tr (ti fence)),(14,.tr (tb s')),(15,.tr (ti i))],[],11⟩) (fun s'=>s'=true\/∀j z:Nat,j+1<i+1->W[j+1]?=some z->(z:Int)≠fence) ?_ ?_
 ·conv=>whnf
  cases s with
  |true=>
   conv=>whnf
   exact⟨true,[],[],Sub.mk' rfl aut trivial rfl rfl,JZ⟩
  |false=>
  have hS:=hS.resolve_left JS;conv=>whnf
  refine ixN hy ?_;conv=>whnf
  refine⟨((y:Int)==fence),[],[],Sub.mk' rfl aut trivial rfl rfl,?_⟩;cases hq:((y:Int)==fence) with
  |true=>exact .inl rfl
  |false=>
   refine .inr fun j z hj hz=>?_;by_cases e:j+1=i
   ·rw[e,hy] at hz;cases hz;simpa using hq
   ·exact hS j z JQ hz
 rintro s' hS' -
 clear hS;conv=>whnf
 refine aq.by (fun j:Nat=>⟨[(0,.tr (aO ns)),(1,.tr (eg L)),(2,.tr (a8 W)),(3,.tr (az l)),(4,.tr (ti fence)),(14,.tr (tb s')),(15,.tr (ti i)),(141,.tr (az l)),(142,.tr (ti l.length)),(143,.tr (ti j))],[],11⟩) (fun j=>j<=l.length) (fun j=>l.length-j) 0 [] [] (Sub.mk' rfl ⟨JZ,JZ,JZ,JZ,JZ,JZ,JZ,JZ,.inl (by rw[hol]),aut⟩ trivial rfl rfl) (x5 _) ?_;intro j hj _;conv=>whnf
 cases h2:decide ((j:Int)<(l.length:Int)) with
 |false=>
  conv=>whnf
  refine exT ?_;conv=>whnf
  rw[hwi];exact⟨(i+1,s'),[],[],Sub.mk' rfl aut trivial rfl rfl,⟨by show 1<=i+1;omega,h1',hS'⟩,by show W.length-(i+1)<W.length-i;omega⟩
 |true=>
 have h2':j<l.length:=by have:=of_decide_eq_true h2;omega
 have hwj:IntKind.i64.wrap ((j:Int)+1)=((j+1:Nat):Int):=by rw[w64 JQ JQ];omega
 obtain⟨k,hk⟩:∃k,l[j]?=some k:=⟨_,ab h2'⟩;have hk3:=hs3 k (i3 hk);conv=>whnf
 refine ixM hk ?_;conv=>whnf
 cases hq:(k != fence) with
 |false=>
  conv=>whnf
  rw[hwj];exact⟨j+1,[],[],Sub.mk' rfl aut trivial rfl rfl,h2',JQ⟩
 |true=>
  have hne:(k==(y:Int))=false:=GX.2 (hk3 (by simpa using hq));conv=>whnf
  refine ixN hy ?_;conv=>whnf
  rw[hne];conv=>whnf
  rw[hwj];exact⟨j+1,[],[],Sub.mk' rfl aut trivial rfl rfl,h2',JQ⟩
end Go.Proofs.YtapmdfcmpglieaaGreatDoor.am
set_option maxRecDepth 100000
set_option maxHeartbeats 4000000
namespace Go.Proofs.YtapmdfcmpglieaaGreatDoor.ws
open Go Go.RowKit
def known(op:Nat):Bool:=decide (1<=op/\op<=18)
def isTwo(op:Nat):Bool:=decide (1<=op/\op<=16)
theorem dF(op:Nat)(w:World):
  Calls Tryz.prog 64 #[.int .u8 op] w fun e w'=>e=.returned (.bool (known op))/\w=w':=by
 by_cases h:1<=op/\op<=18
 ·have e:known op=true:=by simp[known,h]
  have E:=Lib.hid e;clear e;obtain⟨h1,h2⟩:=h;go_enter Tryz.func64,Tryz.ntmps64
  go_wp2
  go_ret
  exact⟨gp (by rw[E.out];simp;omega),rfl⟩
 ·have e:known op=false:=by simp[known];omega
  have E:=Lib.hid e;clear e;by_cases h1:op=0
  ·subst h1;go_enter Tryz.func64,Tryz.ntmps64
   go_wp2
   go_ret
   exact⟨gp (by rw[E.out]),rfl⟩
  ·have h2:19<=op:=JQ;clear h h1;go_enter Tryz.func64,Tryz.ntmps64
   go_wp2
   all_goals go_ret
   all_goals exact⟨gp (by rw[E.out];try(simp;omega)),rfl⟩
theorem wQ(op:Nat)(w:World):
  Calls Tryz.prog 34 #[.int .u8 op] w fun e w'=>e=.returned (.bool (isTwo op))/\w=w':=by
 by_cases h:1<=op/\op<=18
 ·have e:known op=true:=by simp[known,h]
  have E:=Lib.hid e;clear e;obtain⟨h1,h2⟩:=h;by_cases h3:op=17
  ·subst h3;go_enter Tryz.func34,Tryz.ntmps34
   go_wp2_with (go_at_call 64;refine(dF 17 _).mono ?_;rw[E.out];rintro e w' ⟨rfl,rfl⟩)
   go_ret
   exact JY
  by_cases h4:op=18
  ·subst h4;go_enter Tryz.func34,Tryz.ntmps34
   go_wp2_with (go_at_call 64;refine(dF 18 _).mono ?_;rw[E.out];rintro e w' ⟨rfl,rfl⟩)
   go_ret
   exact JY
  have h5:op<=16:=JQ;have h6:((op:Int) != 17)=true:=by simp;omega
  have h7:((op:Int) != 18)=true:=by simp;omega
  clear h3 h4;go_enter Tryz.func34,Tryz.ntmps34
  go_wp2_with (go_at_call 64;refine(dF _ _).mono ?_;rw[E.out];rintro e w' ⟨rfl,rfl⟩)
  go_ret
  exact⟨gp (by simp[isTwo];omega),rfl⟩
 ·have e:known op=false:=by simp[known];omega
  have E:=Lib.hid e;clear e;have e2:isTwo op=false:=by simp[isTwo];omega
  have E2:=Lib.hid e2;clear e2 h;go_enter Tryz.func34,Tryz.ntmps34
  go_wp2_with (go_at_call 64;refine(dF _ _).mono ?_;rw[E.out];rintro e w' ⟨rfl,rfl⟩)
  go_ret
  exact⟨gp E2.out.symm,rfl⟩
def sgL:List (List UInt8):=[[],[43],[45],[42],[47],[37],[38],[124],[94],[60,60],[62,62],[61,61],[33,61],[60],[60,61],[62],[62,61],[45],[33]]
def lvL:List Int:=[0,7,7,8,8,8,3,1,2,6,6,4,4,5,5,5,5,9,9]
def sg(k:Nat):ByteArray:=⟨(sgL.getD k []).toArray⟩
def lv(k:Nat):Int:=lvL.getD k 0
structure Tab(w:World):Prop where
 sign:∀k,k<19->w.cell? ⟨2,k*2,none⟩=some (.string (sg k))
 level:∀k,k<19->w.cell? ⟨2,k*2+1,none⟩=some (.int .i64 (lv k))
theorem Tab.lt{w:World}(h:Tab w): 2 < w.heap.size:=block_lt_of_cell (h.sign 0 JS)
theorem Tab.below{w w':World}(h:Tab w)(hb:Below w.heap.size w w'):Tab w':=
 ⟨fun k hk=>by rw[hb.cell (p:=⟨_,_,none⟩) h.lt];exact h.sign k hk,fun k hk=>by rw[hb.cell (p:=⟨_,_,none⟩) h.lt];exact h.level k hk⟩
theorem zx{op:Nat}(h:known op=true):op<19:=by simp[known] at h;omega
theorem level_any(op:Nat)(w:World)(ht:Tab w):
  Calls Tryz.prog 192 #[.int .u8 op] w fun e w'=>e=.returned (.int .i64 (lv op))/\w=w':=by
 cases h:known op
 ·have H:=Lib.hid h;have e:lv op=0:=by
   have:op=0\/19<=op:=by simp[known] at h;omega
   rcases this with rfl|h2
   ·rfl
   ·unfold lv;rw[t5,yB (by exact h2)];rfl
  have E:=Lib.hid e;clear e h ht;go_enter Tryz.func192,Tryz.ntmps192
  go_wp2_with (go_at_call 64;refine(dF _ _).mono ?_;rw[H.out];rintro e w' ⟨rfl,rfl⟩)
  go_ret
  exact⟨B6 E.out.symm,rfl⟩
 ·have H:=Lib.hid h;have hlt:=zx h;have hc:=ht.level op hlt;clear h ht;go_enter Tryz.func192,Tryz.ntmps192
  go_wp2_with (go_at_call 64;refine(dF _ _).mono ?_;rw[H.out];rintro e w' ⟨rfl,rfl⟩)
  go_ret
  exact JY
def findFrom(s:ByteArray):Nat->Nat->Nat
 |0,_=>0
 |n+1,k=>if isTwo k&&(sg k).toList==s.toList then k else findFrom s n (k+1)
def findN(s:ByteArray):Nat:=findFrom s 19 0
theorem jU{s:ByteArray}{n k:Nat}(h:(isTwo k&&(sg k).toList==s.toList)=false):findFrom s (n+1) k=findFrom s n (k+1):=by simp[findFrom,h]
theorem nm{s:ByteArray}{n k:Nat}(h:(isTwo k&&(sg k).toList==s.toList)=true):findFrom s (n+1) k=k:=by simp[findFrom,h]
theorem find_any(s:ByteArray)(w:World)(ht:Tab w):
  Calls Tryz.prog 191 #[.string s] w fun e w'=>e=.returned (.tuple #[.int .u8 (findN s),.bool (findN s != 0)])/\w=w':=by
 have HT:=Lib.hid ht;clear ht;go_enter Tryz.func191,Tryz.ntmps191
 go_wp2
 go_loop [5] (fun i=>∃k:Nat,k<=19/\i=.int .u8 k/\Hid (findN s=findFrom s (19-k) k)) (fun i=>(19-intOf i).toNat)
 case atStart=>exact⟨0,JQ,rfl,rfl⟩
 case round=>
  obtain⟨k,hk,rfl,H⟩:=hrel;by_cases hlt:k<19
  ·have hs:=HT.out.sign k hlt;cases h2:isTwo k
   ·have H2:=Lib.hid h2;clear h2;go_wp2_with (go_at_call 34;refine(wQ _ _).mono ?_;rw[H2.out];rintro e w' ⟨rfl,rfl⟩)
    have hn:findFrom s (19-k) k=findFrom s (19-(k+1)) (k+1):=by rw[show 19-k=(19-(k+1))+1 from JQ];exact jU (by simp[H2.out])
    go_round
    case rel=>exact⟨k+1,JQ,by go_num,H.out.trans hn⟩
    case measure=>simp[intOf];omega
   ·have H2:=Lib.hid h2;clear h2;go_wp2_with (go_at_call 34;refine(wQ _ _).mono ?_;rw[H2.out];rintro e w' ⟨rfl,rfl⟩)
    ·have hq:((sg k).toList==s.toList)=true:=by assumption
     have e:findN s=k:=by rw[H.out,show 19-k=(19-(k+1))+1 from JQ];exact nm (by rw[H2.out,hq];rfl)
     have hk0:k≠0:=fun h0=>by have:=H2.out;rw[h0] at this;cases this
     go_ret2
     rw[e];refine⟨?_,rfl⟩;simp[hk0]
    ·have hq:((sg k).toList==s.toList)=false:=by assumption
     have hn:findFrom s (19-k) k=findFrom s (19-(k+1)) (k+1):=by rw[show 19-k=(19-(k+1))+1 from JQ];exact jU (by rw[H2.out,hq];rfl)
     go_round
     case rel=>exact⟨k+1,JQ,by go_num,H.out.trans hn⟩
     case measure=>simp[intOf];omega
  ·obtain rfl:k=19:=JQ;go_wp2
   go_ret2
   have e:findN s=0:=H.out;rw[e];exact JY
end Go.Proofs.YtapmdfcmpglieaaGreatDoor.ws
namespace Go.Proofs.YtapmdfcmpglieaaGreatDoor.am
open Go Go.Proofs
theorem Bf{g:Gh}{w:World}{m:Mem}(hm:MSt g w m):ws.Tab w:=by obtain⟨_,cs,t,fz,e,hk⟩:=hm.gl _ _ (.inl ⟨rfl,rfl⟩);exact⟨fun k h=>by rw[aD e];exact(hk k h).1,fun k h=>by rw[aD e];exact(hk k h).2⟩
theorem C1(k:Nat): -9223372036854775808<=ws.lv k/\ws.lv k<=9223372036854775807:=by
 have h:∀z∈ws.lvL,-9223372036854775808<=z/\z<=9223372036854775807:=JS;unfold ws.lv;rw[t5];cases e:ws.lvL[k]? with
 |none=>exact⟨JS,JS⟩
 |some l=>exact h l (i3 e)
theorem zY(s:ByteArray):ws.findN s<=18:=by
 have h:∀n k,k+n<=19->ws.findFrom s n k<=18:=by
  intro n;induction n with
  |zero=>intro k _;exact x5 _
  |succ n ih=>
   intro k hk;unfold ws.findFrom;split;·omega
   ·exact ih (k+1) JQ
 exact h 19 0 JQ
theorem ra(op:Int):K 192 [.tr (tu op)] [] (.ret (.tr (ti (ws.lv op.toNat)))) []:=by refine Ctr.ofCalls (fun _ _=>JR) fun g w vs hm hsz hv=>?_;obtain⟨v,rfl⟩:=jB hsz;obtain⟨rfl,h1,h2⟩:=al (hv 0 v (.tr (tu op)) rfl rfl);obtain⟨k,rfl⟩:∃k:Nat,op=k:=⟨op.toNat,by have:(0:Int)<=op:=h1;omega⟩;refine(ws.level_any k w (Bf hm)).mono ?_;rintro e w' ⟨rfl,rfl⟩;exact⟨_,rfl,Jb _ _,fun _ _=>.tr (.v (C1 k))⟩
theorem CY(s:ByteArray):K 191 [.tr (ts s)] [] (.ret (.tup [.tr (tu (ws.findN s)),.tr (tb (ws.findN s != 0))])) []:=by
 refine Ctr.ofCalls (fun _ _=>JR) fun g w vs hm hsz hv=>?_;obtain⟨v,rfl⟩:=jB hsz;obtain⟨rfl,_⟩:=al (hv 0 v (.tr (ts s)) rfl rfl);refine(ws.find_any s w (Bf hm)).mono ?_;rintro e w' ⟨rfl,rfl⟩;refine⟨_,rfl,Jb _ _,fun _ _=>.tup rfl fun i c a e1 e2=>?_⟩;have hf:=zY s
 match i with
 |0=>cases e1;cases e2;exact .tr (.v ⟨HF _,by show((ws.findN s:Nat):Int)<=255;omega⟩)
 |1=>cases e1;cases e2;exact .tr (.v trivial)
 |i+2=>simp at e1
end Go.Proofs.YtapmdfcmpglieaaGreatDoor.am
set_option maxRecDepth 100000
set_option maxHeartbeats 4000000
namespace Go.Proofs.YtapmdfcmpglieaaGreatDoor.am
open Go Go.Proofs Go.RowKit
attribute [local irreducible] aj
def kR(a:AV):Prop:=∃x:Expr,a=x.av
structure Pend where
 op:Int
 at_:Int
 left:Expr
def Pend.cells(p:Pend):List Tr:=tu p.op::ti p.at_::p.left.cells
def yR:Expr:=.mk 0 0 0 ⟨#[]⟩ [] 0
def Expr.cellsA(x:Expr):List AV:=x.cells.map .tr
theorem rG(l:List Tok)(i0 d:Nat)(e:Int)(hl:l.length<=65536)(hi:i0<=l.length)(hu:∀i,i<=l.length->KE 190 [.ptr 0 0,.tr (ti d)] [pB l i e] (PE l e (i+1) kR)):
  KE 180 [.ptr 0 0,.tr (ti d)] [pB l i0 e] (PE l e (i0+1) kR):=by
 refine cp.new [2000002,6,10,2000014] hT hmix Tryz.func180 rfl (fun _ _=>JR) rfl fun hok=>?_;clear hok;conv=>whnf
 refine af hT 2 ?_;conv=>whnf
 refine aj.by [0] [] (hu i0 hi) ?_;rintro res bout ⟨j,hj,rfl,⟨a,rfl,⟨⟨xk,xo,xw,xn,xl,xa⟩,rfl⟩,hlo⟩|⟨x,y,rfl⟩⟩;rotate_left
 ·refine⟨rfl,?_⟩;conv=>whnf
  intro _;conv=>whnf
  exact⟨.pan (cj x y),_,⟨j,hj,rfl,.inr ⟨_,_,rfl⟩⟩,[0],rfl,rfl,aut⟩
 refine⟨rfl,?_⟩;conv=>whnf
 intro _;conv=>whnf
 refine aq.by (fun x:Nat×Expr×List Pend=>⟨[(0,.ptr 0 0),(1,.tr (ti d)),(4,.ptr 1 0),(5,.sl 3 x.2.2.length),(6,.ptr 2 0)],[(0,pB l x.1 e),(1,.cells 244 (yR.cellsA)),(2,.cells 244 (x.2.1.cellsA)),(3,.vec 294 8 80 (x.2.2.map Pend.cells))],11⟩)
  (fun x=>i0+1<=x.1/\x.1<=l.length/\x.2.2.length<=x.1) (fun x=>l.length-x.1) (j,.mk xk xo xw xn xl xa,[]) [0,_,_] [3] (Sub.mk' rfl ⟨⟨rfl,rfl⟩,.inl rfl,⟨rfl,rfl⟩,⟨rfl,rfl,rfl,rfl⟩,⟨rfl,rfl⟩,trivial⟩ ⟨⟨rfl,.inl rfl,.inl rfl,.inl rfl,trivial⟩,aut2,⟨rfl,.inl rfl,.inl rfl,.inl rfl,.inl rfl,.inl rfl,.inl rfl,trivial⟩,⟨rfl,294,8,80,rfl,JQ⟩,trivial⟩ rfl rfl) ⟨hlo,hj,x5 _⟩ ?_
 clear hlo hj;rintro⟨i,⟨xk,xo,xw,xn,xl,xa⟩,W⟩ ⟨hlo,hj,hW⟩ -
 dsimp only at hlo hj hW;have hol:(W.map Pend.cells).length=W.length:=ad ..;conv=>whnf
 refine aa.au [0] [] (jc l i e hl hj) ?_;intro _;conv=>whnf
 have hlt:=cX (l:=l) (i:=i);have hx:=jO l i e hl;generalize hereP l i=u at *
 obtain⟨uk,ut,uw,ua⟩:=u;dsimp only at hlt;refine aa.au [] [] (CY ut) ?_;intro _;conv=>whnf
 have hop:((ws.findN ut:Nat):Int).toNat=ws.findN ut:=rfl;generalize ws.findN ut=op at *
 conv=>whnf
 refine bD.by (fun x:Bool×Nat×Expr=>⟨[(0,.ptr 0 0),(1,.tr (ti d)),(4,.ptr 1 0),(5,.sl 3 x.2.1),(6,.ptr 2 0),(7,.ptr 4 0),(8,.tr (tu op)),(9,.tr (tb x.1))],[(0,pB l i e),(1,.cells 244 (yR.cellsA)),(2,.cells 244 (x.2.2.cellsA)),(3,.vec 294 8 80 (W.map Pend.cells)),(4,.cells 60 [.tr (tu uk),.tr (ts ut),.tr (ti uw),.tr (ti ua)])],11⟩)
  (fun x=>x.2.1=W.length/\(x.1=true->i<l.length)) ?_ ?_
 ·conv=>whnf
  cases h1:(op != 0) with
  |false=>
   conv=>whnf
   exact⟨(false,W.length,.mk xk xo xw xn xl xa),[0,1,2,3,_],[],Sub.aw,rfl,fun h=>Bool.noConfusion h⟩
  |true=>
  conv=>whnf
  cases h2:(uk==4) with
  |false=>
   conv=>whnf
   exact⟨(false,W.length,.mk xk xo xw xn xl xa),[0,1,2,3,_],[],Sub.aw,rfl,fun h=>Bool.noConfusion h⟩
  |true=>
  conv=>whnf
  exact⟨(true,W.length,.mk xk xo xw xn xl xa),[0,1,2,3,_],[],Sub.aw,rfl,fun _=>hlt (by intro h;rw[h] at h2;exact absurd h2 JS)⟩
 rintro⟨is,n,⟨xk,xo,xw,xn,xl,xa⟩⟩ ⟨hn,hil⟩ -
 dsimp only at hn hil;conv=>whnf
 refine bD.by (fun x:Bool×Nat×Expr=>⟨[(0,.ptr 0 0),(1,.tr (ti d)),(4,.ptr 1 0),(5,.sl 3 x.2.1),(6,.ptr 2 0),(7,.ptr 4 0),(8,.tr (tu op)),(9,.tr (tb x.1))],[(0,pB l i e),(1,.cells 244 (yR.cellsA)),(2,.cells 244 (x.2.2.cellsA)),(3,.vec 294 8 80 (W.map Pend.cells)),(4,.cells 60 [.tr (tu uk),.tr (ts ut),.tr (ti uw),.tr (ti ua)])],11⟩)
  (fun x=>x.2.1<=W.length/\(x.1=true->i<l.length)) ?_ ?_
 ·conv=>whnf
  refine aq.by (fun x:Bool×Nat×Expr=>⟨[(0,.ptr 0 0),(1,.tr (ti d)),(4,.ptr 1 0),(5,.sl 3 x.2.1),(6,.ptr 2 0),(7,.ptr 4 0),(8,.tr (tu op)),(9,.tr (tb x.1))],[(0,pB l i e),(1,.cells 244 (yR.cellsA)),(2,.cells 244 (x.2.2.cellsA)),(3,.vec 294 8 80 (W.map Pend.cells)),(4,.cells 60 [.tr (tu uk),.tr (ts ut),.tr (ti uw),.tr (ti ua)])],11⟩)
   (fun x=>x.2.1<=W.length/\x.1=is) (fun x=>x.2.1) (is,n,.mk xk xo xw xn xl xa) [0,1,2,3,4] [] Sub.aw ⟨by show n<=W.length;omega,rfl⟩ ?_
  clear hn;rintro⟨is',n,⟨xk,xo,xw,xn,xl,xa⟩⟩ ⟨hn,his⟩ -
  dsimp only at hn his;subst his;conv=>whnf
  cases h1:decide ((n:Int) > 0) with
  |false=>
   conv=>whnf
   refine exT ?_;conv=>whnf
   exact⟨(is',n,.mk xk xo xw xn xl xa),[0,1,2,3,4],[],Sub.aw,hn,hil⟩
  |true=>
  replace h1:=of_decide_eq_true h1
  obtain⟨n,rfl⟩:∃m,n=m+1:=⟨n-1,JQ⟩;have hw:IntKind.i64.wrap (((n+1:Nat):Int)-1)=(n:Int):=by rw[w64 JQ JQ];omega
  conv=>whnf
  cases is' with
  |false=>
   conv=>whnf
   rw[hw];refine⟨rfl,(JQ:(0:Int)<=(n:Int)),(JQ:(n:Int)<((n+1:Nat):Int)),?_⟩;conv=>whnf
   refine⟨rfl,(by rw[hol];show n<W.length;omega),fun row hrow=>?_⟩;obtain⟨⟨po,pa,⟨pk,pp,pw,pn,pl,px⟩⟩,hp,rfl⟩:=aC hrow;clear hrow hp;conv=>whnf
   refine⟨(by show 8<=8;decide),?_⟩;conv=>whnf
   rw[hw];refine⟨(JQ:(0:Int)<=(n:Int)),(JQ:(n:Int)<=((n+1:Nat):Int)),?_⟩;conv=>whnf
   exact⟨(false,n,.mk 4 po 0 ⟨#[]⟩ [.mk pk pp pw pn pl px,.mk xk xo xw xn xl xa] pa),[0,1,2,3,4],[],Sub.aw,⟨by show n<=W.length;omega,rfl⟩,Hh n⟩
  |true=>
  conv=>whnf
  rw[hw];refine⟨rfl,(JQ:(0:Int)<=(n:Int)),(JQ:(n:Int)<((n+1:Nat):Int)),?_⟩;conv=>whnf
  refine⟨rfl,(by rw[hol];show n<W.length;omega),fun row hrow=>?_⟩;obtain⟨⟨po,pa,⟨pk,pp,pw,pn,pl,px⟩⟩,hp,rfl⟩:=aC hrow;clear hrow hp;conv=>whnf
  refine⟨(by show 0<8;decide),fun t ht=>?_⟩;obtain rfl:tu po=t:=vx ht;conv=>whnf
  refine aa.pure _ (ra po) rfl rfl fun _=>?_;conv=>whnf
  refine aa.pure _ (ra op) rfl rfl fun _=>?_;conv=>whnf
  cases h3:decide (ws.lv po.toNat>=ws.lv ((op:Nat):Int).toNat) with
  |false=>
   conv=>whnf
   refine exT ?_;conv=>whnf
   exact⟨(true,n+1,.mk xk xo xw xn xl xa),[0,1,2,3,4],[],Sub.aw,hn,hil⟩
  |true=>
   conv=>whnf
   rw[hw];refine⟨rfl,(JQ:(0:Int)<=(n:Int)),(JQ:(n:Int)<((n+1:Nat):Int)),?_⟩;conv=>whnf
   refine⟨rfl,(by rw[hol];show n<W.length;omega),fun row hrow=>?_⟩;obtain⟨⟨po,pa,⟨pk,pp,pw,pn,pl,px⟩⟩,hp,rfl⟩:=aC hrow;clear hrow hp;conv=>whnf
   refine⟨(by show 8<=8;decide),?_⟩;conv=>whnf
   rw[hw];refine⟨(JQ:(0:Int)<=(n:Int)),(JQ:(n:Int)<=((n+1:Nat):Int)),?_⟩;conv=>whnf
   exact⟨(true,n,.mk 4 po 0 ⟨#[]⟩ [.mk pk pp pw pn pl px,.mk xk xo xw xn xl xa] pa),[0,1,2,3,4],[],Sub.aw,⟨by show n<=W.length;omega,rfl⟩,Hh n⟩
 rintro⟨is,n,⟨xk,xo,xw,xn,xl,xa⟩⟩ ⟨hn,hil⟩ -
 dsimp only at hn hil;conv=>whnf
 cases is with
 |false=>
  conv=>whnf
  exact⟨.ret (Expr.mk xk xo xw xn xl xa).av,_,⟨i,hj,rfl,.inl ⟨_,rfl,⟨_,rfl⟩,hlo⟩⟩,[0],rfl,rfl,aut⟩
 |true=>
 have hi2:i<l.length:=hil rfl;conv=>whnf
 refine aa.au [0] [] (hx hi2) ?_;intro _;conv=>whnf
 refine⟨rfl,rfl,rfl,(by rw[hol];exact hn),by show(n+1)*80<=150000000000000;omega,neL rfl,?_⟩;conv=>whnf
 refine af hT 2 ?_;conv=>whnf
 refine aj.by [0] [] (hu (i+1) hi2) ?_;rintro res bout ⟨m,hm,rfl,⟨a,rfl,⟨⟨yk,yo,yw,yn,yl,ya⟩,rfl⟩,hlo2⟩|⟨x,y,rfl⟩⟩
 ·refine⟨rfl,?_⟩;conv=>whnf
  intro _;conv=>whnf
  have hlo2:i+1+1<=m:=hlo2;have hlen:(W.take n++[(⟨op,ua,.mk xk xo xw xn xl xa⟩:Pend)]).length=n+1:=by rw[uR,DK,Hf hn];rfl
  exact⟨(m,.mk yk yo yw yn yl ya,W.take n++[(⟨op,ua,.mk xk xo xw xn xl xa⟩:Pend)]),[0,1,2,_],[],Sub.mk' rfl ⟨JY,JZ,JY,⟨rfl,hlen.symm⟩,JY,J0⟩ ⟨⟨rfl,JZ,JZ,JZ,J0⟩,aut2,⟨rfl,JZ,JZ,JZ,JZ,JZ,JZ,J0⟩,⟨rfl,rfl,rfl,by rw[FP,H7];rfl⟩,J0⟩ rfl rfl,⟨by show i0+1<=m;omega,hm,by show(W.take n++[_]).length<=m;rw[hlen];omega⟩,by show l.length-m<l.length-i;omega⟩
 ·refine⟨rfl,?_⟩;conv=>whnf
  intro _;conv=>whnf
  exact⟨.pan (cj x y),_,⟨m,hm,rfl,.inr ⟨_,_,rfl⟩⟩,[0],rfl,rfl,aut⟩
end Go.Proofs.YtapmdfcmpglieaaGreatDoor.am
set_option maxRecDepth 100000
set_option maxHeartbeats 4000000
namespace Go.Proofs.YtapmdfcmpglieaaGreatDoor.am
open Go Go.Proofs Go.RowKit
attribute [local irreducible] aj
abbrev wP:List AV:=[.tr (tu 0),.tr (tu 0),.tr (ti 0),.tr (ts ⟨#[]⟩),.tr (.v (.slice none 0 0)),.tr (ti 0)]
theorem m7(l:List Tok)(i d:Nat)(e:Int)(hl:l.length<=65536)(hi:i<=l.length)(hd:d<=64)
  (hu:d<64->∀i,i<=l.length->KE 190 [.ptr 0 0,.tr (ti (d+1:Nat))] [pB l i e] (PE l e (i+1) kR)) :
  KE 190 [.ptr 0 0,.tr (ti d)] [pB l i e] (PE l e (i+1) kR):=by
 refine cp.new [3,13,2000015,21,2000021] hT hmix Tryz.func190 rfl (fun _ _=>JR) rfl fun hok=>?_;clear hok;have hx:=jO l i e hl;have hlt:=cX (l:=l) (i:=i);conv=>whnf
 refine aa.au [0] [] (jc l i e hl hi) ?_;intro _;conv=>whnf
 generalize hereP l i=u at *
 obtain⟨uk,ut,uw,ua⟩:=u;dsimp only at hlt;refine bD.by (fun inner:Bool=>⟨[(0,.ptr 0 0),(1,.tr (ti d)),(4,.ptr 1 0),(5,.ptr 2 0),(6,.tr (tb inner))],[(0,pB l i e),(1,.cells 244 wP),(2,.cells 60 [.tr (tu uk),.tr (ts ut),.tr (ti uw),.tr (ti ua)])],11⟩)
  (fun inner=>inner=true->i<l.length) ?_ ?_
 ·conv=>whnf
  refine aa.au [0] [] (sO l i e ⟨#[45]⟩ hl hi) ?_;intro _;conv=>whnf
  have l1:=di (l:=l) (i:=i) (s:=⟨#[45]⟩);cases h1:isP l i ⟨#[45]⟩ with
  |true=>
   conv=>whnf
   exact⟨true,[0,_,_],[],Sub.aw,fun _=>l1 h1⟩
  |false=>
  conv=>whnf
  refine aa.au [0] [] (sO l i e ⟨#[33]⟩ hl hi) ?_;intro _;conv=>whnf
  have l2:=di (l:=l) (i:=i) (s:=⟨#[33]⟩);cases h2:isP l i ⟨#[33]⟩ with
  |true=>
   conv=>whnf
   exact⟨true,[0,_,_],[],Sub.aw,fun _=>l2 h2⟩
  |false=>
  conv=>whnf
  refine aa.au [0] [] (sO l i e ⟨#[40]⟩ hl hi) ?_;intro _;conv=>whnf
  exact⟨isP l i ⟨#[40]⟩,[0,_,_],[],Sub.aw,fun h=>di h⟩
 rintro inner hin -
 conv=>whnf
 refine bD.by (fun _:Unit=>⟨[(0,.ptr 0 0),(1,.tr (ti d)),(4,.ptr 1 0),(5,.ptr 2 0)],[(0,pB l i e),(1,.cells 244 wP),(2,.cells 60 [.tr (tu uk),.tr (ts ut),.tr (ti uw),.tr (ti ua)])],11⟩)
  (fun _=>i<l.length/\d<64) ?_ ?_
 ·cases inner with
  |false=>
   conv=>whnf
   cases h3:(uk==3) with
   |true=>
    conv=>whnf
    refine aa.au [0] [] (hx (hlt (by intro h;rw[h] at h3;exact absurd h3 JS))) ?_;intro _;conv=>whnf
    exact⟨.ret (Expr.mk 1 0 uw ⟨#[]⟩ [] ua).av,_,⟨i+1,hlt (by intro h;rw[h] at h3;exact absurd h3 JS),rfl,.inl ⟨_,rfl,⟨_,rfl⟩,t9 _⟩⟩,[0],rfl,rfl,aut2⟩
   |false=>
   conv=>whnf
   cases h4:(uk==1) with
   |true=>
    conv=>whnf
    refine aa.au [0] [] (hx (hlt (by intro h;rw[h] at h4;exact absurd h4 JS))) ?_;intro _;conv=>whnf
    exact⟨.ret (Expr.mk 2 0 0 ut [] ua).av,_,⟨i+1,hlt (by intro h;rw[h] at h4;exact absurd h4 JS),rfl,.inl ⟨_,rfl,⟨_,rfl⟩,t9 _⟩⟩,[0],rfl,rfl,aut2⟩
   |false=>
   conv=>whnf
   refine aa.au [0] [] (iw l i e 2 hl hi) ?_;intro _;conv=>whnf
   exact⟨.pan (cj (atP l i e) 2),_,⟨i,hi,rfl,.inr ⟨_,_,rfl⟩⟩,[0],rfl,rfl,aut⟩
  |true=>
  conv=>whnf
  cases h5:((d:Int)==64) with
  |true=>
   conv=>whnf
   refine aa.au [0] [] (iw l i e 3 hl hi) ?_;intro _;conv=>whnf
   exact⟨.pan (cj (atP l i e) 3),_,⟨i,hi,rfl,.inr ⟨_,_,rfl⟩⟩,[0],rfl,rfl,aut⟩
  |false=>
  conv=>whnf
  cases h3:(uk==3) with
  |true=>
   conv=>whnf
   refine aa.au [0] [] (hx (hlt (by intro h;rw[h] at h3;exact absurd h3 JS))) ?_;intro _;conv=>whnf
   exact⟨.ret (Expr.mk 1 0 uw ⟨#[]⟩ [] ua).av,_,⟨i+1,hlt (by intro h;rw[h] at h3;exact absurd h3 JS),rfl,.inl ⟨_,rfl,⟨_,rfl⟩,t9 _⟩⟩,[0],rfl,rfl,aut2⟩
  |false=>
  conv=>whnf
  cases h4:(uk==1) with
  |true=>
   conv=>whnf
   refine aa.au [0] [] (hx (hlt (by intro h;rw[h] at h4;exact absurd h4 JS))) ?_;intro _;conv=>whnf
   exact⟨.ret (Expr.mk 2 0 0 ut [] ua).av,_,⟨i+1,hlt (by intro h;rw[h] at h4;exact absurd h4 JS),rfl,.inl ⟨_,rfl,⟨_,rfl⟩,t9 _⟩⟩,[0],rfl,rfl,aut2⟩
  |false=>
  conv=>whnf
  exact⟨(),[0,1,2],[],Sub.aw,hin rfl,by rcases Nat.lt_or_eq_of_le hd with h|h;exact h;subst h;exact absurd h5 JS⟩
 rintro - ⟨hi2,hd2⟩ -
 have hu:=hu hd2;have hdw:IntKind.i64.wrap ((d:Int)+1)=((d+1:Nat):Int):=by rw[w64 JQ JQ];omega
 conv=>whnf
 refine aa.au [0] [] (hx hi2) ?_;intro _;conv=>whnf
 cases h6:(ut.toList==(⟨#[40]⟩:ByteArray).toList) with
 |true=>
  conv=>whnf
  refine af hT 3 ?_;conv=>whnf
  rw[hdw];refine aj.by [0] [] (rG l (i+1) (d+1) e hl hi2 hu) ?_;rintro res bout ⟨m,hm,rfl,⟨a,rfl,⟨⟨yk,yo,yw,yn,yl,ya⟩,rfl⟩,hlo2⟩|⟨x,y,rfl⟩⟩
  ·refine⟨rfl,?_⟩;conv=>whnf
   intro _;conv=>whnf
   have hlo2:i+1+1<=m:=hlo2;have hw:=dL l m e [⟨#[41]⟩] hl hm JS;obtain⟨v1,v2⟩:=bO l [⟨#[41]⟩] m hm;generalize wantP l m [⟨#[41]⟩]=W at *
   obtain⟨m2,ok⟩:=W;cases ok with
   |false=>
    refine aa.au [0] [23] (hw) ?_;intro _;conv=>whnf
    exact⟨.pan (cj (atP l m2 e) 2),_,⟨m2,v2,rfl,.inr ⟨_,_,rfl⟩⟩,[0],rfl,rfl,aut⟩
   |true=>
    refine aa.au [0] [23] (hw) ?_;intro _;conv=>whnf
    exact⟨.ret (Expr.mk yk yo yw yn yl ya).av,_,⟨m2,v2,rfl,.inl ⟨_,rfl,⟨_,rfl⟩,by have:m<=m2:=v1;omega⟩⟩,[0],rfl,rfl,aut⟩
  ·refine⟨rfl,?_⟩;conv=>whnf
   intro _;conv=>whnf
   exact⟨.pan (cj x y),_,⟨m,hm,rfl,.inr ⟨_,_,rfl⟩⟩,[0],rfl,rfl,aut⟩
 |false=>
 conv=>whnf
 refine bD.by (fun o:Int=>⟨[(0,.ptr 0 0),(1,.tr (ti d)),(4,.ptr 1 0),(5,.ptr 2 0),(8,.tr (tu o))],[(0,pB l (i+1) e),(1,.cells 244 wP),(2,.cells 60 [.tr (tu uk),.tr (ts ut),.tr (ti uw),.tr (ti ua)])],11⟩)
  (fun o=>True) ?_ ?_
 ·conv=>whnf
  cases h7:(ut.toList==(⟨#[33]⟩:ByteArray).toList) with
  |true=>
   conv=>whnf
   exact⟨18,[0,1,2],[],Sub.aw,J0⟩
  |false=>
   conv=>whnf
   exact⟨17,[0,1,2],[],Sub.aw,J0⟩
 rintro o - -
 conv=>whnf
 refine cK hT hmix 4 ?_;conv=>whnf
 refine⟨JR,?_⟩;conv=>whnf
 rw[hdw];refine aj.by [0] [] (hu (i+1) hi2) ?_;rintro res bout ⟨m,hm,rfl,⟨a,rfl,⟨⟨yk,yo,yw,yn,yl,ya⟩,rfl⟩,hlo2⟩|⟨x,y,rfl⟩⟩
 ·refine⟨rfl,?_⟩;have hlo2:i+1+1<=m:=hlo2;conv=>whnf
  intro _;conv=>whnf
  refine⟨rfl,?_⟩;conv=>whnf
  refine⟨rfl,?_⟩;conv=>whnf
  refine⟨JR,?_⟩;conv=>whnf
  exact⟨.ret (Expr.mk 3 o 0 ⟨#[]⟩ [.mk yk yo yw yn yl ya] ua).av,_,⟨m,hm,rfl,.inl ⟨_,rfl,⟨_,rfl⟩,JQ⟩⟩,[0],rfl,rfl,aut⟩
 ·refine⟨rfl,?_⟩;conv=>whnf
  intro _;conv=>whnf
  refine⟨rfl,?_⟩;conv=>whnf
  exact⟨.pan (cj x y),_,⟨m,hm,rfl,.inr ⟨_,_,rfl⟩⟩,[0],rfl,rfl,aut⟩
theorem vm(l:List Tok)(e:Int)(hl:l.length<=65536):∀(n d:Nat),d+n=64->∀i,i<=l.length->KE 190 [.ptr 0 0,.tr (ti d)] [pB l i e] (PE l e (i+1) kR)
 |0,d,hd,i,hi=>m7 l i d e hl hi JQ fun h=>absurd h JQ
 |n+1,d,hd,i,hi=>m7 l i d e hl hi JQ fun _=>vm l e hl n (d+1) JQ
theorem lY(l:List Tok)(i:Nat)(e:Int)(hl:l.length<=65536)(hi:i<=l.length):KE 180 [.ptr 0 0,.tr (ti 0)] [pB l i e] (PE l e (i+1) kR):=
 rG l i 0 e hl hi (vm l e hl 64 0 rfl)
end Go.Proofs.YtapmdfcmpglieaaGreatDoor.am
set_option maxRecDepth 100000
set_option maxHeartbeats 4000000
namespace Go.Proofs.YtapmdfcmpglieaaGreatDoor.am
open Go Go.Proofs Go.RowKit
attribute [local irreducible] aj
def Dt(a:AV):Prop:=∃L:List Expr,a=.tr (rg L)
def dv(a:AV):Prop:=∃L:List Stmt,a=.tr (ed L)
def AQ(a:AV):Prop:=∃s:Stmt,a=s.av
abbrev sB0(a:Int):Blk:=.cells 196 [.tr (tu 0),.tr (ts ⟨#[]⟩),.tr (ts ⟨#[]⟩),.tr (.v (.slice none 0 0)),.tr (.v (.slice none 0 0)),.tr (.v (.slice none 0 0)),.tr (ti a)]
abbrev sB(s:Stmt):Blk:=.cells 196 (s.cells.map .tr)
def FE(l:List Tok)(e:Int)(lo:Nat):QE:=fun r b=>∃j,j<=l.length/\((r=.ret (.tup [])/\lo<=j/\∃s:Stmt,b=[some (pB l j e),some (sB s)])\/(∃x y,r=.pan (cj x y))/\b=[some (pB l j e),none])
theorem jd(l:List Tok)(i:Nat)(e:Int)(hl:l.length<=65536)(hi:i<=l.length):KE 188 [.ptr 0 0] [pB l i e] (PE l e (i+1) Dt):=by
 refine cp.new [2000002] hT hmix Tryz.func188 rfl (fun _ _=>JR) rfl fun hok=>?_;clear hok;conv=>whnf
 have hw:=dL l (i) e [⟨#[40]⟩] hl hi JS;obtain⟨v1,hm⟩:=bO l [⟨#[40]⟩] (i) hi;generalize wantP l (i) [⟨#[40]⟩]=W at *
 obtain⟨m,ok⟩:=W;cases ok with
 |false=>
  refine aa.au [0] [3] (hw) ?_;intro _;conv=>whnf
  exact⟨.pan (cj (atP l m e) 2),_,⟨m,hm,rfl,.inr ⟨_,_,rfl⟩⟩,[0],rfl,rfl,aut⟩
 |true=>
 refine aa.au [0] [3] (hw) ?_;intro _;conv=>whnf
 refine af hT 1 ?_;conv=>whnf
 refine aj.by [0] [] (lY l m e hl hm) ?_;rintro res bout ⟨m2,hm2,rfl,⟨a,rfl,⟨⟨yk,yo,yw,yn,yl,ya⟩,rfl⟩,hlo⟩|⟨x,y,rfl⟩⟩;rotate_left
 ·refine⟨rfl,?_⟩;conv=>whnf
  intro _;conv=>whnf
  exact⟨.pan (cj x y),_,⟨m2,hm2,rfl,.inr ⟨_,_,rfl⟩⟩,[0],rfl,rfl,aut⟩
 refine⟨rfl,?_⟩;conv=>whnf
 intro _;conv=>whnf
 have hlo:m+1<=m2:=hlo;have hw3:=dL l (m2) e [⟨#[41]⟩] hl hm2 JS;obtain⟨v13,hm3⟩:=bO l [⟨#[41]⟩] (m2) hm2;generalize wantP l (m2) [⟨#[41]⟩]=W at *
 obtain⟨m3,ok⟩:=W;cases ok with
 |false=>
  refine aa.au [0] [10] (hw3) ?_;intro _;conv=>whnf
  exact⟨.pan (cj (atP l m3 e) 2),_,⟨m3,hm3,rfl,.inr ⟨_,_,rfl⟩⟩,[0],rfl,rfl,aut⟩
 |true=>
 refine aa.au [0] [10] (hw3) ?_;intro _;conv=>whnf
 exact⟨.ret (.tr (rg [.mk yk yo yw yn yl ya])),_,⟨m3,hm3,rfl,.inl ⟨_,rfl,⟨_,rfl⟩,by have:i<=m:=v1;have:m2<=m3:=v13;omega⟩⟩,[0],rfl,rfl,aut⟩
theorem uP(l:List Tok)(i d:Nat)(e a0:Int)(hl:l.length<=65536)(hi:i<=l.length)(hb:∀i,i<=l.length->KE 189 [.ptr 0 0,.tr (ti d)] [pB l i e] (PE l e (i+1) dv)):KE 176 [.ptr 0 0,.ptr 1 0,.tr (ti d)] [pB l i e,sB0 a0] (FE l e i):=by
 refine cp.new [2000000,2000001] hT hmix Tryz.func176 rfl (fun _ _=>JR) rfl fun hok=>?_;clear hok;conv=>whnf
 refine af hT 3 ?_;conv=>whnf
 refine aj.by [0] [] (jd l i e hl hi) ?_;rintro res bout ⟨m,hm,rfl,⟨a,rfl,⟨L,rfl⟩,v1⟩|⟨x,y,rfl⟩⟩;rotate_left
 ·refine⟨rfl,?_⟩;conv=>whnf
  intro _;conv=>whnf
  exact⟨.pan (cj x y),[some (pB l m e),none],⟨m,hm,.inr ⟨⟨_,_,rfl⟩,rfl⟩⟩,[0,1],rfl,rfl,aut⟩
 refine⟨rfl,?_⟩;conv=>whnf
 intro _;conv=>whnf
 have v1:i+1<=m:=v1;refine af hT 3 ?_;conv=>whnf
 refine aj.by [0] [] (hb m hm) ?_;rintro res bout ⟨m2,hm2,rfl,⟨a,rfl,⟨B,rfl⟩,v2⟩|⟨x,y,rfl⟩⟩;rotate_left
 ·refine⟨rfl,?_⟩;conv=>whnf
  intro _;conv=>whnf
  exact⟨.pan (cj x y),[some (pB l m2 e),none],⟨m2,hm2,.inr ⟨⟨_,_,rfl⟩,rfl⟩⟩,[0,1],rfl,rfl,aut⟩
 refine⟨rfl,?_⟩;conv=>whnf
 intro _;conv=>whnf
 have v2:m+1<=m2:=v2;exact⟨.ret (.tup []),[some (pB l m2 e),some (sB (.mk 4 ⟨#[]⟩ ⟨#[]⟩ L B [] a0))],⟨m2,hm2,.inl ⟨rfl,JQ,_,rfl⟩⟩,[0,1],rfl,rfl,aut2⟩
theorem pN(l:List Tok)(i d:Nat)(e a0:Int)(hl:l.length<=65536)(hi:i<=l.length)(hb:∀i,i<=l.length->KE 189 [.ptr 0 0,.tr (ti d)] [pB l i e] (PE l e (i+1) dv)):KE 175 [.ptr 0 0,.ptr 1 0,.tr (ti d)] [pB l i e,sB0 a0] (FE l e i):=by
 refine cp.new [2000000,2000001,2000003] hT hmix Tryz.func175 rfl (fun _ _=>JR) rfl fun hok=>?_;clear hok;conv=>whnf
 refine af hT 3 ?_;conv=>whnf
 refine aj.by [0] [] (jd l i e hl hi) ?_;rintro res bout ⟨m,hm,rfl,⟨a,rfl,⟨L,rfl⟩,v1⟩|⟨x,y,rfl⟩⟩;rotate_left
 ·refine⟨rfl,?_⟩;conv=>whnf
  intro _;conv=>whnf
  exact⟨.pan (cj x y),[some (pB l m e),none],⟨m,hm,.inr ⟨⟨_,_,rfl⟩,rfl⟩⟩,[0,1],rfl,rfl,aut⟩
 refine⟨rfl,?_⟩;conv=>whnf
 intro _;conv=>whnf
 have v1:i+1<=m:=v1;refine af hT 3 ?_;conv=>whnf
 refine aj.by [0] [] (hb m hm) ?_;rintro res bout ⟨m2,hm2,rfl,⟨a,rfl,⟨B,rfl⟩,v2⟩|⟨x,y,rfl⟩⟩;rotate_left
 ·refine⟨rfl,?_⟩;conv=>whnf
  intro _;conv=>whnf
  exact⟨.pan (cj x y),[some (pB l m2 e),none],⟨m2,hm2,.inr ⟨⟨_,_,rfl⟩,rfl⟩⟩,[0,1],rfl,rfl,aut⟩
 refine⟨rfl,?_⟩;conv=>whnf
 intro _;conv=>whnf
 have v2:m+1<=m2:=v2;refine aa.au [0] [] (eM l m2 e ⟨#[101,108,115,101]⟩ hl hm2) ?_;intro _;conv=>whnf
 obtain⟨t1,t2⟩:=lJ (s:=⟨#[101,108,115,101]⟩) hm2;generalize (bif isP l m2 ⟨#[101,108,115,101]⟩ then m2+1 else m2)=m3 at *
 cases h3:isP l m2 ⟨#[101,108,115,101]⟩ with
 |false=>
  conv=>whnf
  exact⟨.ret (.tup []),[some (pB l m3 e),some (sB (.mk 3 ⟨#[]⟩ ⟨#[]⟩ L B [] a0))],⟨m3,t1,.inl ⟨rfl,JQ,_,rfl⟩⟩,[0,1],rfl,rfl,aut2⟩
 |true=>
 conv=>whnf
 refine af hT 3 ?_;conv=>whnf
 refine aj.by [0] [] (hb m3 t1) ?_;rintro res bout ⟨m4,hm4,rfl,⟨a,rfl,⟨B2,rfl⟩,v4⟩|⟨x,y,rfl⟩⟩;rotate_left
 ·refine⟨rfl,?_⟩;conv=>whnf
  intro _;conv=>whnf
  exact⟨.pan (cj x y),[some (pB l m4 e),none],⟨m4,hm4,.inr ⟨⟨_,_,rfl⟩,rfl⟩⟩,[0,1],rfl,rfl,aut⟩
 refine⟨rfl,?_⟩;conv=>whnf
 intro _;conv=>whnf
 have v4:m3+1<=m4:=v4;exact⟨.ret (.tup []),[some (pB l m4 e),some (sB (.mk 3 ⟨#[]⟩ ⟨#[]⟩ L B B2 a0))],⟨m4,hm4,.inl ⟨rfl,JQ,_,rfl⟩⟩,[0,1],rfl,rfl,aut2⟩
theorem sJ(l:List Tok)(i d:Nat)(e a0:Int)(hl:l.length<=65536)(hi:i<=l.length):KE 178 [.ptr 0 0,.ptr 1 0,.tr (ti d)] [pB l i e,sB0 a0] (FE l e i):=by
 refine cp.new [2000000] hT hmix Tryz.func178 rfl (fun _ _=>JR) rfl fun hok=>?_;clear hok;conv=>whnf
 refine af hT 3 ?_;conv=>whnf
 refine aj.by [0] [] (lY l i e hl hi) ?_;rintro res bout ⟨m,hm,rfl,⟨a,rfl,⟨⟨yk,yo,yw,yn,yl,ya⟩,rfl⟩,v1⟩|⟨x,y,rfl⟩⟩;rotate_left
 ·refine⟨rfl,?_⟩;conv=>whnf
  intro _;conv=>whnf
  exact⟨.pan (cj x y),[some (pB l m e),none],⟨m,hm,.inr ⟨⟨_,_,rfl⟩,rfl⟩⟩,[0,1],rfl,rfl,aut⟩
 refine⟨rfl,?_⟩;conv=>whnf
 intro _;conv=>whnf
 have v1:i+1<=m:=v1;have hw2:=dL l (m) e [⟨#[59]⟩] hl hm JS;obtain⟨v12,hm2⟩:=bO l [⟨#[59]⟩] (m) hm;generalize wantP l (m) [⟨#[59]⟩]=W at *
 obtain⟨m2,ok⟩:=W;cases ok with
 |false=>
  refine aa.au [0] [14] (hw2) ?_;intro _;conv=>whnf
  exact⟨.pan (cj (atP l m2 e) 2),[some (pB l m2 e),none],⟨m2,hm2,.inr ⟨⟨_,_,rfl⟩,rfl⟩⟩,[0,1],rfl,rfl,aut⟩
 |true=>
 refine aa.au [0] [14] (hw2) ?_;intro _;conv=>whnf
 exact⟨.ret (.tup []),[some (pB l m2 e),some (sB (.mk 6 ⟨#[]⟩ ⟨#[]⟩ [.mk yk yo yw yn yl ya] [] [] a0))],⟨m2,hm2,.inl ⟨rfl,by have:m<=m2:=v12;omega,_,rfl⟩⟩,[0,1],rfl,rfl,aut2⟩
theorem xD(l:List Tok)(i d:Nat)(e a0:Int)(hl:l.length<=65536)(hi:i<=l.length):KE 179 [.ptr 0 0,.ptr 1 0,.tr (ti d)] [pB l i e,sB0 a0] (FE l e i):=by
 refine cp.new [] hT hmix Tryz.func179 rfl (fun _ _=>JR) rfl fun hok=>?_;clear hok;conv=>whnf
 have hw:=dL l (i) e [⟨#[59]⟩] hl hi JS;obtain⟨v1,hm⟩:=bO l [⟨#[59]⟩] (i) hi;generalize wantP l (i) [⟨#[59]⟩]=W at *
 obtain⟨m,ok⟩:=W;cases ok with
 |false=>
  refine aa.au [0] [7] (hw) ?_;intro _;conv=>whnf
  exact⟨.pan (cj (atP l m e) 2),[some (pB l m e),none],⟨m,hm,.inr ⟨⟨_,_,rfl⟩,rfl⟩⟩,[0,1],rfl,rfl,aut⟩
 |true=>
 refine aa.au [0] [7] (hw) ?_;intro _;conv=>whnf
 exact⟨.ret (.tup []),[some (pB l m e),some (sB (.mk 7 ⟨#[]⟩ ⟨#[]⟩ [] [] [] a0))],⟨m,hm,.inl ⟨rfl,v1,_,rfl⟩⟩,[0,1],rfl,rfl,aut2⟩
theorem sV(l:List Tok)(i d:Nat)(e a0:Int)(hl:l.length<=65536)(hi:i<=l.length)(hb:∀i,i<=l.length->KE 189 [.ptr 0 0,.tr (ti d)] [pB l i e] (PE l e (i+1) dv)):KE 177 [.ptr 0 0,.ptr 1 0,.tr (ti d)] [pB l i e,sB0 a0] (FE l e i):=by
 refine cp.new [2000001] hT hmix Tryz.func177 rfl (fun _ _=>JR) rfl fun hok=>?_;clear hok;conv=>whnf
 have hn:=jv l (i) e hl hi;have hnl:=gX (l:=l) (i:=i);generalize hereP l (i)=u at *
 cases h1:nameP l (i) with
 |true=>
  rw[h1] at hn;refine aa.au [0] [] (hn) ?_;intro _;conv=>whnf
  exact⟨.pan (cj (atP l (i) e) 2),[some (pB l (i) e),none],⟨i,hi,.inr ⟨⟨_,_,rfl⟩,rfl⟩⟩,[0,1],rfl,rfl,aut⟩
 |false=>
 rw[h1] at hn;have hnl:=hnl h1;refine aa.au [0] [] (hn) ?_;intro _;conv=>whnf
 refine af hT 3 ?_;conv=>whnf
 refine aj.by [0] [] (hb (i+1) hnl) ?_;rintro res bout ⟨m2,hm2,rfl,⟨a,rfl,⟨B,rfl⟩,v2⟩|⟨x,y,rfl⟩⟩;rotate_left
 ·refine⟨rfl,?_⟩;conv=>whnf
  intro _;conv=>whnf
  exact⟨.pan (cj x y),[some (pB l m2 e),none],⟨m2,hm2,.inr ⟨⟨_,_,rfl⟩,rfl⟩⟩,[0,1],rfl,rfl,aut⟩
 refine⟨rfl,?_⟩;conv=>whnf
 intro _;conv=>whnf
 have v2:i+1+1<=m2:=v2;exact⟨.ret (.tup []),[some (pB l m2 e),some (sB (.mk 5 u.text ⟨#[]⟩ [] B [] a0))],⟨m2,hm2,.inl ⟨rfl,JQ,_,rfl⟩⟩,[0,1],rfl,rfl,aut2⟩
theorem o6(l:List Tok)(i:Nat)(e a0:Int)(hl:l.length<=65536)(hi:i<=l.length):KE 170 [.ptr 0 0,.ptr 1 0] [pB l i e,sB0 a0] (FE l e (i+1)):=by
 refine cp.new [2000003,2000009] hT hmix Tryz.func170 rfl (fun _ _=>JR) rfl fun hok=>?_;clear hok;conv=>whnf
 have hn:=jv l (i) e hl hi;have hnl:=gX (l:=l) (i:=i);generalize hereP l (i)=u at *
 cases h1:nameP l (i) with
 |true=>
  rw[h1] at hn;refine aa.au [0] [] (hn) ?_;intro _;conv=>whnf
  exact⟨.pan (cj (atP l (i) e) 2),[some (pB l (i) e),none],⟨i,hi,.inr ⟨⟨_,_,rfl⟩,rfl⟩⟩,[0,1],rfl,rfl,aut⟩
 |false=>
 rw[h1] at hn;have hnl:=hnl h1;refine aa.au [0] [] (hn) ?_;intro _;conv=>whnf
 have hw:=dL l (i+1) e [⟨#[61]⟩] hl hnl JS;obtain⟨v1,hm⟩:=bO l [⟨#[61]⟩] (i+1) hnl;generalize wantP l (i+1) [⟨#[61]⟩]=W at *
 obtain⟨m,ok⟩:=W;cases ok with
 |false=>
  refine aa.au [0] [14] (hw) ?_;intro _;conv=>whnf
  exact⟨.pan (cj (atP l m e) 2),[some (pB l m e),none],⟨m,hm,.inr ⟨⟨_,_,rfl⟩,rfl⟩⟩,[0,1],rfl,rfl,aut⟩
 |true=>
 refine aa.au [0] [14] (hw) ?_;intro _;conv=>whnf
 refine aa.au [0] [] (eM l m e ⟨#[115,119,97,112]⟩ hl hm) ?_;intro _;conv=>whnf
 have tlt:=di (l:=l) (i:=m) (s:=⟨#[115,119,97,112]⟩);have v1:i+1<=m:=v1;cases h3:isP l m ⟨#[115,119,97,112]⟩ with
 |false=>
  conv=>whnf
  refine af hT 2 ?_;conv=>whnf
  refine aj.by [0] [] (lY l m e hl hm) ?_;rintro res bout ⟨m2,hm2,rfl,⟨a,rfl,⟨⟨yk,yo,yw,yn,yl,ya⟩,rfl⟩,v2⟩|⟨x,y,rfl⟩⟩;rotate_left
  ·refine⟨rfl,?_⟩;conv=>whnf
   intro _;conv=>whnf
   exact⟨.pan (cj x y),[some (pB l m2 e),none],⟨m2,hm2,.inr ⟨⟨_,_,rfl⟩,rfl⟩⟩,[0,1],rfl,rfl,aut⟩
  refine⟨rfl,?_⟩;conv=>whnf
  intro _;conv=>whnf
  have v2:m+1<=m2:=v2;have hw3:=dL l (m2) e [⟨#[59]⟩] hl hm2 JS;obtain⟨v13,hm3⟩:=bO l [⟨#[59]⟩] (m2) hm2;generalize wantP l (m2) [⟨#[59]⟩]=W at *
  obtain⟨m3,ok⟩:=W;cases ok with
  |false=>
   refine aa.au [0] [27] (hw3) ?_;intro _;conv=>whnf
   exact⟨.pan (cj (atP l m3 e) 2),[some (pB l m3 e),none],⟨m3,hm3,.inr ⟨⟨_,_,rfl⟩,rfl⟩⟩,[0,1],rfl,rfl,aut⟩
  |true=>
  refine aa.au [0] [27] (hw3) ?_;intro _;conv=>whnf
  exact⟨.ret (.tup []),[some (pB l m3 e),some (sB (.mk 1 u.text ⟨#[]⟩ [.mk yk yo yw yn yl ya] [] [] a0))],⟨m3,hm3,.inl ⟨rfl,by have:m2<=m3:=v13;omega,_,rfl⟩⟩,[0,1],rfl,rfl,aut2⟩
 |true=>
 have tlt:=tlt h3;conv=>whnf
 have hw2:=dL l (m+1) e [⟨#[40]⟩] hl tlt JS;obtain⟨v12,hm2⟩:=bO l [⟨#[40]⟩] (m+1) tlt;generalize wantP l (m+1) [⟨#[40]⟩]=W at *
 obtain⟨m2,ok⟩:=W;cases ok with
 |false=>
  refine aa.au [0] [24] (hw2) ?_;intro _;conv=>whnf
  exact⟨.pan (cj (atP l m2 e) 2),[some (pB l m2 e),none],⟨m2,hm2,.inr ⟨⟨_,_,rfl⟩,rfl⟩⟩,[0,1],rfl,rfl,aut⟩
 |true=>
 refine aa.au [0] [24] (hw2) ?_;intro _;conv=>whnf
 have hn:=jv l (m2) e hl hm2;have hnl:=gX (l:=l) (i:=m2);generalize hereP l (m2)=ub at *
 cases h1b:nameP l (m2) with
 |true=>
  rw[h1b] at hn;refine aa.au [0] [] (hn) ?_;intro _;conv=>whnf
  exact⟨.pan (cj (atP l (m2) e) 2),[some (pB l (m2) e),none],⟨m2,hm2,.inr ⟨⟨_,_,rfl⟩,rfl⟩⟩,[0,1],rfl,rfl,aut⟩
 |false=>
 rw[h1b] at hn;have hnlb:=hnl h1b;refine aa.au [0] [] (hn) ?_;intro _;conv=>whnf
 have hw4:=dL l (m2+1) e [⟨#[44]⟩] hl hnlb JS;obtain⟨v14,hm4⟩:=bO l [⟨#[44]⟩] (m2+1) hnlb;generalize wantP l (m2+1) [⟨#[44]⟩]=W at *
 obtain⟨m4,ok⟩:=W;cases ok with
 |false=>
  refine aa.au [0] [34] (hw4) ?_;intro _;conv=>whnf
  exact⟨.pan (cj (atP l m4 e) 2),[some (pB l m4 e),none],⟨m4,hm4,.inr ⟨⟨_,_,rfl⟩,rfl⟩⟩,[0,1],rfl,rfl,aut⟩
 |true=>
 refine aa.au [0] [34] (hw4) ?_;intro _;conv=>whnf
 refine af hT 2 ?_;conv=>whnf
 refine aj.by [0] [] (lY l m4 e hl hm4) ?_;rintro res bout ⟨m5,hm5,rfl,⟨a,rfl,⟨⟨yk,yo,yw,yn,yl,ya⟩,rfl⟩,v5⟩|⟨x,y,rfl⟩⟩;rotate_left
 ·refine⟨rfl,?_⟩;conv=>whnf
  intro _;conv=>whnf
  exact⟨.pan (cj x y),[some (pB l m5 e),none],⟨m5,hm5,.inr ⟨⟨_,_,rfl⟩,rfl⟩⟩,[0,1],rfl,rfl,aut⟩
 refine⟨rfl,?_⟩;conv=>whnf
 intro _;conv=>whnf
 have v5:m4+1<=m5:=v5;have hw6:=dL l (m5) e [⟨#[41]⟩,⟨#[59]⟩] hl hm5 JS;obtain⟨v16,hm6⟩:=bO l [⟨#[41]⟩,⟨#[59]⟩] (m5) hm5;generalize wantP l (m5) [⟨#[41]⟩,⟨#[59]⟩]=W at *
 obtain⟨m6,ok⟩:=W;cases ok with
 |false=>
  refine aa.au [0] [44] (hw6) ?_;intro _;conv=>whnf
  exact⟨.pan (cj (atP l m6 e) 2),[some (pB l m6 e),none],⟨m6,hm6,.inr ⟨⟨_,_,rfl⟩,rfl⟩⟩,[0,1],rfl,rfl,aut⟩
 |true=>
 refine aa.au [0] [44] (hw6) ?_;intro _;conv=>whnf
 exact⟨.ret (.tup []),[some (pB l m6 e),some (sB (.mk 2 u.text ub.text [.mk yk yo yw yn yl ya] [] [] a0))],⟨m6,hm6,.inl ⟨rfl,by have:m5<=m6:=v16;have:m2+1<=m4:=v14;have:m+1<=m2:=v12;omega,_,rfl⟩⟩,[0,1],rfl,rfl,aut2⟩
end Go.Proofs.YtapmdfcmpglieaaGreatDoor.am
set_option maxRecDepth 100000
set_option maxHeartbeats 4000000
namespace Go.Proofs.YtapmdfcmpglieaaGreatDoor.am
open Go Go.Proofs Go.RowKit
attribute [local irreducible] aj
def jQ:List (MK×AV):=[(.ks ⟨#[105,102]⟩,.ifc (HMod + 175) (.ptr 0 0)),(.ks ⟨#[119,104,105,108,101]⟩,.ifc (HMod + 176) (.ptr 0 0)),(.ks ⟨#[108,111,99,107]⟩,.ifc (HMod + 177) (.ptr 0 0)),(.ks ⟨#[112,114,105,110,116]⟩,.ifc (HMod + 178) (.ptr 0 0)),(.ks ⟨#[115,107,105,112]⟩,.ifc (HMod + 179) (.ptr 0 0))]
theorem yE(l:List Tok)(i:Nat)(e:Int):K 169 [.ptr 0 0] [pB l i e] (.ret (.mp 1)) [some (pB l i e),some (.mpa .string jQ)]:=by
 have hM:(mput (mput (mput (mput (mput ([]:List (MK×AV)) (.ks ⟨#[105,102]⟩) (.ifc (HMod + 175) (.ptr 0 0))) (.ks ⟨#[119,104,105,108,101]⟩) (.ifc (HMod + 176) (.ptr 0 0))) (.ks ⟨#[108,111,99,107]⟩) (.ifc (HMod + 177) (.ptr 0 0))) (.ks ⟨#[112,114,105,110,116]⟩) (.ifc (HMod + 178) (.ptr 0 0))) (.ks ⟨#[115,107,105,112]⟩) (.ifc (HMod + 179) (.ptr 0 0)))=jQ:=JR;refine Ctr.new [] hT hmix Tryz.func169 rfl (fun _ _=>JR) rfl fun hok=>?_;clear hok;conv=>whnf
 rw[hM];exact⟨[0,2],rfl,rfl,aut⟩
theorem forms_get(l:List Tok)(d:Nat)(e:Int)(hl:l.length<=65536)(hb:∀i,i<=l.length->KE 189 [.ptr 0 0,.tr (ti d)] [pB l i e] (PE l e (i+1) dv))(h:Nat)(t:ByteArray):
  ew (x4 [0,h] jQ) (.ks t)=none\/∃g,ew (x4 [0,h] jQ) (.ks t)=some (.ifc (HMod+g) (.ptr 0 0))/\(Nat.ble HMod (HMod+g)&&Nat.blt (HMod+g) (2*HMod))=true/\HMod+g-HMod=g /\
   ∀j,j<=l.length->∀a0,KE g [.ptr 0 0,.ptr 1 0,.tr (ti d)] [pB l j e,sB0 a0] (FE l e j):=by
 have E:ew (x4 [0,h] jQ) (.ks t)=(bif seq t ⟨#[105,102]⟩ then some (.ifc (HMod + 175) (.ptr 0 0)) else(bif seq t ⟨#[119,104,105,108,101]⟩ then some (.ifc (HMod + 176) (.ptr 0 0)) else(bif seq t ⟨#[108,111,99,107]⟩ then some (.ifc (HMod + 177) (.ptr 0 0)) else(bif seq t ⟨#[112,114,105,110,116]⟩ then some (.ifc (HMod + 178) (.ptr 0 0)) else(bif seq t ⟨#[115,107,105,112]⟩ then some (.ifc (HMod + 179) (.ptr 0 0)) else none))))):=rfl;rw[E];clear E;cases seq t (⟨#[105,102]⟩:ByteArray) with
 |true=>exact .inr ⟨175,rfl,rfl,rfl,fun j hj a0=>pN l j d e a0 hl hj hb⟩
 |false=>
 cases seq t (⟨#[119,104,105,108,101]⟩:ByteArray) with
 |true=>exact .inr ⟨176,rfl,rfl,rfl,fun j hj a0=>uP l j d e a0 hl hj hb⟩
 |false=>
 cases seq t (⟨#[108,111,99,107]⟩:ByteArray) with
 |true=>exact .inr ⟨177,rfl,rfl,rfl,fun j hj a0=>sV l j d e a0 hl hj hb⟩
 |false=>
 cases seq t (⟨#[112,114,105,110,116]⟩:ByteArray) with
 |true=>exact .inr ⟨178,rfl,rfl,rfl,fun j hj a0=>sJ l j d e a0 hl hj⟩
 |false=>
 cases seq t (⟨#[115,107,105,112]⟩:ByteArray) with
 |true=>exact .inr ⟨179,rfl,rfl,rfl,fun j hj a0=>xD l j d e a0 hl hj⟩
 |false=>
 exact .inl rfl
theorem rx(l:List Tok)(i d:Nat)(e:Int)(hl:l.length<=65536)(hi:i<=l.length)(hb:∀i,i<=l.length->KE 189 [.ptr 0 0,.tr (ti d)] [pB l i e] (PE l e (i+1) dv)):
  KE 160 [.ptr 0 0,.tr (ti d)] [pB l i e] (PE l e (i+1) AQ):=by
 refine cp.new [2000006,8,2000008] hT hmix Tryz.func160 rfl (fun _ _=>JR) rfl fun hok=>?_;clear hok;have hx:=jO l i e hl;have hlt:=cX (l:=l) (i:=i);conv=>whnf
 refine aa.au [0] [] (F7 l i e hl hi) ?_;intro _;conv=>whnf
 generalize atP l i e=a0;refine aa.au [0] [] (jc l i e hl hi) ?_;intro _;conv=>whnf
 generalize hereP l i=u at *
 obtain⟨uk,ut,uw,ua⟩:=u;dsimp only at hlt;refine bD.by (fun _:Unit=>⟨[(0,.ptr 0 0),(4,.ptr 1 0),(5,.ptr 2 0)],[(0,pB l i e),(1,sB0 0),(2,sB0 a0)],11⟩) (fun _=>True) ?_ ?_
 ·conv=>whnf
  refine aa.new [0] [] _ _ _ _ (yE l i e) rfl rfl rfl rfl aut aut rfl rfl ?_;conv=>whnf
  rcases forms_get l d e hl hb ([pB l i e].length+10+1) ut with hq|⟨g,hq,hgb,hgs,hg⟩
  ·rw[show ew (x4 [0,[pB l i e].length+10+1] jQ) (MK.ks (Tok.mk uk ut uw ua).text)=none from hq];conv=>whnf
   refine drT ?_;conv=>whnf
   exact⟨(),[0,_,_],[],Sub.aw,J0⟩
  ·rw[show ew (x4 [0,[pB l i e].length+10+1] jQ) (MK.ks (Tok.mk uk ut uw ua).text)=some (.ifc (HMod+g) (.ptr 0 0)) from hq];conv=>whnf
   refine drT ?_;conv=>whnf
   cases h2:(uk==2) with
   |false=>
    conv=>whnf
    exact⟨(),[0,_,_],[],Sub.aw,J0⟩
   |true=>
    have hi2:i<l.length:=hlt (by intro h;rw[h] at h2;exact absurd h2 JS);conv=>whnf
    refine aa.au [0] [] (hx hi2) ?_;intro _;conv=>whnf
    refine af hT 2 ?_;conv=>whnf
    rw[hgb,hgs];refine aj.by [0,5] [] (hg (i+1) hi2 a0) ?_;rintro res bout ⟨m,hm,⟨rfl,hlo,⟨sk,sn,so,se,sb,sl,sa⟩,rfl⟩|⟨⟨x,y,rfl⟩,rfl⟩⟩
    ·refine⟨rfl,?_⟩;conv=>whnf
     intro _;conv=>whnf
     exact⟨.ret (Stmt.mk sk sn so se sb sl sa).av,_,⟨m,hm,rfl,.inl ⟨_,rfl,⟨_,rfl⟩,JQ⟩⟩,[0],rfl,rfl,aut⟩
    ·refine⟨rfl,?_⟩;conv=>whnf
     intro _;conv=>whnf
     exact⟨.pan (cj x y),[some (pB l m e)],⟨m,hm,rfl,.inr ⟨_,_,rfl⟩⟩,[0],rfl,rfl,aut⟩
 rintro - - -
 conv=>whnf
 refine af hT 1 ?_;conv=>whnf
 refine aj.by [0,2] [] (o6 l i e a0 hl hi) ?_;rintro res bout ⟨m,hm,⟨rfl,hlo,⟨sk,sn,so,se,sb,sl,sa⟩,rfl⟩|⟨⟨x,y,rfl⟩,rfl⟩⟩
 ·refine⟨rfl,?_⟩;conv=>whnf
  intro _;conv=>whnf
  exact⟨.ret (Stmt.mk sk sn so se sb sl sa).av,_,⟨m,hm,rfl,.inl ⟨_,rfl,⟨_,rfl⟩,JQ⟩⟩,[0],rfl,rfl,aut⟩
 ·refine⟨rfl,?_⟩;conv=>whnf
  intro _;conv=>whnf
  exact⟨.pan (cj x y),[some (pB l m e)],⟨m,hm,rfl,.inr ⟨_,_,rfl⟩⟩,[0],rfl,rfl,aut⟩
end Go.Proofs.YtapmdfcmpglieaaGreatDoor.am
set_option maxRecDepth 100000
set_option maxHeartbeats 4000000
namespace Go.Proofs.YtapmdfcmpglieaaGreatDoor.am
open Go Go.Proofs Go.RowKit
attribute [local irreducible] aj
theorem sW(out:List Stmt)(d:Stmt):(Stmt.rows out).take out.length++[d.cells]=Stmt.rows (out++[d]):=by rw[vG (Ee (bz out)),Stmt.rows_eq,Stmt.rows_eq,FP];rfl
theorem Fr(l:List Stmt):l.length<=(Stmt.rows l).length/\ed l=.lst 7 120 ((Stmt.rows l).take l.length):=
 ⟨Ee (bz l).symm,E8 (Tr.lst 7 120) (vG (Ee (bz l))).symm⟩
theorem qp(l:List Tok)(i0 d:Nat)(e:Int)(hl:l.length<=65536)(hi:i0<=l.length)(hs:∀i,i<=l.length->KE 160 [.ptr 0 0,.tr (ti d)] [pB l i e] (PE l e (i+1) AQ)):
  KE 138 [.ptr 0 0,.tr (ti d)] [pB l i0 e] (PE l e (i0+1) dv):=by
 refine cp.new [2000003] hT hmix Tryz.func138 rfl (fun _ _=>JR) rfl fun hok=>?_;clear hok;conv=>whnf
 refine aq.by (fun x:Nat×List Stmt=>⟨[(0,.ptr 0 0),(1,.tr (ti d)),(5,.sl 1 x.2.length)],[(0,pB l x.1 e),(1,.vec 196 7 120 (Stmt.rows x.2))],11⟩) (fun x=>i0<=x.1/\x.1<=l.length/\x.2.length<=x.1) (fun x=>l.length-x.1) (i0,[]) [0] [1] (Sub.mk' rfl aut ⟨aut,⟨rfl,196,7,120,rfl,JQ⟩,J0⟩ rfl rfl) ⟨t9 _,hi,x5 _⟩ ?_;rintro⟨j,out⟩ ⟨hlo,hj,hout⟩ -
 dsimp only at hlo hj hout;have hol:(Stmt.rows out).length=out.length:=bz out;conv=>whnf
 refine aa.au [0] [] (eM l j e ⟨#[125]⟩ hl hj) ?_;intro _;conv=>whnf
 have tlt:=di (l:=l) (i:=j) (s:=⟨#[125]⟩);cases h2:isP l j ⟨#[125]⟩ with
 |true=>
  conv=>whnf
  refine exT ?_;conv=>whnf
  exact⟨.ret (.tr (ed out)),_,⟨j+1,tlt h2,rfl,.inl ⟨_,rfl,⟨out,rfl⟩,JQ⟩⟩,[0],rfl,rfl,⟨⟨rfl,Fr out⟩,aut,J0⟩⟩
 |false=>
 conv=>whnf
 refine af hT 3 ?_;conv=>whnf
 refine aj.by [0] [] (hs j hj) ?_;rintro res bout ⟨m,hm,rfl,⟨a,rfl,⟨⟨sk,sn,so,se,sb,sl,sa⟩,rfl⟩,hlo2⟩|⟨x,y,rfl⟩⟩;rotate_left
 ·refine⟨rfl,?_⟩;conv=>whnf
  intro _;conv=>whnf
  exact⟨.pan (cj x y),_,⟨m,hm,rfl,.inr ⟨_,_,rfl⟩⟩,[0],rfl,rfl,aut⟩
 refine⟨rfl,?_⟩;conv=>whnf
 intro _;conv=>whnf
 refine⟨rfl,rfl,rfl,Ee hol.symm,by show(out.length+1)*120<=150000000000000;omega,neL rfl,?_⟩;conv=>whnf
 have hlo2:j+1<=m:=hlo2;exact⟨(m,out++[Stmt.mk sk sn so se sb sl sa]),[0,_],[],Sub.mk' rfl ⟨JY,JZ,⟨rfl,by show out.length+1=(out++[_]).length;rw[uR];rfl⟩,J0⟩ ⟨⟨rfl,JZ,JZ,JZ,J0⟩,⟨rfl,rfl,rfl,sW out (Stmt.mk sk sn so se sb sl sa)⟩,J0⟩ rfl rfl,⟨by show i0<=m;omega,hm,by show(out++[_]).length<=m;rw[uR];show out.length+1<=m;omega⟩,by show l.length-m<l.length-j;omega⟩
theorem nA(l:List Tok)(i d:Nat)(e:Int)(hl:l.length<=65536)(hi:i<=l.length)(hd:d<=64)(hr:d<64->∀i,i<=l.length->KE 138 [.ptr 0 0,.tr (ti (d+1:Nat))] [pB l i e] (PE l e (i+1) dv)):
  KE 189 [.ptr 0 0,.tr (ti d)] [pB l i e] (PE l e (i+1) dv):=by
 refine cp.new [3,2000004] hT hmix Tryz.func189 rfl (fun _ _=>JR) rfl fun hok=>?_;clear hok;have hdw:IntKind.i64.wrap ((d:Int)+1)=((d+1:Nat):Int):=by rw[w64 JQ JQ];omega
 conv=>whnf
 refine bD.by (fun _:Unit=>⟨[(0,.ptr 0 0),(1,.tr (ti d))],[(0,pB l i e)],11⟩) (fun _=>isP l i ⟨#[123]⟩=true->d<64) ?_ ?_
 ·conv=>whnf
  refine aa.au [0] [] (sO l i e ⟨#[123]⟩ hl hi) ?_;intro _;conv=>whnf
  cases h1:isP l i ⟨#[123]⟩ with
  |false=>
   conv=>whnf
   exact⟨(),[0],[],Sub.aw,fun h=>absurd h JS⟩
  |true=>
  conv=>whnf
  cases h2:((d:Int)==64) with
  |true=>
   conv=>whnf
   refine aa.au [0] [] (iw l i e 3 hl hi) ?_;intro _;conv=>whnf
   exact⟨.pan (cj (atP l i e) 3),_,⟨i,hi,rfl,.inr ⟨_,_,rfl⟩⟩,[0],rfl,rfl,aut⟩
  |false=>
  conv=>whnf
  exact⟨(),[0],[],Sub.aw,fun _=>by rcases Nat.lt_or_eq_of_le hd with h|h;exact h;subst h;exact absurd h2 JS⟩
 rintro-hd2 -
 conv=>whnf
 have hw:=dL l i e [⟨#[123]⟩] hl hi JS;have hW:wantP l i [⟨#[123]⟩]=(bif isP l i ⟨#[123]⟩ then(i+1,true) else(i,false)):=rfl;have hil:=di (l:=l) (i:=i) (s:=⟨#[123]⟩);rw[hW] at hw;cases h1:isP l i ⟨#[123]⟩ with
 |false=>
  rw[h1] at hw;refine aa.au [0] [12] (hw) ?_;intro _;conv=>whnf
  exact⟨.pan (cj (atP l i e) 2),_,⟨i,hi,rfl,.inr ⟨_,_,rfl⟩⟩,[0],rfl,rfl,aut⟩
 |true=>
 rw[h1] at hw;have hi2:=hil h1;have hr:=hr (hd2 h1) (i+1) hi2;refine aa.au [0] [12] (hw) ?_;intro _;conv=>whnf
 refine af hT 3 ?_;conv=>whnf
 rw[hdw];refine aj.by [0] [] hr ?_;rintro res bout ⟨m,hm,rfl,⟨a,rfl,⟨L,rfl⟩,hlo2⟩|⟨x,y,rfl⟩⟩
 ·refine⟨rfl,?_⟩;conv=>whnf
  intro _;conv=>whnf
  exact⟨.ret (.tr (ed L)),_,⟨m,hm,rfl,.inl ⟨_,rfl,⟨L,rfl⟩,JQ⟩⟩,[0],rfl,rfl,aut⟩
 ·refine⟨rfl,?_⟩;conv=>whnf
  intro _;conv=>whnf
  exact⟨.pan (cj x y),_,⟨m,hm,rfl,.inr ⟨_,_,rfl⟩⟩,[0],rfl,rfl,aut⟩
theorem xi(l:List Tok)(e:Int)(hl:l.length<=65536):∀(n d:Nat),d+n=64->∀i,i<=l.length->KE 189 [.ptr 0 0,.tr (ti d)] [pB l i e] (PE l e (i+1) dv)
 |0,d,hd,i,hi=>nA l i d e hl hi JQ fun h=>absurd h JQ
 |n+1,d,hd,i,hi=>nA l i d e hl hi JQ fun _ i hi=>qp l i (d+1) e hl hi fun i hi=>rx l i (d+1) e hl hi (xi l e hl n (d+1) JQ)
theorem BI(l:List Tok)(i:Nat)(e:Int)(hl:l.length<=65536)(hi:i<=l.length):KE 138 [.ptr 0 0,.tr (ti 1)] [pB l i e] (PE l e (i+1) dv):=
 qp l i 1 e hl hi fun i hi=>rx l i 1 e hl hi (xi l e hl 63 1 rfl)
end Go.Proofs.YtapmdfcmpglieaaGreatDoor.am
set_option maxRecDepth 100000
set_option maxHeartbeats 4000000
namespace Go.Proofs.YtapmdfcmpglieaaGreatDoor.am
open Go Go.Proofs Go.RowKit
attribute [local irreducible] aj
def zd(a:AV):Prop:=∃t:Thread,a=t.av
theorem qt(l:List Tok)(i:Nat)(e:Int)(hl:l.length<=65536)(hi:i<=l.length):
  KE 90 [.ptr 0 0,.ifc (HMod + 92) (.ptr 0 0)] [pB l i e] (PE l e (i+1) fun a=>∃d:List Decl,a=.tr (ae d)/\d.length<=65536):=
 xg _ l i e hl hi (fun i hi=>Af l i e hl hi) rfl rfl
theorem Ai(l:List Tok)(i:Nat)(e:Int)(hl:l.length<=65536)(hi:i<=l.length):
  KE 90 [.ptr 0 0,.ifc (HMod + 91) (.ptr 0 0)] [pB l i e] (PE l e (i+1) fun a=>∃d:List Decl,a=.tr (ae d)/\d.length<=65536):=
 xg _ l i e hl hi (fun i hi=>wu l i e hl hi) rfl rfl
theorem zb(l:List Tok)(i0:Nat)(e:Int)(hl:l.length<=65536)(hi:i0<=l.length):KE 94 [.ptr 0 0] [pB l i0 e] (PE l e (i0+1) zd):=by
 refine cp.new [2000005,2000006] hT hmix Tryz.func94 rfl (fun _ _=>JR) rfl fun hok=>?_;clear hok;have hn:=jv l i0 e hl hi;have hnl:=gX (l:=l) (i:=i0);generalize hereP l i0=u at *
 conv=>whnf
 cases h1:nameP l i0 with
 |true=>
  rw[h1] at hn;refine aa.au [0] [] (hn) ?_;intro _;conv=>whnf
  exact⟨.pan (cj (atP l i0 e) 2),_,⟨i0,hi,rfl,.inr ⟨_,_,rfl⟩⟩,[0],rfl,rfl,aut⟩
 |false=>
 rw[h1] at hn;have hnl:=hnl h1;refine aa.au [0] [] (hn) ?_;intro _;conv=>whnf
 have hw:=dL l (i0+1) e [⟨#[123]⟩] hl hnl JS;obtain⟨v1,hm⟩:=bO l [⟨#[123]⟩] (i0+1) hnl;generalize wantP l (i0+1) [⟨#[123]⟩]=W at *
 obtain⟨m,ok⟩:=W;cases ok with
 |false=>
  refine aa.au [0] [14] (hw) ?_;intro _;conv=>whnf
  exact⟨.pan (cj (atP l m e) 2),_,⟨m,hm,rfl,.inr ⟨_,_,rfl⟩⟩,[0],rfl,rfl,aut⟩
 |true=>
 refine aa.au [0] [14] (hw) ?_;intro _;conv=>whnf
 have v1:i0+1<=m:=v1;refine aq.by (fun x:Nat×List Decl=>⟨[(0,.ptr 0 0),(2,.ptr 1 0),(4,.ptr 2 0)],[(0,pB l x.1 e),(1,.cells 142 [.tr (ts ⟨#[]⟩),.tr (.v (.slice none 0 0)),.tr (.v (.slice none 0 0)),.tr (ti 0)]),(2,.cells 142 [.tr (ts u.text),.sl 3 x.2.length,.tr (.v (.slice none 0 0)),.tr (ti u.at_)]),(3,.vec 200 3 32 (x.2.map Decl.cells))],11⟩)
  (fun x=>i0+1<=x.1/\x.1<=l.length/\x.2.length<=x.1*65536) (fun x=>l.length-x.1) (m,[]) [0,_,_] [3] (Sub.mk' rfl ⟨⟨rfl,rfl⟩,⟨rfl,rfl⟩,⟨rfl,rfl⟩,trivial⟩ ⟨⟨rfl,.inl rfl,.inl rfl,.inl rfl,trivial⟩,⟨rfl,.inl rfl,.inl rfl,.inl rfl,.inl rfl,trivial⟩,⟨rfl,.inl rfl,⟨rfl,rfl,rfl,rfl⟩,.inl rfl,.inl rfl,trivial⟩,⟨rfl,200,3,32,rfl,JQ⟩,trivial⟩ rfl rfl) ⟨v1,hm,x5 _⟩ ?_
 clear v1 hm hw hn;rintro⟨j,out⟩ ⟨hlo,hj,hout⟩ -
 dsimp only at hlo hj hout;have hol:(out.map Decl.cells).length=out.length:=ad ..;conv=>whnf
 refine aa.au [0] [] (eM l j e ⟨#[108,111,99,97,108]⟩ hl hj) ?_;intro _;conv=>whnf
 have tlt:=di (l:=l) (i:=j) (s:=⟨#[108,111,99,97,108]⟩);cases h2:isP l j ⟨#[108,111,99,97,108]⟩ with
 |false=>
  conv=>whnf
  refine exT ?_;conv=>whnf
  refine af hT 1 ?_;conv=>whnf
  refine aj.by [0] [] (BI l j e hl hj) ?_;rintro res bout ⟨m,hm,rfl,⟨a,rfl,⟨L,rfl⟩,hlo2⟩|⟨x,y,rfl⟩⟩
  ·refine⟨rfl,?_⟩;conv=>whnf
   intro _;conv=>whnf
   have hlo2:j+1<=m:=hlo2;exact⟨.ret (Thread.mk u.text out L u.at_).av,_,⟨m,hm,rfl,.inl ⟨_,rfl,⟨_,rfl⟩,JQ⟩⟩,[0],rfl,rfl,⟨⟨JZ,⟨rfl,DO out⟩,JZ,JZ,J0⟩,aut,J0⟩⟩
  ·refine⟨rfl,?_⟩;conv=>whnf
   intro _;conv=>whnf
   exact⟨.pan (cj x y),_,⟨m,hm,rfl,.inr ⟨_,_,rfl⟩⟩,[0],rfl,rfl,aut⟩
 |true=>
 have tlt:=tlt h2;conv=>whnf
 refine cK hT hmix 5 ?_;conv=>whnf
 refine⟨JR,?_⟩;conv=>whnf
 refine aj.by [0] [] (qt l (j+1) e hl tlt) ?_;rintro res bout ⟨m,hm,rfl,⟨a,rfl,⟨d,rfl,hdl⟩,hlo2⟩|⟨x,y,rfl⟩⟩;rotate_left
 ·refine⟨rfl,?_⟩;conv=>whnf
  intro _;conv=>whnf
  refine⟨rfl,?_⟩;conv=>whnf
  exact⟨.pan (cj x y),_,⟨m,hm,rfl,.inr ⟨_,_,rfl⟩⟩,[0],rfl,rfl,aut⟩
 refine⟨rfl,?_⟩;conv=>whnf
 intro _;conv=>whnf
 have hlo2:j+1+1<=m:=hlo2;have hdl2:(d.map Decl.cells).length=d.length:=ad ..;refine⟨rfl,rfl,rfl,Ee hol.symm,by show(out.length+(d.map Decl.cells).length)*32<=150000000000000;omega,fun q hq=>(by cases hq),?_⟩;conv=>whnf
 refine⟨JR,?_⟩;conv=>whnf
 exact⟨(m,out++d),[0,1,2,_],[],Sub.mk' rfl ⟨JY,JY,JY,J0⟩ ⟨⟨rfl,JZ,JZ,JZ,J0⟩,⟨rfl,JZ,JZ,JZ,JZ,J0⟩,⟨rfl,JZ,⟨rfl,by show out.length+(d.map Decl.cells).length=(out++d).length;rw[uR,hdl2]⟩,JZ,JZ,J0⟩,⟨rfl,rfl,rfl,by rw[FP];show(out.map Decl.cells).take out.length++_=_;rw[vG (Ee hol)]⟩,J0⟩ rfl rfl,⟨by show i0+1<=m;omega,hm,by show(out++d).length<=m*65536;rw[uR];omega⟩,by show l.length-m<l.length-j;omega⟩
end Go.Proofs.YtapmdfcmpglieaaGreatDoor.am
