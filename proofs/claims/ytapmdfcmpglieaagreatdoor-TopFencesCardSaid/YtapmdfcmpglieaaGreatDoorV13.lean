/- Contracts of the parser: programs. Contracts of the parser: a parser at a text's beginning. Contract of parse.Parse: any text. Contract of -/
import Derived.Test.YtapmdfcmpglieaaGreatDoorV12
import Derived.Test.YtapmdfcmpglieaaGreatDoorV5
import Derived.Test.YtapmdfcmpglieaaGreatDoorV11
import Derived.Test.YtapmdfcmpglieaaGreatDoorV8
import Derived.Test.YtapmdfcmpglieaaGreatDoorV9
set_option maxRecDepth 100000
set_option maxHeartbeats 4000000
set_option linter.all false
namespace Go.Proofs.YtapmdfcmpglieaaGreatDoor.am
open Go Go.Proofs Go.RowKit
attribute [local irreducible] aj
theorem pn1{p j m:Nat}(h:p<=j*65536)(h2:j+1+1<=m):p<=m*65536:=GB h (Eb _ JQ)
theorem pn2{p d j m:Nat}(h:p<=j*65536)(hd:d<=65536)(h2:j+1+1<=m):p+d<=m*65536:=GB (Nat.add_le_add h hd) (by rw[<-G4];exact Eb _ (Nat.le_of_succ_le h2))
theorem pn3{r j m:Nat}(h:r<=j)(h2:j+1+1<=m):r<=m:=JQ
theorem pn4{n j m:Nat}(h:m<=n)(h2:j+1+1<=m):n-m<n-j:=JQ
def Fz(a:AV):Prop:=∃p:Prg,a=p.av
theorem D2(l:List Thread):l.length<=(l.map Thread.cells).length/\aA l=.lst 4 72 ((l.map Thread.cells).take l.length):=
 ⟨Ee (ad ..).symm,E8 (Tr.lst 4 72) (vG (Ee (ad ..))).symm⟩
theorem xu(l:List Tok)(i0:Nat)(e:Int)(hl:l.length<=65536)(hi:i0<=l.length):KE 39 [.ptr 0 0] [pB l i0 e] (PE l e i0 Fz):=by
 refine cp.new [2000004,2000006,2000009] hT hmix Tryz.func39 rfl (fun _ _=>JR) rfl fun hok=>?_;clear hok;conv=>whnf
 refine aq.by (fun x:Nat×List Decl×List Decl×List Thread=>⟨[(0,.ptr 0 0),(2,.ptr 1 0),(3,.ptr 2 0)],[(0,pB l x.1 e),(1,.cells 63 [.tr (.v (.slice none 0 0)),.tr (.v (.slice none 0 0)),.tr (.v (.slice none 0 0))]),(2,.cells 63 [.sl 3 x.2.1.length,.sl 4 x.2.2.1.length,.sl 5 x.2.2.2.length]),(3,.vec 200 3 32 (x.2.1.map Decl.cells)),(4,.vec 200 3 32 (x.2.2.1.map Decl.cells)),(5,.vec 142 4 72 (x.2.2.2.map Thread.cells))],11⟩)
  (fun x=>i0<=x.1/\x.1<=l.length/\x.2.1.length<=x.1*65536/\x.2.2.1.length<=x.1*65536/\x.2.2.2.length<=x.1) (fun x=>l.length-x.1) (i0,[],[],[]) [0,_,_] [3,4,5] (Sub.mk' rfl ⟨⟨rfl,rfl⟩,⟨rfl,rfl⟩,⟨rfl,rfl⟩,trivial⟩ ⟨⟨rfl,.inl rfl,.inl rfl,.inl rfl,trivial⟩,⟨rfl,.inl rfl,.inl rfl,.inl rfl,trivial⟩,⟨rfl,⟨rfl,rfl,rfl,rfl⟩,⟨rfl,rfl,rfl,rfl⟩,⟨rfl,rfl,rfl,rfl⟩,trivial⟩,⟨rfl,200,3,32,rfl,JQ⟩,⟨rfl,200,3,32,rfl,JQ⟩,⟨rfl,142,4,72,rfl,JQ⟩,trivial⟩ rfl rfl) ⟨t9 _,hi,x5 _,x5 _,x5 _⟩ ?_
 rintro⟨j,P,Q,R⟩ ⟨hlo,hj,hP,hQ,hR⟩ -
 dsimp only at hlo hj hP hQ hR;have hoP:(P.map Decl.cells).length=P.length:=ad ..;have hoQ:(Q.map Decl.cells).length=Q.length:=ad ..;have hoR:(R.map Thread.cells).length=R.length:=ad ..;conv=>whnf
 refine aa.au [0] [] (eM l j e ⟨#[115,104,97,114,101,100]⟩ hl hj) ?_;intro _;conv=>whnf
 have tlt:=di (l:=l) (i:=j) (s:=⟨#[115,104,97,114,101,100]⟩);cases h2:isP l j ⟨#[115,104,97,114,101,100]⟩ with
 |true=>
  replace tlt:=tlt h2
  conv=>whnf
  refine cK hT hmix 5 ?_;conv=>whnf
  refine⟨JR,?_⟩;conv=>whnf
  refine aj.by [0] [] (Ai l (j+1) e hl tlt) ?_;rintro res bout ⟨m,hm,rfl,⟨a,rfl,⟨d,rfl,hdl⟩,hlo2⟩|⟨x,y,rfl⟩⟩;rotate_left
  ·refine⟨rfl,?_⟩;conv=>whnf
   intro _;conv=>whnf
   refine⟨rfl,?_⟩;conv=>whnf
   exact⟨.pan (cj x y),_,⟨m,hm,rfl,.inr ⟨_,_,rfl⟩⟩,[0],rfl,rfl,aut⟩
  refine⟨rfl,?_⟩;conv=>whnf
  intro _;conv=>whnf
  have hlo2:j+1+1<=m:=hlo2;have hdl2:(d.map Decl.cells).length=d.length:=ad ..;refine⟨rfl,rfl,rfl,Ee hoP.symm,by show(P.length+(d.map Decl.cells).length)*32<=150000000000000;omega,fun q hq=>(by cases hq),?_⟩;conv=>whnf
  refine⟨JR,?_⟩;conv=>whnf
  have q1:(P++d).length<=m*65536:=by rw[uR];exact pn2 hP hdl hlo2
  have q2:Q.length<=m*65536:=pn1 hQ hlo2;have q3:R.length<=m:=pn3 hR hlo2;have q4:i0<=m:=pn3 hlo hlo2;have q5:l.length-m<l.length-j:=pn4 hm hlo2;refine⟨(m,P++d,Q,R),[0,1,2,_,4,5],[],Sub.mk' rfl ⟨JY,JY,JY,J0⟩ ⟨⟨rfl,JZ,JZ,JZ,J0⟩,⟨rfl,JZ,JZ,JZ,J0⟩,⟨rfl,⟨rfl,by show P.length+(d.map Decl.cells).length=(P++d).length;rw[uR,hdl2]⟩,JY,JY,J0⟩,⟨rfl,rfl,rfl,by rw[FP];show(P.map Decl.cells).take P.length++_=_;rw[vG (Ee hoP)]⟩,⟨rfl,rfl,rfl,rfl⟩,⟨rfl,rfl,rfl,rfl⟩,J0⟩ rfl rfl,?_,q5⟩;exact⟨q4,hm,q1,q2,q3⟩
 |false=>
 clear tlt;conv=>whnf
 refine aa.au [0] [] (eM l j e ⟨#[108,111,99,107]⟩ hl hj) ?_;intro _;conv=>whnf
 have tlt:=di (l:=l) (i:=j) (s:=⟨#[108,111,99,107]⟩);cases h2:isP l j ⟨#[108,111,99,107]⟩ with
 |true=>
  replace tlt:=tlt h2
  conv=>whnf
  refine cK hT hmix 5 ?_;conv=>whnf
  refine⟨JR,?_⟩;conv=>whnf
  refine aj.by [0] [] (qt l (j+1) e hl tlt) ?_;rintro res bout ⟨m,hm,rfl,⟨a,rfl,⟨d,rfl,hdl⟩,hlo2⟩|⟨x,y,rfl⟩⟩;rotate_left
  ·refine⟨rfl,?_⟩;conv=>whnf
   intro _;conv=>whnf
   refine⟨rfl,?_⟩;conv=>whnf
   exact⟨.pan (cj x y),_,⟨m,hm,rfl,.inr ⟨_,_,rfl⟩⟩,[0],rfl,rfl,aut⟩
  refine⟨rfl,?_⟩;conv=>whnf
  intro _;conv=>whnf
  have hlo2:j+1+1<=m:=hlo2;have hdl2:(d.map Decl.cells).length=d.length:=ad ..;refine⟨rfl,rfl,rfl,Ee hoQ.symm,by show(Q.length+(d.map Decl.cells).length)*32<=150000000000000;omega,fun q hq=>(by cases hq),?_⟩;conv=>whnf
  refine⟨JR,?_⟩;conv=>whnf
  have q1:P.length<=m*65536:=pn1 hP hlo2;have q2:(Q++d).length<=m*65536:=by rw[uR];exact pn2 hQ hdl hlo2
  have q3:R.length<=m:=pn3 hR hlo2;have q4:i0<=m:=pn3 hlo hlo2;have q5:l.length-m<l.length-j:=pn4 hm hlo2;refine⟨(m,P,Q++d,R),[0,1,2,3,_,5],[],Sub.mk' rfl ⟨JY,JY,JY,J0⟩ ⟨⟨rfl,JZ,JZ,JZ,J0⟩,⟨rfl,JZ,JZ,JZ,J0⟩,⟨rfl,JY,⟨rfl,by show Q.length+(d.map Decl.cells).length=(Q++d).length;rw[uR,hdl2]⟩,JY,J0⟩,⟨rfl,rfl,rfl,rfl⟩,⟨rfl,rfl,rfl,by rw[FP];show(Q.map Decl.cells).take Q.length++_=_;rw[vG (Ee hoQ)]⟩,⟨rfl,rfl,rfl,rfl⟩,J0⟩ rfl rfl,?_,q5⟩;exact⟨q4,hm,q1,q2,q3⟩
 |false=>
 clear tlt;conv=>whnf
 refine aa.au [0] [] (sO l j e ⟨#[116,104,114,101,97,100]⟩ hl hj) ?_;intro _;conv=>whnf
 cases h2:isP l j ⟨#[116,104,114,101,97,100]⟩ with
 |false=>
  conv=>whnf
  cases h9:decide ((j:Int)<((l.map Tok.cells).length:Int)) with
  |true=>
   conv=>whnf
   refine drT ?_;conv=>whnf
   refine aa.au [0] [] (iw l j e 2 hl hj) ?_;intro _;conv=>whnf
   exact⟨.pan (cj (atP l j e) 2),_,⟨j,hj,rfl,.inr ⟨_,_,rfl⟩⟩,[0],rfl,rfl,aut⟩
  |false=>
   conv=>whnf
   refine drT ?_;conv=>whnf
   exact⟨.ret (Prg.mk P Q R).av,_,⟨j,hj,rfl,.inl ⟨_,rfl,⟨_,rfl⟩,hlo⟩⟩,[0],rfl,rfl,⟨⟨⟨rfl,DO P⟩,⟨rfl,DO Q⟩,⟨rfl,D2 R⟩,J0⟩,aut,J0⟩⟩
 |true=>
 conv=>whnf
 refine aq.by (fun x:Nat×List Decl×List Decl×List Thread=>⟨[(0,.ptr 0 0),(2,.ptr 1 0),(3,.ptr 2 0)],[(0,pB l x.1 e),(1,.cells 63 [.tr (.v (.slice none 0 0)),.tr (.v (.slice none 0 0)),.tr (.v (.slice none 0 0))]),(2,.cells 63 [.sl 3 x.2.1.length,.sl 4 x.2.2.1.length,.sl 5 x.2.2.2.length]),(3,.vec 200 3 32 (x.2.1.map Decl.cells)),(4,.vec 200 3 32 (x.2.2.1.map Decl.cells)),(5,.vec 142 4 72 (x.2.2.2.map Thread.cells))],11⟩)
  (fun x=>i0<=x.1/\x.1<=l.length/\x.2.1.length<=x.1*65536/\x.2.2.1.length<=x.1*65536/\x.2.2.2.length<=x.1) (fun x=>l.length-x.1) (j,P,Q,R) [0,1,2,3,4,5] [] Sub.aw ⟨hlo,hj,hP,hQ,hR⟩ ?_
 clear hlo hj hP hQ hR hoP hoQ hoR;rintro⟨j,P,Q,R⟩ ⟨hlo,hj,hP,hQ,hR⟩ -
 dsimp only at hlo hj hP hQ hR;have hoP:(P.map Decl.cells).length=P.length:=ad ..;have hoQ:(Q.map Decl.cells).length=Q.length:=ad ..;have hoR:(R.map Thread.cells).length=R.length:=ad ..;conv=>whnf
 refine aa.au [0] [] (eM l j e ⟨#[116,104,114,101,97,100]⟩ hl hj) ?_;intro _;conv=>whnf
 have tlt:=di (l:=l) (i:=j) (s:=⟨#[116,104,114,101,97,100]⟩);cases h3:isP l j ⟨#[116,104,114,101,97,100]⟩ with
 |false=>
  conv=>whnf
  refine exT ?_;conv=>whnf
  cases h9:decide (((bif false then j+1 else j:Nat):Int)<((l.map Tok.cells).length:Int)) with
  |true=>
   conv=>whnf
   refine drT ?_;conv=>whnf
   refine aa.au [0] [] (iw l j e 2 hl hj) ?_;intro _;conv=>whnf
   exact⟨.pan (cj (atP l j e) 2),_,⟨j,hj,rfl,.inr ⟨_,_,rfl⟩⟩,[0],rfl,rfl,aut⟩
  |false=>
   conv=>whnf
   refine drT ?_;conv=>whnf
   exact⟨.ret (Prg.mk P Q R).av,_,⟨j,hj,rfl,.inl ⟨_,rfl,⟨_,rfl⟩,hlo⟩⟩,[0],rfl,rfl,⟨⟨⟨rfl,DO P⟩,⟨rfl,DO Q⟩,⟨rfl,D2 R⟩,J0⟩,aut,J0⟩⟩
 |true=>
 replace tlt:=tlt h3
 conv=>whnf
 refine cK hT hmix 3 ?_;conv=>whnf
 refine⟨JR,?_⟩;conv=>whnf
 refine aj.by [0] [] (zb l (j+1) e hl tlt) ?_;rintro res bout ⟨m,hm,rfl,⟨a,rfl,⟨d,rfl⟩,hlo2⟩|⟨x,y,rfl⟩⟩;rotate_left
 ·refine⟨rfl,?_⟩;conv=>whnf
  intro _;conv=>whnf
  refine⟨rfl,?_⟩;conv=>whnf
  exact⟨.pan (cj x y),_,⟨m,hm,rfl,.inr ⟨_,_,rfl⟩⟩,[0],rfl,rfl,aut⟩
 refine⟨rfl,?_⟩;conv=>whnf
 intro _;conv=>whnf
 have hlo2:j+1+1<=m:=hlo2;refine⟨rfl,rfl,rfl,Ee hoR.symm,by show(R.length+1)*72<=150000000000000;omega,neL rfl,?_⟩;conv=>whnf
 refine⟨JR,?_⟩;conv=>whnf
 have q1:P.length<=m*65536:=pn1 hP hlo2;have q2:Q.length<=m*65536:=pn1 hQ hlo2;have q3:(R++[d]).length<=m:=by rw[uR];exact GB (I5 hR) (Nat.le_of_succ_le hlo2)
 have q4:i0<=m:=pn3 hlo hlo2;have q5:l.length-m<l.length-j:=pn4 hm hlo2;refine⟨(m,P,Q,R++[d]),[0,1,2,3,4,_],[],Sub.mk' rfl ⟨JY,JY,JY,J0⟩ ⟨⟨rfl,JZ,JZ,JZ,J0⟩,⟨rfl,JZ,JZ,JZ,J0⟩,⟨rfl,JY,JY,⟨rfl,by show R.length+1=(R++[d]).length;rw[uR];rfl⟩,J0⟩,⟨rfl,rfl,rfl,rfl⟩,⟨rfl,rfl,rfl,rfl⟩,⟨rfl,rfl,rfl,by rw[FP];show(R.map Thread.cells).take R.length++_=_;rw[vG (Ee hoR)];rfl⟩,J0⟩ rfl rfl,?_,q5⟩;exact⟨q4,hm,q1,q2,q3⟩
end Go.Proofs.YtapmdfcmpglieaaGreatDoor.am
set_option maxRecDepth 100000
set_option maxHeartbeats 4000000
namespace Go.Proofs.YtapmdfcmpglieaaGreatDoor.am
open Go Go.Proofs Go.RowKit
attribute [local irreducible] aj
theorem wV(S:ByteArray):(scanS S).2.1=0\/(scanS S).2.1=4\/(scanS S).2.1=20:=by
 unfold scanS;cases decide ((S.size:Int) > 65536) with
 |true=>exact .inr JZ
 |false=>
  cases (scanR S).r != 0 with
  |true=>exact .inr (.inr rfl)
  |false=>exact .inl rfl
theorem vn(S:ByteArray)(h:(scanS S).2.1=0):K 37 [.tr (ts S)] [] (.ret (.tup [.ptr 0 0,.tr (ti 0),By 0 0])) [some (pB (scanS S).1 0 S.size)]:=by
 have hk:=u4 S;generalize scanS S=G at *
 obtain⟨l,w,a,r⟩:=G;dsimp only at h;subst h;refine Ctr.new [] hT hmix Tryz.func37 rfl (fun _ _=>JR) rfl fun hok=>?_;clear hok;conv=>whnf
 refine aa.au [] [] (hk) ?_;intro _;conv=>whnf
 exact⟨[20],rfl,rfl,aut⟩
theorem sM(S:ByteArray)(h:(scanS S).2.1≠0):∃w a r,w≠0/\K 37 [.tr (ts S)] [] (.ret (.tup [.tr (.v (.pointer none)),.tr (ti w),By a r])) []:=by
 have hk:=u4 S;have hw:=wV S;generalize scanS S=G at *
 obtain⟨l,w,a,r⟩:=G;dsimp only at h hw;rcases hw with hw|rfl|rfl
 ·exact absurd hw h
 ·refine⟨4,0,0,JS,?_⟩;refine Ctr.of hT hmix Tryz.func37 rfl (fun _ _=>JR) rfl fun hok=>?_;clear hok;conv=>whnf
  refine aa.au [] [] (hk) ?_;intro _;conv=>whnf
  exact aut
 ·refine⟨30,a,1,JS,?_⟩;refine Ctr.of hT hmix Tryz.func37 rfl (fun _ _=>JR) rfl fun hok=>?_;clear hok;conv=>whnf
  refine aa.au [] [] (hk) ?_;intro _;conv=>whnf
  refine drT ?_;conv=>whnf
  exact aut
end Go.Proofs.YtapmdfcmpglieaaGreatDoor.am
set_option maxRecDepth 100000
set_option maxHeartbeats 4000000
namespace Go.Proofs.YtapmdfcmpglieaaGreatDoor.am
open Go Go.Proofs Go.RowKit
attribute [local irreducible] aj
abbrev prZ:Blk:=.cells 63 [.tr (.v (.slice none 0 0)),.tr (.v (.slice none 0 0)),.tr (.v (.slice none 0 0))]
abbrev FW(p:Prg):Blk:=.cells 63 [.tr (ae p.shared),.tr (ae p.locks),.tr (aA p.threads)]
abbrev erB(w:Int):Blk:=.cells 30 [.tr (ti w)]
abbrev flB(a r:Int):Blk:=.cells 54 [.tr (ti a),.tr (ti r)]
theorem xN(w a r x y:Int):tH Tryz.prog 38 true [.ptr 0 0,.ptr 1 0,.ptr 2 0] (cj x y) [prZ,erB w,flB a r] [some prZ,some (erB 30),some (flB x y)]:=by
 refine tH.of hT hmix Tryz.func38 rfl (fun _ _=>JR) rfl rfl rfl rfl rfl rfl rfl (fun h=>by cases h) [] ?_;conv=>whnf
 refine drT ?_;conv=>whnf
 exact⟨J0,aut2⟩
theorem tY(p:Prg)(w a r:Int):tH Tryz.prog 38 false [.ptr 0 0,.ptr 1 0,.ptr 2 0] (.tr (.v .nilIface)) [FW p,erB w,flB a r] [some (FW p),some (erB w),some (flB a r)]:=by
 refine tH.of hT hmix Tryz.func38 rfl (fun _ _=>JR) rfl rfl rfl rfl rfl rfl rfl (fun _=>rfl) [] ?_;conv=>whnf
 exact⟨J0,aut⟩
def En:AV->List (Option Blk)->Prop:=fun res bout=>bout=[]/\∃(p:Prg)(w a r:Int),res=.tup [p.av,.tr (ti w),By a r]/\(w=0\/p=⟨[],[],[]⟩)
theorem BW(S:ByteArray):KE 15 [.tr (ts S)] [] (fun r b=>∃a,r=.ret a/\En a b):=by
 refine cp.guardE [2000005] hT hmix Tryz.func15 rfl (fun _ _=>JR) rfl rfl rfl rfl rfl rfl rfl fun hok=>?_;clear hok;conv=>whnf
 refine⟨rfl,?_⟩;by_cases h:(scanS S).2.1=0
 ·have hk:=vn S h;conv=>whnf
  refine aa.new [] [] _ _ _ _ (hk) rfl rfl rfl rfl aut aut rfl rfl ?_;conv=>whnf
  intro _;conv=>whnf
  refine⟨rfl,?_⟩;conv=>whnf
  refine⟨rfl,_,rfl,?_⟩;conv=>whnf
  refine af hT 1 ?_;conv=>whnf
  refine aj.by [4] [] (xu (scanS S).1 0 S.size (xm S) (x5 _)) ?_;rintro res bout ⟨m,hm,rfl,⟨a,rfl,⟨⟨P,Q,R⟩,rfl⟩,hlo2⟩|⟨x,y,rfl⟩⟩
  ·refine⟨rfl,?_⟩;conv=>whnf
   intro _;conv=>whnf
   refine⟨.tup [(Prg.mk P Q R).av,.tr (ti 0),By 0 0],[],⟨rfl,⟨P,Q,R⟩,0,0,0,rfl,JZ⟩,?_⟩;refine oe.by [0,1,2] [] (tY ⟨P,Q,R⟩ 0 0 0) rfl rfl rfl rfl aut aut rfl [] rfl rfl ?_;conv=>whnf
   exact aut
  ·refine⟨rfl,?_⟩;conv=>whnf
   intro _;conv=>whnf
   refine⟨.tup [(Prg.mk [] [] []).av,.tr (ti 30),By x y],[],⟨rfl,⟨[],[],[]⟩,30,x,y,rfl,.inr rfl⟩,?_⟩;refine oe.by [0,1,2] [] (xN 0 0 0 x y) rfl rfl rfl rfl aut aut rfl [] rfl rfl ?_;conv=>whnf
   exact aut2
 ·obtain⟨w,a,r,hw,hk⟩:=sM S h;conv=>whnf
  refine aa.au [] [] (hk) ?_;intro _;conv=>whnf
  refine⟨rfl,?_⟩;conv=>whnf
  cases h1:(w != 0) with
  |false=>exact absurd h1 (by simp[hw])
  |true=>
  conv=>whnf
  refine drT ?_;conv=>whnf
  exact⟨.tup [(Prg.mk [] [] []).av,.tr (ti w),By a r],[],⟨rfl,⟨[],[],[]⟩,w,a,r,rfl,.inr rfl⟩,[],rfl,rfl,aut2⟩
end Go.Proofs.YtapmdfcmpglieaaGreatDoor.am
set_option maxRecDepth 100000
set_option maxHeartbeats 4000000
namespace Go.Proofs.YtapmdfcmpglieaaGreatDoor.am
open Go Go.Proofs Go.RowKit
attribute [local irreducible] aj
theorem uZ(S:ByteArray):KE 5 [.tr (ts S)] [] (fun r b=>b=[]/\((∃u:Un,r=.ret (.tup [u.av,.tr (tb false)]))\/∃p gs,UnOk p gs/\r=.ret (.tup [(Un.mk p.shared p.locks gs).av,.tr (tb true)]))):=by
 refine cp.new [2000001] hT hmix Tryz.func5 rfl (fun _ _=>JR) rfl fun hok=>?_;clear hok;conv=>whnf
 refine af hT 1 ?_;conv=>whnf
 refine aj.by [] [] (BW S) ?_;rintro res bout ⟨a,rfl,rfl,p,w,x,y,rfl,hp⟩;refine⟨rfl,?_⟩;conv=>whnf
 intro _;conv=>whnf
 cases h1:(w != 0) with
 |true=>
  conv=>whnf
  exact⟨.ret (.tup [(Un.mk [] [] []).av,.tr (tb false)]),[],⟨rfl,.inl ⟨_,rfl⟩⟩,[],rfl,rfl,aut2⟩
 |false=>
 have hk:=y7 p fun hc th hm=>(zH hc th hm).1;conv=>whnf
 rcases lower_cases p with⟨q1,q2⟩|⟨gs,q1,hO⟩
 ·generalize lowerU p=R at *
  obtain⟨u,why⟩:=R;dsimp only at q1 q2;subst q2;refine aa.au [] [] (hk) ?_;intro _;conv=>whnf
  have hb:((why:Int)==0)=false:=by simpa using q1
  exact⟨.ret (.tup [(Un.mk [] [] []).av,.tr (tb false)]),[],⟨rfl,.inl ⟨_,rfl⟩⟩,[],rfl,rfl,⟨⟨aut,.inl (E8 tb hb),J0⟩,J0⟩⟩
 ·rw[q1] at hk;refine aa.au [] [] (hk) ?_;intro _;conv=>whnf
  exact⟨.ret (.tup [(Un.mk p.shared p.locks gs).av,.tr (tb true)]),[],⟨rfl,.inr ⟨p,gs,hO,rfl⟩⟩,[],rfl,rfl,aut⟩
end Go.Proofs.YtapmdfcmpglieaaGreatDoor.am
set_option maxRecDepth 100000
set_option maxHeartbeats 4000000
namespace Go.Proofs.YtapmdfcmpglieaaGreatDoor.am
open Go Go.Proofs Go.RowKit
def DR:ByteArray:=⟨#[120,32,61,32,49,50,59]⟩
theorem Ed:((scanS DR).1.map (fun t=>(t.kind,t.word)),(scanS DR).2)=([(1,0),(4,0),(3,12),(4,0)],0,0,0):=JR
abbrev nfW:AV:=.tr (.v .nilFunc)
def Gf:AV:=.agg ([nfW,nfW]++((List.range 16).flatMap fun k=>[.fn (65 + k) [],nfW])++[nfW,.fn 81 [],nfW,.fn 82 []])
theorem Ch:K 35 [] [] (.ret Gf) []:=by
 refine Ctr.of hT hmix Tryz.func35 rfl (fun _ _=>JR) rfl fun hok=>?_;clear hok;conv=>whnf
 exact aut
theorem D0(a b:Int):K 65 [.tr (ti a),.tr (ti b)] [] (.ret (.tr (ti (IntKind.i64.wrap (a+b))))) []:=by
 refine Ctr.of hT hmix Tryz.func65 rfl (fun _ _=>JR) rfl fun hok=>?_;clear hok;conv=>whnf
 exact aut
theorem Cz:K 12 [.tr (tu 1),.tr (ti 2),.tr (ti 3)] [] (.ret (.tup [.tr (ti 5),.tr (ti 0)])) []:=by
 have h2:=F6 1;rw[(JR:two 1=true)] at h2;refine Ctr.of hT hmix Tryz.func12 rfl (fun _ _=>JR) rfl fun hok=>?_;clear hok;conv=>whnf
 refine aa.pure _ (h2) rfl rfl fun _=>?_;conv=>whnf
 refine aa.pure _ (Ch) rfl rfl fun _=>?_;conv=>whnf
 refine⟨JS,JS,(JS:1*2+2<=38),?_⟩;conv=>whnf
 have h3:=D0 2 3;rw[(JR:IntKind.i64.wrap (2+3)=5)] at h3;refine aa.pure _ (h3) rfl rfl fun _=>?_;conv=>whnf
 exact aut
end Go.Proofs.YtapmdfcmpglieaaGreatDoor.am
set_option maxRecDepth 100000
set_option maxHeartbeats 4000000
namespace Go.Proofs.YtapmdfcmpglieaaGreatDoor.am
open Go Go.Proofs Go.RowKit
theorem Ec:K 14 [.tr (ti (-7))] [] (.ret (.tr (ts ⟨#[45,55]⟩))) []:=by refine Ctr.ofCalls (fun _ _=>JR) fun g w vs hm hsz hv=>?_;obtain⟨v,rfl⟩:=jB hsz;obtain⟨rfl,_⟩:=al (hv 0 v (.tr (ti (-7))) rfl rfl);refine(ws.print_m7 w).mono ?_;rintro e w' ⟨rfl,hb⟩;exact⟨_,rfl,hb,fun _ _=>.tr (.v (JS:(2:Nat)<=9223372036854775807))⟩
theorem Cp:∃t0 t1 x2 p2 t3,scanS DR=([t0,t1,Tok.mk 3 x2 12 p2,t3],0,0,0):=by
 have h12:=Ed;generalize scanS DR=R at *
 obtain⟨l,s⟩:=R;have e1:=E8 Prod.fst h12;have e2:=E8 Prod.snd h12;clear h12;dsimp only at e1 e2;subst e2;obtain⟨t0,t1,t2,t3,rfl⟩:∃t0 t1 t2 t3,l=[t0,t1,t2,t3]:=by
  match l,E8 List.length e1 with
  |[a,b,c,d],_=>exact⟨a,b,c,d,rfl⟩
 obtain⟨k2,x2,w2,p2⟩:=t2;simp only[GO,Kg,Jd,Il] at e1;obtain⟨rfl,rfl⟩:=e1.2.2.1;exact⟨t0,t1,x2,p2,t3,rfl⟩
theorem Am:∃t0 t1 x2 p2 t3,K 13 [.tr (ts ⟨#[120,32,61,32,49,50,59]⟩)] [] (.ret (.tup [.tr (zZ [t0,t1,Tok.mk 3 x2 12 p2,t3]),.tr (ti 0),By 0 0])) []:=by obtain⟨t0,t1,x2,p2,t3,h⟩:=Cp;have hs:=u4 DR;rw[h] at hs;exact⟨t0,t1,x2,p2,t3,hs⟩
theorem u9:K 4 [] [] (.ret (.tr (tb true))) []:=by
 obtain⟨t0,t1,x2,p2,t3,hs⟩:=Am;obtain⟨s7,h7,hm7⟩:∃s7:ByteArray,(s7.toList==(⟨#[45,55]⟩:ByteArray).toList)=true/\K 14 [.tr (ti (-7))] [] (.ret (.tr (ts s7))) []:=⟨_,HP _,Ec⟩;refine Ctr.of hT hmix Tryz.func4 rfl (fun _ _=>JR) rfl fun hok=>?_;clear hok;conv=>whnf
 refine aa.pure _ (Cz) rfl rfl fun _=>?_;conv=>whnf
 refine aa.pure _ (hs) rfl rfl fun _=>?_;conv=>whnf
 refine aa.pure _ (hm7) rfl rfl fun _=>?_;conv=>whnf
 rw[h7];conv=>whnf
 refine⟨rfl,JS,by show(2:Int)<4;decide,fun row hrow=>?_⟩;cases hrow;conv=>whnf
 refine⟨rfl,JS,by show(2:Int)<4;decide,fun row hrow=>?_⟩;cases hrow;conv=>whnf
 exact aut
end Go.Proofs.YtapmdfcmpglieaaGreatDoor.am
set_option maxRecDepth 100000
set_option maxHeartbeats 4000000
namespace Go.Proofs.YtapmdfcmpglieaaGreatDoor.am
open Go Go.Proofs Go.RowKit
attribute [local irreducible] aj
theorem Opn.from{f:Nat->List Nat}{D F:Nat->Bool}{S:Nat->Prop}{k:Nat}(h:Opn f D F S k):∃a,S a/\Opn f D F (· ∈ [a]) k:=by
 induction h with
 |st h1 h2 h3=>exact⟨_,h1,.st (xB.2 rfl) h2 h3⟩
 |go _ h1 h2 h3 ih=>obtain⟨a,q1,q2⟩:=ih;exact⟨a,q1,.go q2 h1 h2 h3⟩
noncomputable def lG(u:Un)(g:Gr)(s:Nat):List Bool:=openL (dfl g) (tE (madeS u g [])) (sv (madeS u g [])) (· ∈ [s]) g.nodes.length
def nV(u:Un)(g:Gr):Prop:=∀s∈storesL 0 (madeS u g []),∀k:Nat,(lG u g s)[k]?=some true->((madeS u g []).getD k mk0).l=true->False
theorem sy{u:Un}{g:Gr}(h:nV u g):loadsS u g []=[]:=by
 cases e:loadsS u g [] with
 |nil=>rfl
 |cons x r=>
  have hx:x∈loadsS u g []:=by rw[e];exact .head _
  unfold loadsS at hx;obtain⟨j,h1,h2,h3,h4⟩:=(gZ _ _ _ _).1 hx;rw[cH] at h3;have ho:Opn (dfl g) (tE (madeS u g [])) (sv (madeS u g [])) (· ∈ storesL 0 (madeS u g [])) j:=(gz h3).1 h2;obtain⟨a,q1,q2⟩:=ho.from
  exact(h a q1 j ((gz h3).2 q2) h4).elim
abbrev prow(x:Nat×Nat):List Tr:=[ti (x.1:Nat),ti (x.2:Nat)]
theorem C8(u:Un)(hu:xX u)(t:Nat)(g:Gr)(hg:u.graphs[t]?=some g):KE 9 [u.av,.tr (ti t)] [] (fun r b=>b=[]/\((∃P:List (Nat×Nat),(P=[]->nV u g)/\r=.ret (.tup [.tr (.lst 2 16 (P.map prow)),.tr (ti 0)]))\/r=.ret (.tup [.tr (.lst 2 16 []),.tr (ti 3)]))):=by
 have htl:t<u.graphs.length:=(a9.1 hg).1;have hb:=qo u t hu.lk.chk JQ JQ;have hW:=aT (hu.lk.whole g (i3 hg));have hmo:=hW.most;have hm:=cp.one (uL u hu t g hg [] (Srt.nil _));have hML:=cH u g [];have hst:=qC g (madeS u g []) (by rw[hML];exact hmo);have hSl:=ia (madeS u g []) 0;have hSf:=fO (madeS u g []) 0;have hsp:∀s,s<g.nodes.length->K 27 [.ptr 0 0,.sl 2 1] [thB g (madeS u g []).length,mkB (madeS u g []),bX [s]] (.ret (.tr (bh (lG u g s)))) [some (thB g (madeS u g []).length),some (mkB (madeS u g [])),none]:=fun s hs=>nW g (madeS u g []) [s] hW hML (fun x hx=>by rw[xB.1 hx];exact hs) (by show 1<=4096;decide);have hOl:∀s,(lG u g s).length=g.nodes.length:=fun s=>gB;rw[hML] at hst hSl hSf;simp only[hML] at hsp;unfold nV;generalize lG u g=OF at *
 have hgl:=hu.lk.few;generalize madeS u g []=M at *
 generalize storesL 0 M=ST at *
 clear hu hW;obtain⟨shared,lks,graphs⟩:=u;obtain⟨name,locals,slots,nodes⟩:=g;dsimp only at hg htl hgl hOl hmo hML hSl hSf;have hoG:(graphs.map Gr.cells).length=graphs.length:=ad ..;have hoM:(M.map Mk.cells).length=M.length:=ad ..;have hoS:(ST.map eo).length=ST.length:=ad ..;refine cp.new [] hT hmix Tryz.func9 rfl (fun _ _=>JR) rfl fun hok=>?_;clear hok;conv=>whnf
 refine aa.au [] [] (hb) ?_;intro _;conv=>whnf
 refine aa.new [] [] _ _ _ _ hm rfl rfl rfl rfl aut2 aut rfl rfl ?_;conv=>whnf
 intro _;conv=>whnf
 refine aa.new [11,1048587] [] _ _ _ _ hst rfl rfl rfl rfl aut aut rfl rfl ?_;conv=>whnf
 intro _;conv=>whnf
 refine aq.by (fun x:Nat×List (Nat×Nat)=>⟨[(7,.ptr 0 0),(8,.sl 3 x.2.length),(23,.sl 2 ST.length),(24,.tr (ti ST.length)),(25,.tr (ti x.1))],[(0,thB ⟨name,locals,slots,nodes⟩ nodes.length),(1,mkB M),(2,bX ST),(3,.vec 97 2 16 (x.2.map prow))],11⟩) (fun x=>x.1<=ST.length/\x.2.length<=65536/\(x.2=[]->∀(j:Nat) s,j<x.1->ST[j]?=some s->∀k:Nat,(OF s)[k]?=some true->(M.getD k mk0).l=true->False)) (fun x=>ST.length-x.1) (0,[]) [11,1048587,_] [3] (Sub.mk' rfl ⟨JY,⟨rfl,rfl,rfl,rfl⟩,JY,JZ,JZ,J0⟩ ⟨⟨rfl,JZ,JZ,JZ,JZ,JY,J0⟩,⟨rfl,rfl,rfl,rfl⟩,⟨rfl,rfl,rfl,rfl⟩,⟨rfl,97,2,16,rfl,JQ⟩,J0⟩ rfl rfl) ⟨x5 _,x5 _,fun _ j s hj=>absurd hj (Hl j)⟩ ?_;rintro⟨i,P⟩ ⟨hi,hPl,hP⟩ -
 dsimp only at hi hPl hP;have hoP:(P.map prow).length=P.length:=ad ..;conv=>whnf
 cases h1:decide ((i:Int)<(ST.length:Int)) with
 |false=>
  have h1':ST.length<=i:=by have:=ud h1;omega
  conv=>whnf
  refine exT ?_;conv=>whnf
  exact⟨_,_,⟨rfl,.inl ⟨P,fun e s hs k h2 h3=>by obtain⟨j,hj,ej⟩:=Gy.1 hs;exact hP e j s JQ (by rw[ab hj,ej]) k h2 h3,rfl⟩⟩,[],rfl,rfl,⟨⟨⟨rfl,Ee hoP.symm,E8 (Tr.lst 2 16) (vG (Ee hoP)).symm⟩,JZ,J0⟩,J0⟩⟩
 |true=>
 have h1':i<ST.length:=by have:=of_decide_eq_true h1;omega
 have hwi:IntKind.i64.wrap ((i:Int)+1)=((i+1:Nat):Int):=by rw[w64 JQ JQ];omega
 obtain⟨s,hs⟩:∃s,ST[i]?=some s:=⟨_,ab h1'⟩;have hsN:=hSl s (i3 hs);have hk:=hsp s (by show s<nodes.length;omega);have hO:=hOl s;have hoO:((OF s).map brow).length=(OF s).length:=ad ..;conv=>whnf
 refine⟨rfl,(JQ:(0:Int)<=(i:Int)),(JQ:(i:Int)<(ST.length:Int)),?_⟩;conv=>whnf
 refine ixV hs ?_;refine⟨(JS:0<1),fun t ht=>?_⟩;cases ht;conv=>whnf
 refine aa.au [0,1,17] [] (hk) ?_;intro _;conv=>whnf
 refine aq.by (fun x:Nat×List (Nat×Nat)=>⟨[(7,.ptr 0 0),(8,.sl 3 x.2.length),(10,.tr (ti (s:Nat))),(23,.sl 2 ST.length),(24,.tr (ti ST.length)),(25,.tr (ti i)),(32,.tr (bh (OF s))),(33,.tr (ti nodes.length)),(34,.tr (ti x.1))],[(0,thB ⟨name,locals,slots,nodes⟩ nodes.length),(1,mkB M),(2,bX ST),(3,.vec 97 2 16 (x.2.map prow))],11⟩) (fun x=>x.1<=nodes.length/\x.2.length<=65536/\(x.2=[]->(∀(j:Nat) s,j<i->ST[j]?=some s->∀k:Nat,(OF s)[k]?=some true->(M.getD k mk0).l=true->False)/\∀k:Nat,k<x.1->(OF s)[k]?=some true->(M.getD k mk0).l=true->False)) (fun x=>nodes.length-x.1) (0,P) [0,1,2,3] [] (Sub.mk' rfl ⟨JY,JY,JZ,JY,JZ,JZ,JZ,.inl (by rw[hoO,hO]),aut⟩ aut rfl rfl) ⟨x5 _,hPl,fun e=>⟨hP e,fun k hk=>absurd hk (Hl k)⟩⟩ ?_;clear hP hPl hoP h1;rintro⟨j,P⟩ ⟨hj,hPl,hP⟩ -
 dsimp only at hj hPl hP;have hoP:(P.map prow).length=P.length:=ad ..;conv=>whnf
 cases h2:decide ((j:Int)<(nodes.length:Int)) with
 |false=>
  have h2':nodes.length<=j:=by have:=ud h2;omega
  conv=>whnf
  refine exT ?_;conv=>whnf
  rw[hwi];exact⟨(i+1,P),[0,1,2,3],[],Sub.au,⟨h1',hPl,fun e j2 s2 h5 h6 k h7 h8=>by
   by_cases q:j2=i
   ·subst q;rw[hs] at h6;cases h6;have hkl:=(a9.1 h7).1;exact(hP e).2 k JQ h7 h8
   ·exact(hP e).1 j2 s2 JQ h6 k h7 h8⟩,by show ST.length-(i+1)<ST.length-i;omega⟩
 |true=>
 have h2':j<nodes.length:=by have:=of_decide_eq_true h2;omega
 have hwj:IntKind.i64.wrap ((j:Int)+1)=((j+1:Nat):Int):=by rw[w64 JQ JQ];omega
 obtain⟨b,hb⟩:∃b,(OF s)[j]?=some b:=⟨_,ab JQ⟩;obtain⟨⟨ms,ml,md,mf⟩,hmk⟩:∃m,M[j]?=some m:=⟨_,ab JQ⟩;have hmD:(M.getD j mk0).l=ml:=by rw[t5,hmk];rfl
 conv=>whnf
 refine ixM hb ?_;cases b with
 |false=>
  conv=>whnf
  refine exT ?_;conv=>whnf
  rw[hwj];exact⟨(j+1,P),[0,1,2,3],[],Sub.au,⟨h2',hPl,fun e=>⟨(hP e).1,fun k hk h3 h4=>by
   by_cases q:k=j;·subst q;rw[hb] at h3;cases h3
   ·exact(hP e).2 k JQ h3 h4⟩⟩,by show nodes.length-(j+1)<nodes.length-j;omega⟩
 |true=>
 conv=>whnf
 refine⟨rfl,(JQ:(0:Int)<=(j:Int)),(JQ:(j:Int)<(nodes.length:Int)),?_⟩;conv=>whnf
 refine ixV hmk ?_;refine⟨(JS:1<4),fun t ht=>?_⟩;cases ht;cases ml with
 |false=>
  conv=>whnf
  refine exT ?_;conv=>whnf
  rw[hwj];exact⟨(j+1,P),[0,1,2,3],[],Sub.au,⟨h2',hPl,fun e=>⟨(hP e).1,fun k hk h3 h4=>by
   by_cases q:k=j;·subst q;rw[hmD] at h4;cases h4
   ·exact(hP e).2 k JQ h3 h4⟩⟩,by show nodes.length-(j+1)<nodes.length-j;omega⟩
 |true=>
 conv=>whnf
 cases h3:((P.length:Int)==65536) with
 |true=>
  conv=>whnf
  exact⟨_,_,⟨rfl,.inr rfl⟩,[],rfl,rfl,aut2⟩
 |false=>
 have h3':P.length<65536:=by
  have:(P.length:Int)≠65536:=by simpa using h3
  omega
 conv=>whnf
 refine⟨rfl,rfl,rfl,Ee hoP.symm,by show(P.length+1)*16<=150000000000000;omega,neL rfl,?_⟩;conv=>whnf
 rw[hwj];exact⟨(j+1,P++[(s,j)]),[0,1,2,_],[],Sub.mk' rfl ⟨JY,⟨rfl,by show P.length+1=(P++[_]).length;rw[uR];rfl⟩,JZ,JY,JZ,JZ,JZ,JZ,JZ,J0⟩ ⟨⟨rfl,JZ,JZ,JZ,JZ,JY,J0⟩,⟨rfl,rfl,rfl,rfl⟩,⟨rfl,rfl,rfl,rfl⟩,⟨rfl,rfl,rfl,by show(P.map prow).take P.length++_=(P++[_]).map prow;rw[vG (Ee hoP),FP];rfl⟩,J0⟩ rfl rfl,⟨h2',by show(P++[_]).length<=65536;rw[uR];exact h3',fun e=>absurd e JX⟩,by show nodes.length-(j+1)<nodes.length-j;omega⟩
end Go.Proofs.YtapmdfcmpglieaaGreatDoor.am
set_option maxRecDepth 100000
set_option maxHeartbeats 4000000
namespace Go.Proofs.YtapmdfcmpglieaaGreatDoor.am
open Go Go.Proofs Go.RowKit
attribute [local irreducible] aj
theorem pK(S:ByteArray):KE 3 [.tr (ts S)] [] (fun r b=>r=.ret (.tr (tb true))/\b=[]):=by
 have hbg:=u9;have hun:=uZ S;refine cp.new [2000003,2000006,2000007,2000015,2000021,16,18] hT hmix Tryz.func3 rfl (fun _ _=>JR) rfl fun hok=>?_;clear hok;conv=>whnf
 refine aa.pure _ (hbg) rfl rfl fun _=>?_;conv=>whnf
 refine af hT 1 ?_;conv=>whnf
 refine aj.by [] [] hun ?_;rintro res bout ⟨rfl,hcase⟩;rcases hcase with⟨⟨shared,lks,graphs⟩,rfl⟩|⟨p,graphs,hO,rfl⟩
 ·refine⟨rfl,?_⟩;conv=>whnf
  intro _;conv=>whnf
  exact⟨_,_,JY,[],rfl,rfl,aut⟩
 have hu:=CU hO;generalize p.shared=shared at *
 generalize p.locks=lks at *
 clear hO;obtain⟨u,hU⟩:∃u:Un,Un.mk shared lks graphs=u:=⟨_,rfl⟩;rw[hU] at hu;have hgs:u.graphs=graphs:=by rw[<-hU]
 have hpl:=C9 u hu;have hcl:=jo u hu.lk hu.shr;have hpa:=fun t g h=>C8 u hu t g h;have hsa:=EC u hu;have hal:=Da u hu;have hwhl:=fun g (hg:g∈u.graphs)=>aT (hu.lk.whole g hg);have hthi:=hu.thing;have hKl:=j7 u;have hgl:=hu.lk.few;have hoG:(graphs.map Gr.cells).length=graphs.length:=ad ..;have hav:u.av=(Un.mk shared lks graphs).av:=by rw[hU]
 rw[hav] at hpl hcl;simp only[hav] at hpa hsa hal;rw[hgs] at hgl;refine⟨rfl,?_⟩;conv=>whnf
 intro _;conv=>whnf
 refine af hT 1 ?_;conv=>whnf
 refine aj.by [] [] hpl ?_;rintro res bout ⟨f,hfl,hfP,rfl,rfl⟩;have hfs:∀(t:Nat) g l,u.graphs[t]?=some g->f[t]?=some l->Srt g.nodes.length l:=fun t g l h1 h2=>(hfP t g l h1 h2).mg.srt.srt;have hsa:=hsa f hfl hfs (fun t g l h1 h2=>(hfP t g l h1 h2).mg.nil);rw[hgs] at hfl;have hoF:(f.map oI).length=f.length:=ad ..;refine⟨rfl,?_⟩;conv=>whnf
 intro _;conv=>whnf
 refine af hT 1 ?_;conv=>whnf
 refine aj.by [] [] hcl ?_;rintro res bout ⟨rfl,L,hL,rfl⟩;refine⟨rfl,?_⟩;conv=>whnf
 intro _;conv=>whnf
 refine aa.au [] [] (hsa) ?_;intro _;conv=>whnf
 rw[show(((f.map oI).length:Int) != ((graphs.map Gr.cells).length:Int))=false by rw[hoF,hoG,hfl];simp];conv=>whnf
 refine aq.by (fun t:Nat=>⟨[(3,.ptr 0 0),(7,.tr (eg L)),(68,.tr (mE f)),(69,.tr (ti f.length)),(70,.tr (ti t))],[(0,.cells 26 [.tr (ae shared),.tr (ae lks),.tr (bt graphs)])],11⟩) (fun t=>t<=f.length) (fun t=>f.length-t) 0 [_] [] (Sub.mk' rfl ⟨JY,JZ,JZ,.inl (by rw[hoF]),JZ,J0⟩ ⟨⟨rfl,JZ,JZ,JZ,J0⟩,J0⟩ rfl rfl) (x5 _) ?_;intro t ht _;conv=>whnf
 cases h1:decide ((t:Int)<(f.length:Int)) with
 |false=>
  conv=>whnf
  refine exT ?_;conv=>whnf
  exact⟨_,_,JY,[],rfl,rfl,aut⟩
 |true=>
 have h1':t<f.length:=by have:=of_decide_eq_true h1;omega
 have hwt:IntKind.i64.wrap ((t:Int)+1)=((t+1:Nat):Int):=by rw[w64 JQ JQ];omega
 obtain⟨l,hl⟩:∃l,f[t]?=some l:=⟨_,ab h1'⟩;obtain⟨g,hg⟩:∃g,graphs[t]?=some g:=⟨_,ab JQ⟩;have hgu:u.graphs[t]?=some g:=by rw[hgs];exact hg
 have hgm:=i3 hgu;have hW:=hwhl g hgm;have hpl:=hfP t g l hgu hl;have hsrt:=hfs t g l hgu hl;have hlen:l.length<=4096:=GB hsrt.few hW.most;have hpa:=hpa t g hgu;have hal:=fun n (hn:n∈l)=>hal t g hgu l hsrt n (GJ.2 hn) (Dl hW hpl hn);have hcut:=fun n W (h:WayQ u g l n W)=>DS g.nodes (bJ u) L hL (fun x h1 h2=>by rw[hKl];exact hthi g hgm x h1 h2) l hlen n W hW.most (wU hW h);have hway:∀n W,WayQ u g l n W->2<=W.length:=fun n W h=>(wU hW h).two;have hol:(l.map irow).length=l.length:=ad ..;have hnil:nV u g->l=[]:=fun h=>by have:=hpl.mg.sub;rw[sy h] at this;exact I2.2 fun x hx=>by cases this x hx
 generalize nV u g=NP at *
 generalize WayQ u g l=WQ at *
 clear hW hpl hsrt hfP hfs hwhl hthi hcl hsa;conv=>whnf
 refine ixM hl ?_;conv=>whnf
 refine ixM hg ?_;conv=>whnf
 refine bD.by (fun o:Option (List (Nat×Nat))=>⟨[(3,.ptr 0 0),(7,.tr (eg L)),(11,.tr (ti t)),(12,.tr (az l)),(13,.tr (aO g.nodes)),(14,.tr (.lst 2 16 ((o.getD []).map prow))),(15,.tr (ti (match o with|some _=>0|none=>3))),(68,.tr (mE f)),(69,.tr (ti f.length)),(70,.tr (ti t))],[(0,.cells 26 [.tr (ae shared),.tr (ae lks),.tr (bt graphs)])],11⟩) (fun o=>∀P,o=some P->P=[]->NP) ?_ ?_
 ·conv=>whnf
  refine af hT 2 ?_;conv=>whnf
  refine aj.by [] [] hpa ?_;rintro res bout ⟨rfl,hpc⟩;rcases hpc with⟨P,hP,rfl⟩|rfl
  ·refine⟨rfl,?_⟩;conv=>whnf
   intro _;conv=>whnf
   exact⟨some P,[0],[],Sub.au,fun P' e=>by cases e;exact hP⟩
  ·refine⟨rfl,?_⟩;conv=>whnf
   intro _;conv=>whnf
   exact⟨none,[0],[],Sub.au,fun P' e=>by cases e⟩
 rintro o hoP -
 refine bD.by (fun _:Unit=>⟨[(3,.ptr 0 0),(7,.tr (eg L)),(11,.tr (ti t)),(12,.tr (az l)),(13,.tr (aO g.nodes)),(68,.tr (mE f)),(69,.tr (ti f.length)),(70,.tr (ti t))],[(0,.cells 26 [.tr (ae shared),.tr (ae lks),.tr (bt graphs)])],11⟩) (fun _=>True) ?_ ?_
 ·cases o with
  |none=>
   conv=>whnf
   exact⟨(),[0],[],Sub.au,J0⟩
  |some P=>
  have hoP:=hoP P rfl;conv=>whnf
  cases h2:((((((some P:Option (List (Nat×Nat))).getD []).map prow).length:Nat):Int)==0) with
  |false=>
   conv=>whnf
   exact⟨(),[0],[],Sub.au,J0⟩
  |true=>
  have hPn:P=[]:=by have h2:((((P.map prow).length:Nat):Int)==0)=true:=h2;rw[ad] at h2;have:=eq_of_beq h2;exact GF JQ
  have hln:decide ((((l.map irow).length:Nat):Int) > 0)=false:=by rw[hnil (hoP hPn)];rfl
  conv=>whnf
  rw[hln];conv=>whnf
  exact⟨(),[0],[],Sub.au,J0⟩
 rintro - - -
 conv=>whnf
 refine aq.by (fun j:Nat=>⟨[(3,.ptr 0 0),(7,.tr (eg L)),(11,.tr (ti t)),(12,.tr (az l)),(13,.tr (aO g.nodes)),(68,.tr (mE f)),(69,.tr (ti f.length)),(70,.tr (ti t)),(107,.tr (az l)),(108,.tr (ti l.length)),(109,.tr (ti j))],[(0,.cells 26 [.tr (ae shared),.tr (ae lks),.tr (bt graphs)])],11⟩) (fun j=>j<=l.length) (fun j=>l.length-j) 0 [0] [] (Sub.mk' rfl ⟨JY,JZ,JZ,JZ,JZ,JZ,JZ,JZ,JZ,.inl (by rw[hol]),aut⟩ aut rfl rfl) (x5 _) ?_;intro j hj _;conv=>whnf
 cases h2:decide ((j:Int)<(l.length:Int)) with
 |false=>
  conv=>whnf
  refine exT ?_;conv=>whnf
  rw[hwt];exact⟨t+1,[0],[],Sub.au,h1',JQ⟩
 |true=>
 have h2':j<l.length:=by have:=of_decide_eq_true h2;omega
 have hwj:IntKind.i64.wrap ((j:Int)+1)=((j+1:Nat):Int):=by rw[w64 JQ JQ];omega
 obtain⟨n,hn⟩:∃n,l[j]?=some n:=⟨_,ab h2'⟩;have hal:=hal n (i3 hn);conv=>whnf
 refine ixM hn ?_;conv=>whnf
 refine af hT 4 ?_;conv=>whnf
 refine aj.by [] [] hal ?_;rintro res bout ⟨W,hWq,rfl,rfl⟩;have hcut:=hcut n W hWq;have hlW:=hway n W hWq;have hoW:=aZ W;refine⟨rfl,?_⟩;conv=>whnf
 intro _;conv=>whnf
 rw[show decide ((((W.map fun(x:Nat)=>(x:Int)).map irow).length:Int)<2)=false from Gz JQ];conv=>whnf
 refine aa.au [] [] (hcut) ?_;intro _;conv=>whnf
 rw[hwj];exact⟨j+1,[0],[],Sub.au,h2',JQ⟩
end Go.Proofs.YtapmdfcmpglieaaGreatDoor.am
