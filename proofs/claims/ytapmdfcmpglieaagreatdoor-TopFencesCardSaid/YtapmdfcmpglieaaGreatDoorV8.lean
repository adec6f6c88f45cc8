/- A range over a map: the region that takes the next entry, in whatever order. Contract of cfg: the closure of Depth (dominates). Contract of cfg: -/
import Derived.Test.YtapmdfcmpglieaaGreatDoorV7
import Derived.Test.YtapmdfcmpglieaaGreatDoorV4
import Derived.Test.YtapmdfcmpglieaaGreatDoorV5
set_option linter.all false
namespace Go.Proofs.YtapmdfcmpglieaaGreatDoor.am
open Go Go.Proofs Go.ChangeMaps
theorem qd{X:Gh->World->Prop}{k N id nx d0 d1 d2 hi h n:Nat}{seen:List Nat}{kd:D}{es:List (MK×Tr)}{pos1 pos2:String}{af1 af2:Array Edge}{ty1 ty2:Nat}{Q:QL}{tl:List (Nat×AV)}{bl:List (Nat×Option Blk)}{ops:Array Oper}
  (hops:ops=[⟨some d1,.next (.tmp d0) false,ty1,pos1,af1,none⟩,⟨some d2,.extract (.tmp d1) 0,ty2,pos2,af2,none⟩].toArray)
  (h0:lk tl d0=some (.ptr hi 0)) (hb1:lkM bl hi=some (.itr h n seen)) (hb2:lkM bl h=some (.map kd es)) (hn:n=es.length) (hG:∀p∈es,oy p.1.val) (hd1:Nat.blt d1 N=true) (hd2:Nat.blt d2 N=true) (hb:nx+2<=HMod)
  (hA:(∀i,i<n->i∈seen)->kx Tryz.prog T N ops nx Q [] 2 (cw (cw tl (some d1) (.tup [.tr (tb false)])) (some d2) (.tr (tb false))) bl)
  (hB:∀i q t,i∉seen->es[i]?=some (q,t)->kx Tryz.prog T N ops nx Q [] 2 (cw (cw tl (some d1) (.tup [.tr (tb true),.tr (.v q.val),.tr t])) (some d2) (.tr (tb true))) ((hi,some (.itr h n (seen++[i])))::bl)) :
  Wp X Tryz.prog k N (.region id ops false) (Ql Q) (LS.mk tl bl nx).st:=by
 intro g0 g w0 w act hk hs;refine If ?_;have hN:=hs.size;have hm:=hs.mem
 replace hd1:d1<N:=oo hd1
 replace hd2:d2<N:=oo hd2
 obtain⟨_,hR⟩:=hs.fr d0 _ h0;obtain⟨l1,q1,r,b,rfl,c1,c2⟩:=hm.blk hi _ hb1;obtain⟨lc,g1,bb,ents,clock,rfl,b1,b2,b3,b4⟩:=hm.blk h _ hb2;obtain rfl:b=bb:=by have:=Cu g1 c2;cases this;rfl
 have hv:act.eval (.tmp d0)=.pointer (some ⟨r,0,none⟩):=hR.ptr_inv q1;have hc:clock=n:=by rw[hn];exact b2.2.1.trans b2.1
 have hto:ops.toList=[⟨some d1,.next (.tmp d0) false,ty1,pos1,af1,none⟩,⟨some d2,.extract (.tmp d1) 0,ty2,pos2,af2,none⟩]:=by rw[hops]
 have hborn:∀e∈ents.toList,e.born<n:=fun e he=>by
  obtain⟨i,hi0,e2⟩:=Gy.1 he;have:=b2.2.2 i e (by rw[<-Gx,ab hi0,e2]);have h3:ents.toList.length=n:=by rw[BQ,<-b2.2.1,hc]
  omega
 rw[hto];unfold wpList;rw[Gw (by simp[Region.wanted])];refine .inl ?_;unfold Oper.wp;have last:∀(w2:World)(v:Value)(vs:Array Value)(a:AV)(bv:Bool)(bl':List (Nat×Option Blk)),Grow g w g w2->MSt g w2 (lkM bl')->Rep g w2 (.tuple vs) a->vs[0]?=some (.bool bv)->kx Tryz.prog T N ops nx Q [] 2 (cw (cw tl (some d1) a) (some d2) (.tr (tb bv))) bl' ->
   wpList Tryz.prog ops (ox g0 w0 N (Ql Q)) [⟨some d2,.extract (.tmp d1) 0,ty2,pos2,af2,none⟩] (act.put (some d1) (.tuple vs)) w2:=fun w2 v vs a bv bl' hg hm2 hr hv0 hL=>by
  unfold wpList;rw[Gw (by simp[Region.wanted])];refine .inl ?_;unfold Oper.wp;have he:(act.put (some d1) (.tuple vs)).eval (.tmp d1)=.tuple vs:=by show(act.tmps.setIfInBounds d1 _).getD d1 undef=_;rw[bI JQ,Gw rfl]
  rw[show(execOp (act.put (some d1) (.tuple vs)).eval ⟨some d2,.extract (.tmp d1) 0,ty2,pos2,af2,none⟩).run Tryz.prog w2=.ok (.value (.bool bv)) w2 by simp[execOp,he,Instr.extract,hv0]];change wpList Tryz.prog ops (ox g0 w0 N (Ql Q)) [] ((act.put (some d1) (.tuple vs)).put (some d2) (.bool bv)) w2;obtain⟨p1,p2⟩:=d8 (dst:=some d1) hN hs.fr hg (by unfold dstOk;exact G6 hd1) hr;obtain⟨r1,r2⟩:=d8 (dst:=some d2) p1 p2 (Grow.refl _ _) (by unfold dstOk;exact G6 hd2) (show Rep g w2 (.bool bv) (.tr (tb bv)) from .tr (.v trivial));refine fT hT nx Q [] 2 _ bl' g _ _ (by show nx+(2+0)<=HMod;omega) hL ⟨r1,(bc ..).trans ((bc ..).trans hs.defers),?_,hm2,fun h hh=>hs.un h (by show nx<=h % HMod;omega),hs.grow.trans hg⟩;rw[cS,cS];exact r2
 rcases run_next_at (P:=Tryz.prog) w ty1 r b n n seen.toArray ents clock c1 b1 hborn (t9 _) with⟨z0,hrun⟩|⟨e,he,w1,hal,hrun⟩
 ·rw[show(execOp act.eval ⟨some d1,.next (.tmp d0) false,ty1,pos1,af1,none⟩).run Tryz.prog w=.ok (.value (.tuple #[.bool false])) w by simp[execOp,hv,hrun]];refine last w .nilIface #[.bool false] (.tup [.tr (tb false)]) false bl (Grow.refl _ _) hm (.tup rfl fun j c a e1 e2=>?_) rfl (hA fun i hi=>?_)
  ·match j,e2 with
   |0,e2=>cases e2;cases e1;exact .tr (.v trivial)
  ·have hsz:i<ents.size:=by rw[<-b2.2.1,hc];exact hi
   have hem:=Array.size_eq_zero_iff.1 z0;unfold leftOf at hem;rw[Array.filter_eq_empty_iff] at hem;have h1:=hem ents[i] (Array.getElem_mem hsz);have h2:=b2.2.2 i ents[i] (Iz hsz);rw[h2] at h1;simpa using h1
 ·rw[show(execOp act.eval ⟨some d1,.next (.tmp d0) false,ty1,pos1,af1,none⟩).run Tryz.prog w=.ok (.value (.tuple #[.bool true,e.key,e.val])) (setBlock w1 r (.mapIter (some b) n (seen.toArray.push e.born) clock)) by simp[execOp,hv,hrun]];unfold leftOf at he;obtain⟨hem,hes⟩:e∈ents.toList/\e.born∉seen:=by
   have:e∈ents/\(!seen.toArray.contains e.born)=true:=by have:=Array.mem_filter.1 (Iu.1 he);exact this
   exact⟨Iu.2 this.1,by simpa using this.2⟩
  obtain⟨i,hi0,e2⟩:=Gy.1 hem;have hei:ents[i]?=some e:=by rw[<-Gx,ab hi0,e2]
  have hbi:=b2.2.2 i e hei;have hil:i<es.length:=by rw[<-b2.1,<-BQ];exact hi0
  obtain⟨⟨q,t⟩,hqt⟩:∃p,es[i]?=some p:=⟨_,ab hil⟩;obtain⟨en,d1',d2',d3⟩:=b4 i q t hqt;obtain rfl:e=en:=vx (hei.symm.trans d1');have hr1:r<w.heap.size:=(GI.1 c1).1;have hw1:w1.heap=w.heap/\w1.os=w.os/\w1.tape=w.tape/\w1.output=w.output:=by rcases hal with rfl|rfl<;>exact⟨rfl,rfl,rfl,rfl⟩
  have hko:∀j,j≠r->(setBlock w1 r (.mapIter (some b) n (seen.toArray.push e.born) clock)).heap[j]?=w.heap[j]? :=fun j hj=>by show(w1.heap.setIfInBounds r _)[j]?=_;rw[IW (Kb hj),hw1.1]
  have hsz2:(setBlock w1 r (.mapIter (some b) n (seen.toArray.push e.born) clock)).heap.size=w.heap.size:=by show(w1.heap.setIfInBounds r _).size=_;rw[Array.size_setIfInBounds,hw1.1]
  have hg:Grow g w g (setBlock w1 r (.mapIter (some b) n (seen.toArray.push e.born) clock)):=cq (h:=hi) (b:=r) (hm.xl _ r (.root q1 rfl)) (.root q1 rfl) hw1.2.1 hw1.2.2.1 hw1.2.2.2 hsz2 hko;have hm2:=dD (bl:=.itr h n (seen++[i])) hm q1 (.inl rfl) hg hsz2 hko ⟨r,b,rfl,by show(w1.heap.setIfInBounds r _)[r]?=_;rw[hw1.1,hbi,hc];simp[hr1],c2.grow hg⟩
  have hup:MSt g (setBlock w1 r (.mapIter (some b) n (seen.toArray.push e.born) clock)) (lkM ((hi,some (.itr h n (seen++[i])))::bl)):=by have:=b8 [(hi,some (Blk.itr h n (seen++[i])))] bl;rw[show((hi,some (Blk.itr h n (seen++[i])))::bl)=[(hi,some (Blk.itr h n (seen++[i])))]++bl from rfl,this];exact hm2
  refine last _ .nilIface #[.bool true,e.key,e.val] (.tup [.tr (tb true),.tr (.v q.val),.tr t]) true _ hg hup (.tup rfl fun j c a e1 e2=>?_) rfl (hB i q t (by rw[hbi] at hes;exact hes) hqt)
  match j,e2 with
  |0,e2=>cases e2;cases e1;exact .tr (.v trivial)
  |1,e2=>cases e2;cases e1;rw[d2'];exact .tr (.v (hG (q,t) (i3 hqt)))
  |2,e2=>cases e2;cases e1;exact(Rep.tr d3).grow hg
end Go.Proofs.YtapmdfcmpglieaaGreatDoor.am
set_option maxRecDepth 100000
set_option maxHeartbeats 4000000
namespace Go.Proofs.YtapmdfcmpglieaaGreatDoor.am
open Go Go.Proofs
def ovI:Option Nat->Int
 |none=>-1
 |some n=>(n:Nat)
theorem pj(g:Gr)(hW:Whole g)(h n:Nat)(hn:Rch (fol g) (-1) n)(R:Bool)(hR:R=true<->Dm (fol g) h n):K 114 [.tr (ti h),.tr (ti n),.ptr 0 0] [.cells 38 [.tr (az (fy (fol g) g.nodes.length))]] (.ret (.tr (tb R))) [some (.cells 38 [.tr (az (fy (fol g) g.nodes.length))])]:=by
 have hup:∀n,Rch (fol g) (-1) n->n<g.nodes.length/\∃v,(fy (fol g) g.nodes.length)[n]?=some v/\((v=-1/\∀h,Dm (fol g) h n<->h=n)\/∃a:Nat,v=a/\vH (fol g) g.nodes.length a<vH (fol g) g.nodes.length n/\Rch (fol g) (-1) a/\∀h,Dm (fol g) h n<->h=n\/Dm (fol g) h a):=fun n hn=>by
  have hlt:=hn.lt hW.pos hW.lt;refine⟨hlt,uy (fol g) n,by simp[fy,hlt],?_⟩;rcases idom_up (idomI_is hW.pos hW.lt n) hn with q|⟨a,q1,q2,q3,q4⟩
  ·exact .inl q
  ·exact .inr ⟨a,q1,BJ hlt q2 q3,q3.1,q4⟩
 have hll:(fy (fol g) g.nodes.length).length=g.nodes.length:=by simp[fy]
 clear hW;generalize vH (fol g) g.nodes.length=rk at hup;generalize fy (fol g) g.nodes.length=IL at hup hll |-
 generalize fol g=f at hup hn hR;generalize g.nodes.length=N at hup hll;have hlI:(IL.map irow).length=IL.length:=ad ..;refine Ctr.of hT hmix Tryz.func114 rfl (fun _ _=>JR) rfl fun hok=>?_;clear hok;conv=>whnf
 refine aq.by (fun x:Option Nat=>⟨[(0,.tr (ti h)),(1,.tr (ti (ovI x))),(2,.ptr 0 0)],[(0,.cells 38 [.tr (az IL)])],10⟩) (fun x=>match x with|none=>R=false|some n=>Rch f (-1) n/\(R=true<->Dm f h n)) (fun x=>match x with|none=>0|some n=>rk n+1) (some n) [0] []
  (Sub.au) ⟨hn,hR⟩ ?_
 clear hn hR;rintro x hx -
 cases x with
 |none=>
  have hx:R=false:=hx;subst hx;conv=>whnf
  refine exT ?_;conv=>whnf
  exact aut
 |some n=>
  obtain⟨hn,hR⟩:=hx;obtain⟨hnN,v,hv,hcs⟩:=hup n hn;have e0:decide (ovI (some n)>=0)=true:=GC (by show(n:Int)>=0;omega);conv=>whnf
  rw[e0];conv=>whnf
  by_cases hnh:h=n
  ·subst hnh;have hRt:R=true:=hR.2 (gN hn);subst hRt;have e1:(ovI (some h)==(h:Int))=true:=HP _;refine ah (fun _=>?_) (fun g=>ctf e1 g);conv=>whnf
   exact aut
  have e1:(ovI (some n)==(h:Int))=false:=by rw[GX];show(n:Int)≠(h:Int);omega
  refine ah (fun g=>ctf g e1) (fun _=>?_);conv=>whnf
  refine⟨rfl,(JQ:(0:Int)<=n),(JQ:(n:Int)<((IL.map irow).length:Int)),fun row hrow=>?_⟩;obtain⟨d,hd,rfl⟩:=eK hrow;obtain rfl:=vx (hv.symm.trans hd);clear hrow hd;conv=>whnf
  rcases hcs with⟨rfl,hq⟩|⟨a,rfl,hrk,ha,hq⟩
  ·have hRf:R=false:=by
    cases R with
    |false=>rfl
    |true=>exact absurd ((hq h).1 (hR.1 rfl)) hnh
   exact⟨none,[0],[],Sub.au,hRf,by show 0<rk n+1;omega⟩
  ·refine⟨some a,[0],[],Sub.au,⟨ha,?_⟩,by show rk a+1<rk n+1;omega⟩;rw[hR,hq h];exact⟨fun w=>w.resolve_left hnh,.inr⟩
end Go.Proofs.YtapmdfcmpglieaaGreatDoor.am
set_option maxRecDepth 100000
set_option maxHeartbeats 4000000
namespace Go.Proofs.YtapmdfcmpglieaaGreatDoor.am
open Go Go.Proofs
def kz(S:List Nat):List (MK×Tr):=S.map fun(x:Nat)=>(.ki .i64 (x:Int),tb true)
theorem oA(S:List Nat)(y:Nat):ew (kz S) (.ki .i64 (y:Int))=bif S.contains y then some (tb true) else none:=by
 induction S with
 |nil=>rfl
 |cons x S ih=>
  show(bif MK.same (.ki .i64 (y:Int)) (.ki .i64 (x:Int)) then some (tb true) else ew (kz S) (.ki .i64 (y:Int)))=_;rw[ih,IM];have:MK.same (.ki .i64 (y:Int)) (.ki .i64 (x:Int))=(y==x):=by
   show((y:Int)==(x:Int))=(y==x);by_cases e:y=x;·rw[e,HP,HP]
   ·rw[GX.2 e,GX.2 JQ]
  rw[this];cases (y==x)<;>rfl
theorem jl(S:List Nat)(y:Nat):mput (kz S) (.ki .i64 (y:Int)) (tb true)=kz (bif S.contains y then S else S++[y]):=by
 induction S with
 |nil=>rfl
 |cons x S ih=>
  show(bif MK.same (.ki .i64 (y:Int)) (.ki .i64 (x:Int)) then(.ki .i64 (y:Int),tb true)::kz S else(.ki .i64 (x:Int),tb true)::mput (kz S) (.ki .i64 (y:Int)) (tb true))=_;have:MK.same (.ki .i64 (y:Int)) (.ki .i64 (x:Int))=(y==x):=by
   show((y:Int)==(x:Int))=(y==x);by_cases e:y=x;·rw[e,HP,HP]
   ·rw[GX.2 e,GX.2 JQ]
  rw[this,ih,IM];by_cases e:y=x
  ·subst e;rw[HP];rfl
  ·rw[GX.2 e,lh,GU];cases S.contains y<;>rfl
theorem mK(S:List Nat):(kz S).length=S.length:=by simp[kz]
theorem C5{S:List Nat}{i:Nat}{q:MK}{t:Tr}(h:(kz S)[i]?=some (q,t)):∃x:Nat,S[i]?=some x/\q=.ki .i64 (x:Int)/\t=tb true:=by unfold kz at h;rw[z5,z9] at h;obtain⟨x,h1,h2⟩:=h;cases h2;exact⟨x,h1,rfl,rfl⟩
abbrev inB(S:List Nat):Blk:=.map (.int .i64) (kz S)
theorem BO(g:Gr)(hW:cm g=true):K 47 [g.av] [] (.ret (.tr (a8 (nt (fol g) g.nodes.length)))) []:=by
 have hd:=nr g hW;have ha:=pM g hW;have hWh:=aT hW;have hs:=rt g (-1) hWh;have hdm:=fun h n hn R hR=>pj g hWh h n hn R hR;have hrc:=fun x hx=>kf (fol:=fol g) (cut:=-1) (N:=g.nodes.length) (x:=x) hx;have hrl:(rchL (fol g) (-1) g.nodes.length).length=g.nodes.length:=dl;have hal:∀x,x<g.nodes.length->(aheadL (fol g) g.nodes.length)[x]?=some (bj (fol g) g.nodes.length x):=fun x hx=>by simp[aheadL,hx]
 have hall:(aheadL (fol g) g.nodes.length).length=g.nodes.length:=by simp[aheadL]
 have haN:∀x,∀p∈bj (fol g) g.nodes.length x,p<g.nodes.length/\x∈fol g p:=fun x p hp=>cV.1 hp;have hBl:∀x,(bj (fol g) g.nodes.length x).length<=g.nodes.length:=fun x=>by
  have:=HO (fun i=>(fol g i).contains x) (List.range g.nodes.length)
  rwa [HZ] at this
 have hfd:∀a,g.nodes.length<=a->fol g a=[]:=fun a h=>by unfold fol;rw[yB h]
 have hbf:=fun h S pend hB=>gT.fin (fol:=fol g) (N:=g.nodes.length) (h:=h) (S:=S) (pend:=pend) hfd hB;have hjf:=fun h S pend n hJ=>jA.fin (fol:=fol g) (N:=g.nodes.length) (h:=h) (S:=S) (pend:=pend) (n:=n) hWh.lt hfd hJ;have hrN:∀x,Rch (fol g) (-1) x->x<g.nodes.length:=fun x hx=>hx.lt hWh.pos hWh.lt;have hpos:=hWh.pos;have hmo:=hWh.most;have hil:(fy (fol g) g.nodes.length).length=g.nodes.length:=by simp[fy]
 clear hWh hW hfd;generalize fy (fol g) g.nodes.length=IL at hd hdm hil;generalize aheadL (fol g) g.nodes.length=A at ha hal hall;generalize bj (fol g) g.nodes.length=B at hal haN hBl hbf hjf;generalize rchL (fol g) (-1) g.nodes.length=RC at hs hrc hrl;obtain⟨f,hf⟩:∃f,fol g=f:=⟨_,rfl⟩;rw[hf] at hdm hrc haN hbf hjf hrN |-
 clear hf;obtain⟨name,locals,slots,nodes⟩:=g;simp only at hrc hrl hal hall haN hBl hrN hpos hmo hil |-
 have hln:(nodes.map Nd.cells).length=nodes.length:=ad ..;obtain⟨N,hNe⟩:∃N,nodes.length=N:=⟨_,rfl⟩;rw[hNe] at hrc hrl hal hall haN hBl hrN hpos hmo hil hln |-
 refine Ctr.cut [2000033] hT hmix Tryz.func47 rfl (fun _ _=>JR) rfl fun hok=>?_;clear hok;conv=>whnf
 refine aa.pure _ (hd) rfl rfl fun _=>?_;conv=>whnf
 refine⟨(by rw[ad];omega),?_⟩;conv=>whnf
 refine aa.pure _ (hs) rfl rfl fun _=>?_;conv=>whnf
 refine aa.pure _ (ha) rfl rfl fun _=>?_;conv=>whnf
 refine⟨(by rw[hln];omega),Hd _,(by rw[hln];show(N:Int)*8<=_;omega),?_⟩;conv=>whnf
 rw[hln,GY];have hpln:(cD A)=(cD A):=rfl;have hbl2:=fun x=>aZ (B x);refine aq.by (fun h:Nat=>⟨[(4,.tr (bh RC)),(5,.tr (cD A)),(6,.fn 114 [.ptr 0 0]),(7,.sl 1 N),(32,.tr (ti N)),(33,.tr (ti h))],[(0,.cells 38 [.tr (az IL)]),(1,bX (cJ f N h))],10⟩) (fun h=>h<=N) (fun h=>N-h) 0 [_,_] []
  (Sub.mk' rfl ⟨.inl rfl,.inl rfl,⟨rfl,⟨rfl,rfl⟩,trivial⟩,⟨rfl,rfl⟩,.inl rfl,.inl rfl,trivial⟩ ⟨⟨rfl,.inl rfl,trivial⟩,⟨rfl,rfl,rfl,by rw[pt];exact ry N⟩,trivial⟩ rfl rfl) (x5 _) ?_
 rintro h hh -
 conv=>whnf
 refine ah (fun hht=>?_) (fun hht=>?_)
 ·have hht:h<N:=by have:decide ((h:Int)<(N:Int))=true:=hht;have:=of_decide_eq_true this;omega
  obtain⟨b,hb⟩:∃b,RC[h]?=some b:=⟨_,ab JQ⟩;conv=>whnf
  refine⟨rfl,(JQ:(0:Int)<=h),(by show(h:Int)<((RC.map brow).length:Int);rw[ad];omega),fun row hrow=>?_⟩;obtain⟨d,hd,rfl⟩:=lN hrow;obtain rfl:=vx (hb.symm.trans hd);clear hrow hd;cases b with
  |false=>
   have hnr:¬ Rch f (-1) h:=fun w=>by rw[(hrc h hht).2 w] at hb;cases hb
   have hsk:=oK (N:=N) (yM hnr);conv=>whnf
   refine exT ?_;conv=>whnf
   exact⟨h+1,[0,1],[],Sub.mk' rfl ⟨JZ,JZ,aut,JY,JZ,.inl (ak hht JQ),J0⟩ ⟨aut,⟨rfl,rfl,rfl,by rw[hsk]⟩,J0⟩ rfl rfl,hht,by show N-(h+1)<N-h;omega⟩
  |true=>
   have hr:Rch f (-1) h:=(hrc h hht).1 hb;conv=>whnf
   refine⟨rfl,(JQ:(0:Int)<=h),(by show(h:Int)<((A.map mM).length:Int);rw[ad,hall];omega),fun row hrow=>?_⟩;obtain⟨d,hd,rfl⟩:=gq hrow;obtain rfl:=vx ((hal h hht).symm.trans hd);clear hrow hd;conv=>whnf
   have hbf:=hbf h;have haNh:=haN h;have hBh:=hBl h;have hbl2h:=hbl2 h;obtain⟨L,hL⟩:∃L,B h=L:=⟨_,rfl⟩;rw[hL] at hbf haNh hBh hbl2h;refine aq.by (fun x:List Nat×List Nat×Nat=>⟨[(4,.tr (bh RC)),(5,.tr (cD A)),(6,.fn 114 [.ptr 0 0]),(7,.sl 1 N),(8,.tr (ti h)),(9,.mp 2),(10,.sl 3 x.2.1.length),(32,.tr (ti N)),(33,.tr (ti h)),(45,.tr (a8 L)),(46,.tr (ti L.length)),(47,.tr (ti x.2.2))],[(0,.cells 38 [.tr (az IL)]),(1,bX (cJ f N h)),(2,inB x.1),(3,bX x.2.1)],10⟩) (fun x=>x.2.2<=L.length/\x.2.1.length<=x.2.2/\gT f h x.1 x.2.1 (L.take x.2.2)) (fun x=>L.length-x.2.2) ([],[],0) [0,1,_] [3]
    (Sub.mk' rfl ⟨.inl rfl,.inl rfl,⟨rfl,⟨rfl,rfl⟩,trivial⟩,⟨rfl,rfl⟩,.inl rfl,rfl,⟨rfl,rfl,rfl,rfl⟩,.inl rfl,.inl rfl,.inl (by rw[hL]),.inl (by rw[<-hbl2h,hL]),.inl rfl,trivial⟩ ⟨⟨rfl,.inl rfl,trivial⟩,⟨rfl,rfl,rfl,rfl⟩,⟨rfl,rfl⟩,⟨rfl,_,_,_,rfl,JS⟩,trivial⟩ rfl rfl) ⟨x5 _,t9 _,gT.start f h⟩ ?_
   rintro⟨S,pend,j⟩ ⟨hj,hpj,hB⟩ -
   simp only at hj hpj hB;conv=>whnf
   refine ah (fun hjt=>?_) (fun hjt=>?_)
   ·have hjL:j<L.length:=by have:decide ((j:Int)<(L.length:Int))=true:=hjt;have:=of_decide_eq_true this;omega
    clear hjt;obtain⟨p,hp⟩:∃p,L[j]?=some p:=⟨_,ab hjL⟩;obtain⟨hpN,hhp⟩:=haNh p (i3 hp);have htk:L.take (j+1)=L.take j++[p]:=by rw[Hx,hp];rfl
    obtain⟨c,hc⟩:∃c,RC[p]?=some c:=⟨_,ab JQ⟩;conv=>whnf
    refine⟨rfl,(JQ:(0:Int)<=j),(by show(j:Int)<((((L.map fun(x:Nat)=>(x:Int))).map irow).length:Int);rw[hbl2h];omega),fun row hrow=>?_⟩;obtain⟨d,hd,rfl⟩:=aU hrow;obtain rfl:=vx (hp.symm.trans hd);clear hrow hd;conv=>whnf
    refine⟨rfl,(JQ:(0:Int)<=p),(by show(p:Int)<((RC.map brow).length:Int);rw[ad];omega),fun row hrow=>?_⟩;obtain⟨d,hd,rfl⟩:=lN hrow;obtain rfl:=vx (hc.symm.trans hd);clear hrow hd;cases c with
    |false=>
     have hnd:¬ Dm f h p:=fun w=>by rw[(hrc p hpN).2 w.2.1] at hc;cases hc
     have hB2:=hB.skip hnd;rw[<-htk] at hB2;conv=>whnf
     exact⟨(S,pend,j+1),[0,1,2,3],[],Sub.mk' rfl ⟨JZ,JZ,aut,JY,JZ,rfl,JY,JZ,JZ,JZ,JZ,.inl (ak hjL JQ),J0⟩ aut rfl rfl,⟨hjL,by show pend.length<=j+1;omega,hB2⟩,by show L.length-(j+1)<L.length-j;omega⟩
    |true=>
     have hrp:Rch f (-1) p:=(hrc p hpN).1 hc;by_cases hdm2:Dm f h p
     ·have hct:=hdm h p hrp true ⟨fun _=>hdm2,fun _=>rfl⟩;have hB2:=hB.push hdm2 hhp;rw[<-htk] at hB2;have hS:(bif S.contains h then S else S++[h])=[h]:=by
       rcases hB.s with⟨rfl,_⟩|⟨rfl,_⟩
       ·rfl
       ·rw[(JX:[h].contains h=true)];rfl
      conv=>whnf
      refine aa.au [0] [] (hct) ?_;intro _;conv=>whnf
      refine⟨rfl,rfl,rfl,(by rw[ad];exact t9 _),(JQ:(pend.length+1)*8<=150000000000000),fun q hq=>?_,?_⟩
      ·cases hq with
       |head=>exact GG rfl
       |tail _ h=>cases h
      conv=>whnf
      have hda:(pend.map eo).take pend.length++[[ti (p:Nat)]]=(pend++[p]).map eo:=by rw[vG (by rw[ad];exact t9 _),FP];rfl
      have hlen:pend.length+1=(pend++[p]).length:=by rw[uR];rfl
      exact⟨([h],pend++[p],j+1),[0,1,2,_],[],Sub.mk' rfl ⟨JZ,JZ,⟨rfl,JY,J0⟩,JY,JZ,rfl,⟨rfl,hlen⟩,JZ,JZ,JZ,JZ,.inl (ak hjL JQ),J0⟩ ⟨⟨rfl,JZ,J0⟩,⟨rfl,rfl,rfl,rfl⟩,⟨rfl,(jl S h).trans (E8 kz hS)⟩,⟨rfl,rfl,rfl,hda⟩,J0⟩ rfl rfl,⟨hjL,by show(pend++[p]).length<=j+1;omega,hB2⟩,by show L.length-(j+1)<L.length-j;omega⟩
     ·have hct:=hdm h p hrp false ⟨fun w=>(by cases w),fun w=>absurd w hdm2⟩;have hB2:=hB.skip hdm2;rw[<-htk] at hB2;conv=>whnf
      refine aa.au [0] [] (hct) ?_;intro _;conv=>whnf
      exact⟨(S,pend,j+1),[0,1,2,3],[],Sub.mk' rfl ⟨JZ,JZ,aut,JY,JZ,rfl,JY,JZ,JZ,JZ,JZ,.inl (ak hjL JQ),J0⟩ aut rfl rfl,⟨hjL,by show pend.length<=j+1;omega,hB2⟩,by show L.length-(j+1)<L.length-j;omega⟩
   ·have hjt:L.length<=j:=by have:decide ((j:Int)<(L.length:Int))=false:=hjt;have:=ud this;omega
    rw[vG hjt] at hB;have hI:=hbf S pend hB;clear hB hbf;conv=>whnf
    refine exT ?_;conv=>whnf
    have hmu0:(N-S.length)*(N+1)+pend.length<=20000000:=by have h1:(N-S.length)*(N+1)<=4096*4097:=Nat.mul_le_mul JQ JQ;omega
    clear hpj hBh hbl2h haNh hL;refine aq.by (fun x:List Nat×List Nat×Nat=>⟨[(4,.tr (bh RC)),(5,.tr (cD A)),(6,.fn 114 [.ptr 0 0]),(7,.sl 1 N),(9,.mp 2),(10,.sl 3 x.2.2),(32,.tr (ti N)),(33,.tr (ti h))],[(0,.cells 38 [.tr (az IL)]),(1,bX (cJ f N h)),(2,inB x.1),(3,bX x.2.1)],10⟩) (fun x=>x.2.2<=x.2.1.length/\fC f h x.1 (x.2.1.take x.2.2)/\(N-x.1.length)*(N+1)+x.2.2<=20000000) (fun x=>(N-x.1.length)*(N+1)+x.2.2) (S,pend,pend.length) [0,1,2,3] []
     (Sub.au) ⟨t9 _,by show fC f h S (pend.take pend.length);rw[Hi];exact hI,hmu0⟩ ?_
    clear hI hmu0 hj;rintro⟨S,rows,k⟩ ⟨hk,hI,hmu⟩ -
    simp only at hk hI hmu;conv=>whnf
    refine ah (fun hk0=>?_) (fun hk0=>?_)
    ·have hk0:0<k:=by have:decide ((k:Int) > 0)=true:=hk0;have:=of_decide_eq_true this;omega
     have hk1:IntKind.i64.wrap ((k:Int)-1)=((k-1:Nat):Int):=by rw[w64 JQ JQ];omega
     obtain⟨n,hn⟩:∃n,rows[k-1]?=some n:=⟨_,ab JQ⟩;have hp:∀x,x∈rows.take k<->x=n\/x∈rows.take (k-1):=fun x=>by
      have:rows.take k=rows.take (k-1)++[n]:=by
       conv=>lhs;rw[(JQ:k=(k-1)+1),Hx,hn]
       rfl
      rw[this,FK,xB];exact KH
     have hnr:Rch f (-1) n:=fC.rch hr (hI.okp n ((hp n).2 (.inl rfl)));have hnN:=hrN n hnr;conv=>whnf
     rw[hk1];refine⟨rfl,(JQ:(0:Int)<=((k-1:Nat):Int)),(JQ:((k-1:Nat):Int)<(k:Int)),?_⟩;conv=>whnf
     refine ixV hn ?_;refine⟨(JS:0<1),fun t ht=>?_⟩;cases ht;conv=>whnf
     rw[hk1];refine⟨(JQ:(0:Int)<=((k-1:Nat):Int)),(JQ:((k-1:Nat):Int)<=(k:Int)),?_⟩;conv=>whnf
     have hlk:(ew (kz (S,rows,k).fst) (.ki .i64 (n:Int))).getD (Tr.v Z.b.val)=tb (S.contains n):=by show(ew (kz S) (.ki .i64 (n:Int))).getD (Tr.v Z.b.val)=tb (S.contains n);rw[oA];cases S.contains n<;>rfl
     rw[hlk];cases hcon:S.contains n with
     |true=>
      have hI2:=hI.seen hp (GJ.1 hcon);conv=>whnf
      refine exT ?_;conv=>whnf
      exact⟨(S,rows,k-1),[0,1,2,3],[],Sub.au,⟨by show k-1<=rows.length;omega,hI2,by show(N-S.length)*(N+1)+(k-1)<=20000000;omega⟩,by show(N-S.length)*(N+1)+(k-1)<(N-S.length)*(N+1)+k;omega⟩
     |false=>
      have hnS:n∉S:=fun w=>by rw[GJ.2 w] at hcon;cases hcon
      have hJ:=hI.take hp hnS;have hS1:S.length+1<=N:=by have:=cI N (S++[n]) hJ.nd (fun x hx=>hrN x (fC.rch hr (hJ.ok x hx)));rw[uR] at this;exact this
      have hmS:mput (kz S) (.ki .i64 (n:Int)) (tb true)=kz (S++[n]):=by rw[jl,hcon];rfl
      have hjf:=hjf h;have haNn:=haN n;have hBn:=hBl n;have hbl2n:=hbl2 n;obtain⟨C,hC⟩:∃C,(N-(S++[n]).length)*(N+1)=C:=⟨_,rfl⟩;have hC2:(N-S.length)*(N+1)=C+(N+1):=by rw[<-hC,<-G4];congr 1;rw[uR,Io];omega
      rw[hC2] at hmu;conv=>whnf
      refine⟨rfl,(JQ:(0:Int)<=n),(by show(n:Int)<((A.map mM).length:Int);rw[ad,hall];omega),fun row hrow=>?_⟩;obtain⟨d,hd,rfl⟩:=gq hrow;obtain rfl:=vx ((hal n hnN).symm.trans hd);clear hrow hd;have hfin:=fun S pend=>hjf S pend n;obtain⟨L,hL⟩:∃L,B n=L:=⟨_,rfl⟩;rw[hL] at hfin haNn hBn hbl2n;conv=>whnf
      refine aq.by (fun x:List Nat×Nat×Nat=>⟨[(4,.tr (bh RC)),(5,.tr (cD A)),(6,.fn 114 [.ptr 0 0]),(7,.sl 1 N),(9,.mp 2),(10,.sl 3 x.2.1),(32,.tr (ti N)),(33,.tr (ti h)),(90,.tr (a8 L)),(91,.tr (ti L.length)),(92,.tr (ti x.2.2))],[(0,.cells 38 [.tr (az IL)]),(1,bX (cJ f N h)),(2,inB (S++[n])),(3,bX x.1)],10⟩) (fun x=>x.2.1<=x.1.length/\x.2.2<=L.length/\jA f h (S++[n]) (x.1.take x.2.1) n (L.take x.2.2)/\C+x.2.1+(L.length-x.2.2)<C+(N+1)+k) (fun x=>L.length-x.2.2) (rows,k-1,0) [0,1,2,3] []
       (Sub.mk' rfl ⟨.inl rfl,.inl rfl,aut,⟨rfl,rfl⟩,rfl,⟨rfl,rfl⟩,.inl rfl,.inl rfl,.inl (by rw[hL]),.inl (by rw[<-hbl2n,hL]),aut⟩ ⟨aut,aut,⟨rfl,hmS⟩,aut⟩ rfl rfl) ⟨by show k-1<=rows.length;omega,x5 _,hJ,by show C+(k-1)+(L.length-0)<C+(N+1)+k;omega⟩ ?_
      clear hJ hI hp hn hlk;rintro⟨r2,k2,j⟩ ⟨hk2,hj,hJ,hmj⟩ -
      simp only at hk2 hj hJ hmj;conv=>whnf
      refine ah (fun hjt=>?_) (fun hjt=>?_)
      ·have hjL:j<L.length:=by have:decide ((j:Int)<(L.length:Int))=true:=hjt;have:=of_decide_eq_true this;omega
       clear hjt;obtain⟨p,hp⟩:∃p,L[j]?=some p:=⟨_,ab hjL⟩;obtain⟨hpN,hnp⟩:=haNn p (i3 hp);have htk:L.take (j+1)=L.take j++[p]:=by rw[Hx,hp];rfl
       obtain⟨c,hc⟩:∃c,RC[p]?=some c:=⟨_,ab JQ⟩;conv=>whnf
       refine⟨rfl,(JQ:(0:Int)<=j),(by show(j:Int)<((((L.map fun(x:Nat)=>(x:Int))).map irow).length:Int);rw[hbl2n];omega),fun row hrow=>?_⟩;obtain⟨d,hd,rfl⟩:=aU hrow;obtain rfl:=vx (hp.symm.trans hd);clear hrow hd;conv=>whnf
       refine⟨rfl,(JQ:(0:Int)<=p),(by show(p:Int)<((RC.map brow).length:Int);rw[ad];omega),fun row hrow=>?_⟩;obtain⟨d,hd,rfl⟩:=lN hrow;obtain rfl:=vx (hc.symm.trans hd);clear hrow hd;cases c with
       |false=>
        have hnrp:¬ Rch f (-1) p:=fun w=>by rw[(hrc p hpN).2 w] at hc;cases hc
        have hJ2:=hJ.skip hnrp;rw[<-htk] at hJ2;conv=>whnf
        exact⟨(r2,k2,j+1),[0,1,2,3],[],Sub.mk' rfl ⟨JZ,JZ,aut,JY,rfl,JY,JZ,JZ,JZ,JZ,.inl (ak hjL JQ),J0⟩ aut rfl rfl,⟨hk2,hjL,hJ2,by show C+k2+(L.length-(j+1))<C+(N+1)+k;omega⟩,by show L.length-(j+1)<L.length-j;omega⟩
       |true=>
        have hrp:Rch f (-1) p:=(hrc p hpN).1 hc;have hlen:(r2.take k2++[p]).length=k2+1:=by rw[uR,DK];simp;omega
        have hJ2:=hJ.push (pend':=(r2.take k2++[p]).take (k2+1)) JX hrp hnp (fun x=>by rw[vG (by rw[hlen];exact t9 _),FK,xB];exact KH);rw[<-htk] at hJ2;conv=>whnf
        refine⟨rfl,rfl,rfl,(by rw[ad];exact hk2),(JQ:(k2+1)*8<=150000000000000),fun q hq=>?_,?_⟩
        ·cases hq with
         |head=>exact GG rfl
         |tail _ h=>cases h
        conv=>whnf
        have hda:(r2.map eo).take k2++[[ti (p:Nat)]]=(r2.take k2++[p]).map eo:=by rw[FP,H7];rfl
        exact⟨(r2.take k2++[p],k2+1,j+1),[0,1,2,_],[],Sub.mk' rfl ⟨JZ,JZ,⟨rfl,JY,J0⟩,JY,rfl,JY,JZ,JZ,JZ,JZ,.inl (ak hjL JQ),J0⟩ ⟨⟨rfl,JZ,J0⟩,⟨rfl,rfl,rfl,rfl⟩,JY,⟨rfl,rfl,rfl,hda⟩,J0⟩ rfl rfl,⟨by show k2+1<=(r2.take k2++[p]).length;omega,hjL,hJ2,by show C+(k2+1)+(L.length-(j+1))<C+(N+1)+k;omega⟩,by show L.length-(j+1)<L.length-j;omega⟩
      ·have hjt:L.length<=j:=by have:decide ((j:Int)<(L.length:Int))=false:=hjt;have:=ud this;omega
       rw[vG hjt] at hJ;have hI2:=hfin _ _ hJ;conv=>whnf
       refine exT ?_;conv=>whnf
       refine⟨(S++[n],r2,k2),[0,1,2,3],[],Sub.au,⟨hk2,hI2,?_⟩,?_⟩
       ·show(N-(S++[n]).length)*(N+1)+k2<=20000000;rw[hC];omega
       ·show(N-(S++[n]).length)*(N+1)+k2<(N-S.length)*(N+1)+k;rw[hC,hC2];omega
    ·have hk0:k=0:=by have:decide ((k:Int) > 0)=false:=hk0;have:=ud this;omega
     subst hk0;conv=>whnf
     refine exT ?_;conv=>whnf
     have hS:=hI.fin;have hnd:=hI.nd;have hSN:∀(i x:Nat),S[i]?=some x->x<N:=fun i x hx=>hrN x (fC.rch hr ((hS x).1 (i3 hx)));clear hI;refine aq.by (fun seen:List Nat=>⟨[(4,.tr (bh RC)),(5,.tr (cD A)),(6,.fn 114 [.ptr 0 0]),(7,.sl 1 N),(32,.tr (ti N)),(33,.tr (ti h)),(106,.ptr 3 0)],[(0,.cells 38 [.tr (az IL)]),(1,bX (sK (depthN f h) S seen N)),(2,inB S),(3,.itr 2 S.length seen)],10⟩) (fun seen=>seen.Nodup/\∀i∈seen,i<S.length) (fun seen=>S.length-seen.length) [] [0,1,2,_] []
      (Sub.mk' rfl ⟨.inl rfl,.inl rfl,⟨rfl,⟨rfl,rfl⟩,trivial⟩,⟨rfl,rfl⟩,.inl rfl,.inl rfl,⟨rfl,rfl⟩,trivial⟩ ⟨⟨rfl,.inl rfl,trivial⟩,⟨rfl,rfl,rfl,by rw[zu];rfl⟩,⟨rfl,rfl⟩,⟨rfl,mK S,rfl⟩,trivial⟩ rfl rfl) ⟨IT,fun i hi=>by cases hi⟩ ?_
     rintro seen ⟨hsn,hsl⟩ -
     conv=>whnf
     refine qd (es:=kz S) rfl rfl rfl rfl (mK S).symm (fun p hp=>?_) rfl rfl JS (fun hall=>?_) (fun i q t hi hq=>?_)
     ·obtain⟨x,hx,rfl⟩:=GM.1 hp;have hxN:=hrN x (fC.rch hr ((hS x).1 hx));exact⟨(JQ:(-9223372036854775808:Int)<=(x:Int)),(JQ:(x:Int)<=9223372036854775807)⟩
     ·have he:=Ak (N:=N) hS hall;conv=>whnf
      refine exT ?_;conv=>whnf
      exact⟨h+1,[0,1],[],Sub.mk' rfl ⟨JZ,JZ,aut,JY,JZ,.inl (ak hht JQ),J0⟩ ⟨aut,⟨rfl,rfl,rfl,by rw[he]⟩,J0⟩ rfl rfl,hht,by show N-(h+1)<N-h;omega⟩
     ·obtain⟨x,hx,rfl,rfl⟩:=C5 hq;have hxN:=hSN i x hx;obtain⟨ho1,ho2⟩:=xV (D:=depthN f h) hnd hx hxN hi;have hDl:=vI f h x;have hol:(sK (depthN f h) S seen N).length=N:=iL ..;have hiS:i<S.length:=(a9.1 hx).1;have hsn2:(seen++[i]).Nodup:=HW.2 ⟨hsn,JX,fun a ha b hb=>by rw[xB.1 hb];exact fun e=>hi (e ▸ ha)⟩;have hsl2:∀a∈seen++[i],a<S.length:=fun a ha=>(FK.1 ha).elim (hsl a) fun w=>by rw[xB.1 w];exact hiS
      have hlt2:=cI S.length (seen++[i]) hsn2 hsl2;rw[uR] at hlt2;have hlt2:seen.length+1<=S.length:=hlt2;conv=>whnf
      refine⟨(mK S).symm,seen,i,rfl,_,_,hq,⟨(JQ:(-9223372036854775808:Int)<=(x:Int)),(JQ:(x:Int)<=9223372036854775807)⟩,?_⟩;conv=>whnf
      refine⟨rfl,(JQ:(0:Int)<=x),(JQ:(x:Int)<(N:Int)),?_⟩;conv=>whnf
      refine ixV ho1 ?_;refine⟨(JS:0<1),fun t ht=>?_⟩;cases ht;conv=>whnf
      refine⟨rfl,(JQ:(0:Int)<=x),(JQ:(x:Int)<(N:Int)),?_⟩;conv=>whnf
      refine ixS ho1 ?_;refine⟨(JS:0+1<=1),?_⟩;conv=>whnf
      have hw:IntKind.i64.wrap (((depthN f h x:Nat):Int)+1)=((depthN f h x+1:Nat):Int):=by rw[w64 JQ JQ];omega
      refine⟨seen++[i],[0,1,2,3],[],Sub.mk' rfl aut ⟨aut,⟨rfl,rfl,rfl,?_⟩,JY,aut⟩ rfl rfl,⟨hsn2,hsl2⟩,?_⟩;·rw[hw,ho2];exact mo _ x _ _
      ·show S.length-(seen++[i]).length<S.length-seen.length;rw[uR,Io];omega
 ·have hht:h=N:=by have:decide ((h:Int)<(N:Int))=false:=hht;have:=ud this;omega
  subst hht;conv=>whnf
  refine exT ?_;conv=>whnf
  exact⟨⟨rfl,(by show h<=((cJ f h h).map eo).length;rw[ad,fe];exact t9 _),(by show a8 (nt f h)=Tr.lst 1 8 (((cJ f h h).map eo).take h);rw[vG (by rw[ad,fe];exact t9 _)];exact ic _)⟩,J0⟩
abbrev F0:Tr:=.v (.slice none 0 0)
abbrev cr(l:List Nd):Blk:=.vec 112 13 96 (l.map Nd.cells)
abbrev iG:AV:=.tr F0
end Go.Proofs.YtapmdfcmpglieaaGreatDoor.am
set_option maxRecDepth 100000
set_option maxHeartbeats 4000000
namespace Go.Proofs.YtapmdfcmpglieaaGreatDoor.am
open Go Go.Proofs
abbrev Gq(s:Bool)(k w:Int):AV:=.agg [.tr (tb s),.tr (ti k),.tr (ti w)]
theorem Gb(k:Int):K 150 [.tr (ti k)] [] (.ret (Gq true k 0)) []:=by
 refine Ctr.of hT hmix Tryz.func150 rfl (fun _ _=>JR) rfl fun hok=>?_;clear hok;conv=>whnf
 exact aut
abbrev bt(l:List Gr):Tr:=.lst 4 56 (l.map Gr.cells)
end Go.Proofs.YtapmdfcmpglieaaGreatDoor.am
set_option maxRecDepth 100000
set_option maxHeartbeats 4000000
namespace Go.Proofs.YtapmdfcmpglieaaGreatDoor.am
open Go Go.Proofs
structure Un where
 shared:List Decl
 locks:List Decl
 graphs:List Gr
def Un.cells(u:Un):List Tr:=[ae u.shared,ae u.locks,bt u.graphs]
def Un.av(u:Un):AV:=.agg (u.cells.map .tr)
def hasS:List ByteArray->ByteArray->Bool
 |[],_=>false
 |x::r,s=>bif s.toList==x.toList then true else hasS r s
def kL:List ByteArray->ByteArray->List ByteArray
 |[],s=>[s]
 |x::r,s=>bif s.toList==x.toList then s::r else x::kL r s
def AB(l:List ByteArray):List (MK×Tr):=l.map fun x=>(.ks x,tb true)
theorem nz:∀(l:List ByteArray)(s:ByteArray),(ew (AB l) (.ks s)).getD (Tr.v Z.b.val)=tb (hasS l s)
 |[],s=>rfl
 |x::r,s=>by
  show(bif s.toList==x.toList then some (tb true) else ew (AB r) (.ks s)).getD (Tr.v Z.b.val)=tb (bif s.toList==x.toList then true else hasS r s);cases (s.toList==x.toList) with
  |true=>rfl
  |false=>exact nz r s
theorem f8:∀(l:List ByteArray)(s:ByteArray),mput (AB l) (.ks s) (tb true)=AB (kL l s)
 |[],s=>rfl
 |x::r,s=>by show(bif s.toList==x.toList then(.ks s,tb true)::AB r else(.ks x,tb true)::mput (AB r) (.ks s) (tb true))=AB (bif s.toList==x.toList then s::r else x::kL r s);rw[f8 r s];cases (s.toList==x.toList)<;>rfl
def addB(l:List ByteArray)(s:ByteArray):Bool:=nameB s && !hasS l s
def nm3:List ByteArray->List Gr->Bool
 |_,[]=>true
 |l,g::r=>bif addB l g.name then nm3 (kL l g.name) r else false
def nm2(gs:List Gr):List ByteArray->List Decl->Bool
 |l,[]=>nm3 l gs
 |l,d::r=>bif addB l d.name then(bif d.word != 0 then false else nm2 gs (kL l d.name) r) else false
def nm1(ks:List Decl)(gs:List Gr):List ByteArray->List Decl->Bool
 |l,[]=>nm2 gs l ks
 |l,d::r=>bif addB l d.name then nm1 ks gs (kL l d.name) r else false
def sZ(u:Un):Bool:=decide ((u.shared.length:Int) > 64)||decide ((u.locks.length:Int) > 16)||decide ((u.graphs.length:Int) > 8)
def namedB(u:Un):Bool:=bif sZ u then false else nm1 u.locks u.graphs [] u.shared
abbrev xF(l:List ByteArray):Blk:=.map .string (AB l)
abbrev mpB(h:Nat):Blk:=.cells 198 [.mp h]
theorem Fe(l:List ByteArray)(s:ByteArray):K 106 [.tr (ts s),.ptr 0 0] [mpB 1,xF l] (.ret (.tr (tb (addB l s)))) [some (mpB 1),some (xF (kL l s))]:=by
 have hn:=k41 s;refine Ctr.of hT hmix Tryz.func106 rfl (fun _ _=>JR) rfl fun hok=>?_;clear hok;conv=>whnf
 refine aa.pure _ (hn) rfl rfl fun _=>?_;conv=>whnf
 cases hnb:nameB s with
 |false=>
  conv=>whnf
  exact⟨.inl (by unfold addB;rw[hnb];rfl),aut,⟨rfl,f8 l s⟩,J0⟩
 |true=>
  conv=>whnf
  rw[nz];cases hhs:hasS l s with
  |false=>
   conv=>whnf
   exact⟨.inl (by unfold addB;rw[hnb,hhs];rfl),aut,⟨rfl,f8 l s⟩,J0⟩
  |true=>
   conv=>whnf
   exact⟨.inl (by unfold addB;rw[hnb,hhs];rfl),aut,⟨rfl,f8 l s⟩,J0⟩
theorem qk{l:List Decl}{i:Nat}{row:List Tr}(h:(l.map Decl.cells)[i]?=some row):∃d,l[i]?=some d/\row=d.cells:=by rw[z5,z9] at h;obtain⟨d,h1,rfl⟩:=h;exact⟨d,h1,rfl⟩
theorem AZ{l:List Gr}{i:Nat}{row:List Tr}(h:(l.map Gr.cells)[i]?=some row):∃d,l[i]?=some d/\row=d.cells:=by rw[z5,z9] at h;obtain⟨d,h1,rfl⟩:=h;exact⟨d,h1,rfl⟩
theorem CW(u:Un):K 43 [u.av] [] (.ret (.tr (tb (namedB u)))) []:=by
 have hls:(u.shared.map Decl.cells).length=u.shared.length:=ad ..;have hll:(u.locks.map Decl.cells).length=u.locks.length:=ad ..;have hlg:(u.graphs.map Gr.cells).length=u.graphs.length:=ad ..;have hadd:=Fe;refine Ctr.of hT hmix Tryz.func43 rfl (fun _ _=>JR) rfl fun hok=>?_;obtain⟨_,hl1,_⟩:=((hok.slot 0 rfl).agg _ (.head _)).tr.lst;obtain⟨_,hl2,_⟩:=((hok.slot 0 rfl).agg _ (.tail _ (.head _))).tr.lst;obtain⟨_,hl3,_⟩:=((hok.slot 0 rfl).agg _ (.tail _ (.tail _ (.head _)))).tr.lst;rw[ad] at hl1 hl2 hl3;clear hok;conv=>whnf
 cases h1:decide (((u.shared.map Decl.cells).length:Int) > 64) with
 |true=>
  conv=>whnf
  exact⟨.inl (by rw[hls] at h1;unfold namedB sZ;rw[h1];rfl),J0⟩
 |false=>
 conv=>whnf
 cases h2:decide (((u.locks.map Decl.cells).length:Int) > 16) with
 |true=>
  conv=>whnf
  exact⟨.inl (by rw[hls] at h1;rw[hll] at h2;unfold namedB sZ;rw[h1,h2];rfl),J0⟩
 |false=>
 conv=>whnf
 cases h3:decide (((u.graphs.map Gr.cells).length:Int) > 8) with
 |true=>
  conv=>whnf
  exact⟨.inl (by rw[hls] at h1;rw[hll] at h2;rw[hlg] at h3;unfold namedB sZ;rw[h1,h2,h3];rfl),J0⟩
 |false=>
 have hN:namedB u=nm1 u.locks u.graphs [] u.shared:=by rw[hls] at h1;rw[hll] at h2;rw[hlg] at h3;unfold namedB sZ;rw[h1,h2,h3];rfl
 generalize namedB u=R at hN |-
 clear h1 h2 h3;conv=>whnf
 refine aq.by (fun x:List ByteArray×Nat=>⟨[(1,.ptr 0 0),(4,.fn 106 [.ptr 1 0]),(30,.tr (ae u.shared)),(31,.tr (ti (u.shared.length:Nat))),(32,.tr (ti (x.2:Nat)))],[(0,.cells 26 [.tr (ae u.shared),.tr (ae u.locks),.tr (bt u.graphs)]),(1,mpB 2),(2,xF x.1)],10⟩) (fun x=>x.2<=u.shared.length/\R=nm1 u.locks u.graphs x.1 (u.shared.drop x.2)) (fun x=>u.shared.length-x.2) ([],0) [_,_,_] []
  (Sub.mk' rfl ⟨⟨rfl,rfl⟩,⟨rfl,⟨rfl,rfl⟩,trivial⟩,.inl rfl,.inl (by rw[<-hls]),.inl rfl,trivial⟩ ⟨⟨rfl,.inl rfl,.inl rfl,.inl rfl,trivial⟩,⟨rfl,rfl,trivial⟩,⟨rfl,rfl⟩,trivial⟩ rfl rfl) ⟨x5 _,hN⟩ ?_
 clear hN;rintro⟨l,i⟩ ⟨hi,hN⟩ -
 simp only at hi hN;conv=>whnf
 refine ah (fun hit=>?_) (fun hit=>?_)
 ·have hit:i<u.shared.length:=by have:decide ((i:Int)<(u.shared.length:Int))=true:=hit;have:=of_decide_eq_true this;omega
  obtain⟨d,hd⟩:∃d,u.shared[i]?=some d:=⟨_,ab hit⟩;rw[aG hd] at hN;obtain⟨dn,dw,da⟩:=d;conv=>whnf
  refine⟨rfl,(JQ:(0:Int)<=i),(JQ:(i:Int)<((u.shared.map Decl.cells).length:Int)),fun row hrow=>?_⟩;obtain⟨d',hd',rfl⟩:=qk hrow;obtain rfl:=vx (hd.symm.trans hd');clear hrow hd' hd;conv=>whnf
  refine aa.au [1,2] [] (hadd l dn) ?_;intro _;conv=>whnf
  cases hA:addB l dn with
  |false=>
   conv=>whnf
   exact⟨.inl (by rw[hN];show tb false=tb (bif addB l dn then _ else false);rw[hA];rfl),J0⟩
  |true=>
   replace hN:R=nm1 u.locks u.graphs (kL l dn) (u.shared.drop (i+1)):=by rw[hN];show(bif addB l dn then _ else false)=_;rw[hA];rfl
   conv=>whnf
   exact⟨(kL l dn,i+1),[0,1,2],[],Sub.mk' rfl ⟨JY,aut,JZ,JZ,.inl (ak hit JQ),J0⟩ aut rfl rfl,⟨hit,hN⟩,by show u.shared.length-(i+1)<u.shared.length-i;omega⟩
 have hit:u.shared.length<=i:=by have:decide ((i:Int)<(u.shared.length:Int))=false:=hit;have:=ud this;omega
 rw[Hg hit] at hN;conv=>whnf
 refine exT ?_;conv=>whnf
 refine aq.by (fun x:List ByteArray×Nat=>⟨[(1,.ptr 0 0),(4,.fn 106 [.ptr 1 0]),(43,.tr (ae u.locks)),(44,.tr (ti (u.locks.length:Nat))),(45,.tr (ti (x.2:Nat)))],[(0,.cells 26 [.tr (ae u.shared),.tr (ae u.locks),.tr (bt u.graphs)]),(1,mpB 2),(2,xF x.1)],10⟩) (fun x=>x.2<=u.locks.length/\R=nm2 u.graphs x.1 (u.locks.drop x.2)) (fun x=>u.locks.length-x.2) (l,0) [0,1,2] []
  (Sub.mk' rfl ⟨⟨rfl,rfl⟩,aut,.inl rfl,.inl (by rw[<-hll]),aut⟩ aut rfl rfl) ⟨x5 _,hN⟩ ?_
 clear hN;rintro⟨l,i⟩ ⟨hi,hN⟩ -
 simp only at hi hN;conv=>whnf
 refine ah (fun hit=>?_) (fun hit=>?_)
 ·have hit:i<u.locks.length:=by have:decide ((i:Int)<(u.locks.length:Int))=true:=hit;have:=of_decide_eq_true this;omega
  obtain⟨d,hd⟩:∃d,u.locks[i]?=some d:=⟨_,ab hit⟩;rw[aG hd] at hN;obtain⟨dn,dw,da⟩:=d;conv=>whnf
  refine⟨rfl,(JQ:(0:Int)<=i),(JQ:(i:Int)<((u.locks.map Decl.cells).length:Int)),fun row hrow=>?_⟩;obtain⟨d',hd',rfl⟩:=qk hrow;obtain rfl:=vx (hd.symm.trans hd');clear hrow hd' hd;conv=>whnf
  refine aa.au [1,2] [] (hadd l dn) ?_;intro _;conv=>whnf
  cases hA:addB l dn with
  |false=>
   conv=>whnf
   exact⟨.inl (by rw[hN];show tb false=tb (bif addB l dn then _ else false);rw[hA];rfl),J0⟩
  |true=>
   by_cases hw:dw=0
   ·subst hw
    replace hN:R=nm2 u.graphs (kL l dn) (u.locks.drop (i+1)):=by rw[hN];show(bif addB l dn then _ else false)=_;rw[hA];rfl
    conv=>whnf
    exact⟨(kL l dn,i+1),[0,1,2],[],Sub.mk' rfl ⟨JY,aut,JZ,JZ,.inl (ak hit JQ),J0⟩ aut rfl rfl,⟨hit,hN⟩,by show u.locks.length-(i+1)<u.locks.length-i;omega⟩
   ·have e:(dw != 0)=true:=J4.2 hw
    replace hN:R=false:=by rw[hN];show(bif addB l dn then(bif dw != 0 then false else _) else false)=_;rw[hA,e];rfl
    conv=>whnf
    rw[e];conv=>whnf
    exact⟨.inl (by rw[hN]),J0⟩
 have hit:u.locks.length<=i:=by have:decide ((i:Int)<(u.locks.length:Int))=false:=hit;have:=ud this;omega
 rw[Hg hit] at hN;conv=>whnf
 refine exT ?_;conv=>whnf
 refine aq.by (fun x:List ByteArray×Nat=>⟨[(1,.ptr 0 0),(4,.fn 106 [.ptr 1 0]),(61,.tr (bt u.graphs)),(62,.tr (ti (u.graphs.length:Nat))),(63,.tr (ti (x.2:Nat)))],[(0,.cells 26 [.tr (ae u.shared),.tr (ae u.locks),.tr (bt u.graphs)]),(1,mpB 2),(2,xF x.1)],10⟩) (fun x=>x.2<=u.graphs.length/\R=nm3 x.1 (u.graphs.drop x.2)) (fun x=>u.graphs.length-x.2) (l,0) [0,1,2] []
  (Sub.mk' rfl ⟨⟨rfl,rfl⟩,aut,.inl rfl,.inl (by rw[<-hlg]),aut⟩ aut rfl rfl) ⟨x5 _,hN⟩ ?_
 clear hN;rintro⟨l,i⟩ ⟨hi,hN⟩ -
 simp only at hi hN;conv=>whnf
 refine ah (fun hit=>?_) (fun hit=>?_)
 ·have hit:i<u.graphs.length:=by have:decide ((i:Int)<(u.graphs.length:Int))=true:=hit;have:=of_decide_eq_true this;omega
  obtain⟨d,hd⟩:∃d,u.graphs[i]?=some d:=⟨_,ab hit⟩;rw[aG hd] at hN;obtain⟨dn,lc,sl,ns⟩:=d;conv=>whnf
  refine⟨rfl,(JQ:(0:Int)<=i),(JQ:(i:Int)<((u.graphs.map Gr.cells).length:Int)),fun row hrow=>?_⟩;obtain⟨d',hd',rfl⟩:=AZ hrow;obtain rfl:=vx (hd.symm.trans hd');clear hrow hd' hd;conv=>whnf
  refine aa.au [1,2] [] (hadd l dn) ?_;intro _;conv=>whnf
  cases hA:addB l dn with
  |false=>
   conv=>whnf
   exact⟨.inl (by rw[hN];show tb false=tb (bif addB l dn then _ else false);rw[hA];rfl),J0⟩
  |true=>
   replace hN:R=nm3 (kL l dn) (u.graphs.drop (i+1)):=by rw[hN];show(bif addB l dn then _ else false)=_;rw[hA];rfl
   conv=>whnf
   exact⟨(kL l dn,i+1),[0,1,2],[],Sub.mk' rfl ⟨JY,aut,JZ,JZ,.inl (ak hit JQ),J0⟩ aut rfl rfl,⟨hit,hN⟩,by show u.graphs.length-(i+1)<u.graphs.length-i;omega⟩
 have hit:u.graphs.length<=i:=by have:decide ((i:Int)<(u.graphs.length:Int))=false:=hit;have:=ud this;omega
 rw[Hg hit] at hN;conv=>whnf
 refine exT ?_;conv=>whnf
 exact⟨.inl (by rw[hN];rfl),J0⟩
end Go.Proofs.YtapmdfcmpglieaaGreatDoor.am
set_option maxRecDepth 100000
set_option maxHeartbeats 4000000
namespace Go.Proofs.YtapmdfcmpglieaaGreatDoor.am
open Go Go.Proofs
def bT(kind op:Int):Int:=bif kind==1 then(bif two op then 59 else 43) else bif kind==2 then 38 else bif kind==3 then 44 else bif kind==4 then 46 else bif kind==5 then 36 else bif kind==6 then 36 else bif kind==7 then 40 else bif kind==8 then 104 else 0
theorem C3{k:Int}(h1:(k==0)=false)(h2:decide (k>=10)=false)(h0:0<=k):k=1\/k=2\/k=3\/k=4\/k=5\/k=6\/k=7\/k=8\/k=9:=by have:=GX.1 h1;have:=ud h2;omega
theorem CX(n:Nd)(hk:n.kind=1\/n.kind=2\/n.kind=3\/n.kind=4\/n.kind=5\/n.kind=6\/n.kind=7\/n.kind=8\/n.kind=9):K 108 [n.av] [] (.ret (.tr (tu (bT n.kind n.op)))) []:=by
 obtain⟨kind,op,slot,thing,⟨sa,ka,wa⟩,⟨sb,kb,wb⟩,next,els,origin⟩:=n;simp only at hk;have ht:=D4 op;rcases hk with rfl|rfl|rfl|rfl|rfl|rfl|rfl|rfl|rfl
 ·refine Ctr.of hT hmix Tryz.func108 rfl (fun _ _=>JR) rfl fun hok=>?_;clear hok;conv=>whnf
  refine⟨of_decide_eq_true rfl,of_decide_eq_true rfl,?_⟩;conv=>whnf
  refine aa.pure _ (ht) rfl rfl fun _=>?_;conv=>whnf
  cases h2:two op with
  |true=>
   conv=>whnf
   exact⟨.inl (E8 tu (by unfold bT;rw[h2];rfl)),J0⟩
  |false=>
   conv=>whnf
   exact⟨.inl (E8 tu (by unfold bT;rw[h2];rfl)),J0⟩
 all_goals
  refine Ctr.of hT hmix Tryz.func108 rfl (fun _ _=>JR) rfl fun hok=>?_;clear hok;conv=>whnf
  refine⟨of_decide_eq_true rfl,of_decide_eq_true rfl,?_⟩;conv=>whnf
  exact aut
abbrev andP(p has:Int):Int:=IntKind.u8.wrap ((BitVec.ofInt IntKind.u8.bits p &&& BitVec.ofInt IntKind.u8.bits has).toNat:Int)
def withinB(p has k most:Int):Bool:=(andP p has==0&&k==0)||(andP p has != 0&&decide (k>=0)&&decide (k<most))
def valueB(p has:Int)(v:Val)(slots:Int):Bool:=bif andP p has==0 then(v.s==false&&(v.k==0&&(v.w==0&&true))) else bif v.s then(decide (v.k>=0)&&decide (v.k<slots)&&v.w==0) else v.k==0
abbrev vj(p:Int):Blk:=.cells 201 [.tr (tu p)]
theorem zr(p has k most:Int):K 109 [.tr (ti k),.tr (tu has),.tr (ti most),.ptr 0 0] [vj p] (.ret (.tr (tb (withinB p has k most)))) [some (vj p)]:=by
 refine Ctr.of hT hmix Tryz.func109 rfl (fun _ _=>JR) rfl fun hok=>?_;clear hok;conv=>whnf
 cases h1:(andP p has==0) with
 |true=>
  have e1:(andP p has != 0)=false:=by rw[bne,h1];rfl
  conv=>whnf
  cases h2:(k==0) with
  |true=>
   conv=>whnf
   exact⟨.inl (E8 tb (by unfold withinB;rw[h1,h2];rfl)),aut,J0⟩
  |false=>
   conv=>whnf
   rw[e1];conv=>whnf
   exact⟨.inl (E8 tb (by unfold withinB;rw[h1,h2,e1];rfl)),aut,J0⟩
 |false=>
  have e1:(andP p has != 0)=true:=by rw[bne,h1];rfl
  conv=>whnf
  rw[e1];conv=>whnf
  cases h2:decide (k>=0) with
  |false=>
   conv=>whnf
   exact⟨.inl (E8 tb (by unfold withinB;rw[h1,h2,e1];rfl)),aut,J0⟩
  |true=>
   conv=>whnf
   cases h3:decide (k<most) with
   |false=>
    conv=>whnf
    exact⟨.inl (E8 tb (by unfold withinB;rw[h1,h2,h3,e1];rfl)),aut,J0⟩
   |true=>
    conv=>whnf
    exact⟨.inl (E8 tb (by unfold withinB;rw[h1,h2,h3,e1];rfl)),aut,J0⟩
abbrev A1(g:Gr):Blk:=.cells 41 (g.cells.map .tr)
theorem yL(p has:Int)(v:Val)(g:Gr):K 110 [.agg [.tr (tb v.s),.tr (ti v.k),.tr (ti v.w)],.tr (tu has),.ptr 0 0,.ptr 1 0] [vj p,A1 g] (.ret (.tr (tb (valueB p has v g.slots)))) [some (vj p),some (A1 g)]:=by
 refine Ctr.of hT hmix Tryz.func110 rfl (fun _ _=>JR) rfl fun hok=>?_;clear hok;conv=>whnf
 cases h1:(andP p has==0) with
 |true=>
  conv=>whnf
  exact⟨.inl (E8 tb (by unfold valueB;rw[h1];rfl)),aut,aut,J0⟩
 |false=>
  conv=>whnf
  cases h2:v.s with
  |false=>
   conv=>whnf
   exact⟨.inl (E8 tb (by unfold valueB;rw[h1,h2];rfl)),aut,aut,J0⟩
  |true=>
   conv=>whnf
   cases h3:decide (v.k>=0) with
   |false=>
    conv=>whnf
    exact⟨.inl (E8 tb (by unfold valueB;rw[h1,h2,h3];rfl)),aut,aut,J0⟩
   |true=>
    conv=>whnf
    cases h4:decide (v.k<g.slots) with
    |false=>
     conv=>whnf
     exact⟨.inl (E8 tb (by unfold valueB;rw[h1,h2,h3,h4];rfl)),aut,aut,J0⟩
    |true=>
     conv=>whnf
     exact⟨.inl (E8 tb (by unfold valueB;rw[h1,h2,h3,h4];rfl)),aut,aut,J0⟩
def thingsI(u:Un)(n:Nd):Int:=bif n.kind==5 then(u.locks.length:Int) else bif n.kind==6 then(u.locks.length:Int) else(u.shared.length:Int)
def bo(u:Un)(g:Gr)(n:Nd)(p:Int):Bool:=withinB p 1 n.op 19&&withinB p 2 n.slot g.slots&&withinB p 4 n.thing (thingsI u n)&&withinB p 32 n.next g.nodes.length&&withinB p 64 n.els g.nodes.length&&valueB p 8 n.a g.slots&&valueB p 16 n.b g.slots
def headR(n:Nd):Bool:=n.kind==0||decide (n.kind>=10)||decide (n.origin<0)||decide (n.origin>=4096)
def rightB(u:Un)(g:Gr)(n:Nd):Bool:=bif headR n then false else bo u g n (bT n.kind n.op)
theorem BF(u:Un)(g:Gr)(n:Nd)(hk0:0<=n.kind)(hop:0<=n.op/\n.op<=255):K 44 [u.av,g.av,n.av] [] (.ret (.tr (tb (rightB u g n)))) []:=by
 have hw:=zr;have hv:=yL;refine Ctr.cut [9] hT hmix Tryz.func44 rfl (fun _ _=>JR) rfl fun hok=>?_;clear hok;conv=>whnf
 cases h1:(n.kind==0) with
 |true=>
  conv=>whnf
  exact⟨.inl (E8 tb (by unfold rightB headR;rw[h1];rfl)),J0⟩
 |false=>
 conv=>whnf
 cases h2:decide (n.kind>=10) with
 |true=>
  conv=>whnf
  exact⟨.inl (E8 tb (by unfold rightB headR;rw[h1,h2];rfl)),J0⟩
 |false=>
 conv=>whnf
 cases h3:decide (n.origin<0) with
 |true=>
  conv=>whnf
  exact⟨.inl (E8 tb (by unfold rightB headR;rw[h1,h2,h3];rfl)),J0⟩
 |false=>
 conv=>whnf
 cases h4:decide (n.origin>=4096) with
 |true=>
  conv=>whnf
  exact⟨.inl (E8 tb (by unfold rightB headR;rw[h1,h2,h3,h4];rfl)),J0⟩
 |false=>
 have hp:=CX n (C3 h1 h2 hk0);have hR:rightB u g n=bo u g n (bT n.kind n.op):=by unfold rightB headR;rw[h1,h2,h3,h4];rfl
 rw[hR];generalize bT n.kind n.op=p at hp hR |-
 clear h1 h2 h3 h4 hR;conv=>whnf
 refine aa.pure _ (hp) rfl rfl fun _=>?_;conv=>whnf
 refine bD.by (fun _:Unit=>⟨[(4,.ptr 0 0),(5,.ptr 1 0),(8,.fn 109 [.ptr 2 0]),(9,.fn 110 [.ptr 2 0,.ptr 0 0]),(10,.tr (ti (thingsI u n)))],[(0,A1 g),(1,.cells 112 (n.cells.map .tr)),(2,vj p)],10⟩) (fun _=>True) ?_ ?_
 ·conv=>whnf
  cases h5:(n.kind==5) with
  |true=>
   conv=>whnf
   exact⟨(),[_,_,_],[],Sub.mk' rfl ⟨JY,JY,⟨rfl,JY,J0⟩,⟨rfl,JY,JY,J0⟩,.inl (E8 ti (by unfold thingsI;rw[h5,ad];rfl)),J0⟩ ⟨⟨rfl,JZ,JZ,JZ,JZ,J0⟩,⟨rfl,JZ,JZ,JZ,JZ,JZ,JZ,JZ,JZ,JZ,JZ,JZ,JZ,JZ,J0⟩,⟨rfl,JZ,J0⟩,J0⟩ rfl rfl,J0⟩
  |false=>
   conv=>whnf
   cases h6:(n.kind==6) with
   |true=>
    conv=>whnf
    exact⟨(),[_,_,_],[],Sub.mk' rfl ⟨JY,JY,⟨rfl,JY,J0⟩,⟨rfl,JY,JY,J0⟩,.inl (E8 ti (by unfold thingsI;rw[h5,h6,ad];rfl)),J0⟩ ⟨⟨rfl,JZ,JZ,JZ,JZ,J0⟩,⟨rfl,JZ,JZ,JZ,JZ,JZ,JZ,JZ,JZ,JZ,JZ,JZ,JZ,JZ,J0⟩,⟨rfl,JZ,J0⟩,J0⟩ rfl rfl,J0⟩
   |false=>
    conv=>whnf
    exact⟨(),[_,_,_],[],Sub.mk' rfl ⟨JY,JY,⟨rfl,JY,J0⟩,⟨rfl,JY,JY,J0⟩,.inl (E8 ti (by unfold thingsI;rw[h5,h6,ad];rfl)),J0⟩ ⟨⟨rfl,JZ,JZ,JZ,JZ,J0⟩,⟨rfl,JZ,JZ,JZ,JZ,JZ,JZ,JZ,JZ,JZ,JZ,JZ,JZ,JZ,J0⟩,⟨rfl,JZ,J0⟩,J0⟩ rfl rfl,J0⟩
 rintro - - -
 conv=>whnf
 have hwo:IntKind.i64.wrap n.op=n.op:=w64 JQ JQ;have hnl:(((g.nodes.map Nd.cells).length:Nat):Int)=(g.nodes.length:Int):=by rw[ad]
 have hF:bo u g n p=(withinB p 1 (IntKind.i64.wrap n.op) 19&&withinB p 2 n.slot g.slots&&withinB p 4 n.thing (thingsI u n)&&withinB p 32 n.next (((g.nodes.map Nd.cells).length:Nat):Int)&&withinB p 64 n.els (((g.nodes.map Nd.cells).length:Nat):Int)&&valueB p 8 n.a g.slots&&valueB p 16 n.b g.slots):=by unfold bo;rw[hwo,hnl]
 rw[hF];clear hF hwo hnl;refine aa.au [2] [] (hw p 1 (IntKind.i64.wrap n.op) 19) ?_;intro _;conv=>whnf
 cases c0:withinB p 1 (IntKind.i64.wrap n.op) 19 with
 |false=>
  conv=>whnf
  exact aut
 |true=>
 conv=>whnf
 refine aa.au [2] [] (hw p 2 n.slot g.slots) ?_;intro _;conv=>whnf
 cases c1:withinB p 2 n.slot g.slots with
 |false=>
  conv=>whnf
  exact aut
 |true=>
 conv=>whnf
 refine aa.au [2] [] (hw p 4 n.thing (thingsI u n)) ?_;intro _;conv=>whnf
 cases c2:withinB p 4 n.thing (thingsI u n) with
 |false=>
  conv=>whnf
  exact aut
 |true=>
 conv=>whnf
 refine aa.au [2] [] (hw p 32 n.next (((g.nodes.map Nd.cells).length:Nat):Int)) ?_;intro _;conv=>whnf
 cases c3:withinB p 32 n.next (((g.nodes.map Nd.cells).length:Nat):Int) with
 |false=>
  conv=>whnf
  exact aut
 |true=>
 conv=>whnf
 refine aa.au [2] [] (hw p 64 n.els (((g.nodes.map Nd.cells).length:Nat):Int)) ?_;intro _;conv=>whnf
 cases c4:withinB p 64 n.els (((g.nodes.map Nd.cells).length:Nat):Int) with
 |false=>
  conv=>whnf
  exact aut
 |true=>
 conv=>whnf
 refine aa.au [2,0] [] (hv p 8 n.a g) ?_;intro _;conv=>whnf
 cases c5:valueB p 8 n.a g.slots with
 |false=>
  conv=>whnf
  exact aut
 |true=>
 conv=>whnf
 refine aa.au [2,0] [] (hv p 16 n.b g) ?_;intro _;conv=>whnf
 cases c6:valueB p 16 n.b g.slots with
 |false=>
  conv=>whnf
  exact aut
 |true=>
 conv=>whnf
 exact aut
end Go.Proofs.YtapmdfcmpglieaaGreatDoor.am
set_option maxRecDepth 100000
set_option maxHeartbeats 4000000
namespace Go.Proofs.YtapmdfcmpglieaaGreatDoor.am
open Go Go.Proofs
theorem kN{X:Gh->World->Prop}{k N id nx d0 d1 d2 t e a1 a2 n B:Nat}{a3:List Z}{a4:Bool}{pos1 pos2:String}{af1 af2:Array Edge}{ty1 ty2 ty3:Nat}{Q:QL}{tl:List (Nat×AV)}{bl:List (Nat×Option Blk)}{ops:Array Oper}{rows:List (List Tr)}
  (hops:ops=[⟨some d1,.move (.tmp d0),ty1,pos1,af1,none⟩,⟨some d2,.binOp .eql t (.tmp d1) (.const (.slice none 0 0)) ty3,ty2,pos2,af2,none⟩].toArray)
  (ht:lk T t=some ⟨.slice e,a1,a2,a3,a4⟩) (h0:lk tl d0=some (.tr (.lst n B rows))) (hd1:Nat.blt d1 N=true) (hd2:Nat.blt d2 N=true) (hb:nx+2<=HMod)
  (h:∀b:Bool,(rows≠[]->b=false)->kx Tryz.prog T N ops nx Q [] 2 (cw (cw tl (some d1) (.tr (.lst n B rows))) (some d2) (.tr (tb b))) bl) :
  Wp X Tryz.prog k N (.region id ops false) (Ql Q) (LS.mk tl bl nx).st:=by
 intro g0 g w0 w act hk hs;refine If ?_;have hN:=hs.size
 replace hd1:d1<N:=oo hd1
 replace hd2:d2<N:=oo hd2
 obtain⟨_,hR⟩:=hs.fr d0 _ h0;obtain⟨ao,cap,f,hv,q1,q2,q3,q4,q5,q6⟩:=eu hR.tr_inv;obtain⟨ti,u,zt,_,u2,u3,_⟩:=hT.info ht;obtain rfl:=aR u3;have hb':=h ao.isNone (fun hne=>by
  cases rows with
  |nil=>exact absurd rfl hne
  |cons r rs=>
   obtain⟨_,b,o,e1,_⟩:=q5 0 r rfl;rw[e1];rfl)
 have hto:ops.toList=[⟨some d1,.move (.tmp d0),ty1,pos1,af1,none⟩,⟨some d2,.binOp .eql t (.tmp d1) (.const (.slice none 0 0)) ty3,ty2,pos2,af2,none⟩]:=by rw[hops]
 rw[hto];have hev0:act.eval (.tmp d0)=.slice ao rows.length cap:=hv;unfold wpList;rw[Gw (by simp[Region.wanted])];refine .inl ?_;unfold Oper.wp;rw[show(execOp act.eval ⟨some d1,.move (.tmp d0),ty1,pos1,af1,none⟩).run Tryz.prog w=.ok (.value (.slice ao rows.length cap)) w by simp[execOp,hev0]];show wpList Tryz.prog ops _ _ (act.put (some d1) (.slice ao rows.length cap)) _;unfold wpList;rw[Gw (by simp[Region.wanted])];refine .inl ?_;unfold Oper.wp;have he:(act.put (some d1) (.slice ao rows.length cap)).eval (.tmp d1)=.slice ao rows.length cap:=by show(act.tmps.setIfInBounds d1 _).getD d1 undef=_;rw[bI JQ,Gw rfl]
 have heq:(Op.equal t (.slice ao rows.length cap) (.slice none 0 0)).run Tryz.prog w=.ok ao.isNone w:=by show(Op.equalIn (9999+1) t (.slice ao rows.length cap) (.slice none 0 0)).run Tryz.prog w=.ok ao.isNone w;generalize 9999=m;cases ao<;>simp[Op.equalIn,GP u2]
 have hc:(act.put (some d1) (.slice ao rows.length cap)).eval (.const (.slice none 0 0))=.slice none 0 0:=rfl;rw[show(execOp (act.put (some d1) (.slice ao rows.length cap)).eval ⟨some d2,.binOp .eql t (.tmp d1) (.const (.slice none 0 0)) ty3,ty2,pos2,af2,none⟩).run Tryz.prog w=.ok (.value (.bool ao.isNone)) w by simp[execOp,he,hc,eqGuard,binOp,heq]];change wpList Tryz.prog ops (ox g0 w0 N (Ql Q)) [] ((act.put (some d1) (.slice ao rows.length cap)).put (some d2) (.bool ao.isNone)) w;have hR':Rep g w (.slice ao rows.length cap) (.tr (.lst n B rows)):=by rw[<-hv];exact hR
 obtain⟨p1,p2⟩:=d8 (dst:=some d1) hN hs.fr (Grow.refl _ _) (by unfold dstOk;exact G6 hd1) hR';obtain⟨r1,r2⟩:=d8 (dst:=some d2) p1 p2 (Grow.refl _ _) (by unfold dstOk;exact G6 hd2) (show Rep g w (.bool ao.isNone) (.tr (tb ao.isNone)) from .tr (.v trivial));refine fT hT nx Q [] 2 _ bl g _ _ (by show nx+(2+0)<=HMod;omega) hb' ⟨r1,(bc ..).trans ((bc ..).trans hs.defers),?_,hs.mem,fun h hh=>hs.un h (by show nx<=h % HMod;omega),hs.grow⟩;rw[cS,cS];exact r2
abbrev ivB(l:List Int):Blk:=.vec 3 1 8 (l.map irow)
theorem me(l:List Int)(hl:l.length*8<=150000000000000):K 20 [.tr (az l)] [] (.ret (.sl 0 l.length)) [some (ivB l)]:=by
 refine Ctr.new [2000001,0] hT hmix Tryz.func20 rfl (fun _ _=>JR) rfl fun hok=>?_;clear hok;conv=>whnf
 refine kN rfl rfl rfl rfl rfl JS fun b hb=>?_;cases b
 ·conv=>whnf
  refine bD.by (fun _:Unit=>⟨[(2,.sl 0 l.length)],[(0,ivB l)],10⟩) (fun _=>True) ?_ ?_
  ·conv=>whnf
   refine⟨rfl,rfl,rfl,t9 _,(by show(0+(l.map irow).length)*8<=150000000000000;rw[ad];omega),(fun q hq=>by cases hq),?_⟩;conv=>whnf
   exact⟨(),[_],[],Sub.mk' rfl ⟨⟨rfl,JX⟩,J0⟩ ⟨⟨rfl,rfl,rfl,rfl⟩,J0⟩ rfl rfl,J0⟩
  ·rintro - - -
   conv=>whnf
   exact⟨[0],rfl,rfl,JY,aut,J0⟩
 ·obtain rfl:l=[]:=by
   cases l with
   |nil=>rfl
   |cons x l=>exact absurd (hb JX) JX
  conv=>whnf
  refine bD.by (fun _:Unit=>⟨[(2,.sl 0 0)],[(0,ivB [])],10⟩) (fun _=>True) ?_ ?_
  ·conv=>whnf
   exact⟨(),[],[0],Sub.mk' rfl aut ⟨⟨rfl,_,_,_,rfl,JS⟩,J0⟩ rfl rfl,J0⟩
  ·rintro - - -
   conv=>whnf
   exact⟨[0],rfl,rfl,JY,aut,J0⟩
theorem qm(l:List Int)(hl:l.length*8<=150000000000000):K 20 [.tr (az l)] [] (.ret (.tr (az l))) []:=by
 refine Ctr.cut [2000001,0] hT hmix Tryz.func20 rfl (fun _ _=>JR) rfl fun hok=>?_;clear hok;conv=>whnf
 refine kN rfl rfl rfl rfl rfl JS fun b hb=>?_;cases b
 ·conv=>whnf
  refine bD.by (fun _:Unit=>⟨[(2,.tr (az l))],[],10⟩) (fun _=>True) ?_ ?_
  ·conv=>whnf
   refine⟨rfl,rfl,rfl,t9 _,(by show(0+(l.map irow).length)*8<=150000000000000;rw[ad];omega),(fun q hq=>by cases hq),?_⟩;conv=>whnf
   exact⟨(),[],[],Sub.mk' rfl ⟨⟨rfl,(by show 0+(l.map irow).length<=(l.map irow).length;omega),(by show az l=Tr.lst 1 8 ((l.map irow).take (0+(l.map irow).length));rw[E7,Hi])⟩,J0⟩ trivial rfl rfl,J0⟩
  ·rintro - - -
   conv=>whnf
   exact aut
 ·obtain rfl:l=[]:=by
   cases l with
   |nil=>rfl
   |cons x l=>exact absurd (hb JX) JX
  conv=>whnf
  refine bD.by (fun _:Unit=>⟨[(2,.tr (az []))],[],10⟩) (fun _=>True) ?_ ?_
  ·conv=>whnf
   exact⟨(),[],[],Sub.mk' rfl ⟨.inr ⟨rfl,_,_,rfl⟩,J0⟩ trivial rfl rfl,J0⟩
  ·rintro - - -
   conv=>whnf
   exact aut
def eqI:List Int->List Int->Bool
 |[],[]=>true
 |a::l,a'::l'=>bif a != a' then false else eqI l l'
 |_,_=>false
def eqI2(l l':List Int):Bool:=bif (l.length:Int) != (l'.length:Int) then false else eqI l l'
theorem uH(l l':List Int):K 112 [.tr (az l),.tr (az l')] [] (.ret (.tr (tb (eqI2 l l')))) []:=by
 have h1:(l.map irow).length=l.length:=ad ..;have h2:(l'.map irow).length=l'.length:=ad ..;refine Ctr.of hT hmix Tryz.func112 rfl (fun _ _=>JR) rfl fun hok=>?_;obtain⟨_,hl1,_⟩:=(hok.slot 0 rfl).tr.lst;rw[ad] at hl1;clear hok;conv=>whnf
 cases hc:(((l.map irow).length:Int) != ((l'.map irow).length:Int)) with
 |true=>
  conv=>whnf
  exact⟨.inl (E8 tb (by rw[h1,h2] at hc;unfold eqI2;rw[hc];rfl)),J0⟩
 |false=>
 have hE:eqI2 l l'=eqI l l':=by rw[h1,h2] at hc;unfold eqI2;rw[hc];rfl
 have hll:l.length=l'.length:=by rw[h1,h2] at hc;refine HE fun w=>?_;rw[J4.2 (fun e=>w JQ)] at hc;cases hc
 rw[hE];generalize hR:eqI l l'=R;clear hE hc;conv=>whnf
 refine aq.by (fun i:Nat=>⟨[(0,.tr (az l)),(1,.tr (az l')),(12,.tr (ti l.length)),(13,.tr (ti i))],[],10⟩) (fun i=>i<=l.length/\R=eqI (l.drop i) (l'.drop i)) (fun i=>l.length-i) 0 [] []
  (Sub.mk' rfl ⟨.inl rfl,.inl rfl,.inl (by rw[<-h1]),aut⟩ trivial rfl rfl) ⟨x5 _,hR.symm⟩ ?_
 clear hR;rintro i ⟨hi,hR⟩ -
 conv=>whnf
 refine ah (fun hit=>?_) (fun hit=>?_)
 ·have hit:i<l.length:=by have:decide ((i:Int)<(l.length:Int))=true:=hit;have:=of_decide_eq_true this;omega
  obtain⟨a,ha⟩:∃a,l[i]?=some a:=⟨_,ab hit⟩;obtain⟨b,hb⟩:∃b,l'[i]?=some b:=⟨_,ab JQ⟩;rw[aG ha,aG hb] at hR;conv=>whnf
  refine⟨rfl,(JQ:(0:Int)<=i),(JQ:(i:Int)<((l.map irow).length:Int)),fun row hrow=>?_⟩;obtain⟨d,hd,rfl⟩:=eK hrow;obtain rfl:=vx (ha.symm.trans hd);clear hrow hd;conv=>whnf
  refine⟨rfl,(JQ:(0:Int)<=i),(JQ:(i:Int)<((l'.map irow).length:Int)),fun row hrow=>?_⟩;obtain⟨d,hd,rfl⟩:=eK hrow;obtain rfl:=vx (hb.symm.trans hd);clear hrow hd;conv=>whnf
  refine drT ?_;conv=>whnf
  cases hab:(a != b) with
  |true=>
   conv=>whnf
   exact⟨.inl (by rw[hR];show tb false=tb (bif a != b then false else _);rw[hab];rfl),J0⟩
  |false=>
   replace hR:R=eqI (l.drop (i+1)) (l'.drop (i+1)):=by rw[hR];show(bif a != b then false else _)=_;rw[hab];rfl
   conv=>whnf
   exact⟨i+1,[],[],Sub.mk' rfl ⟨JZ,JZ,JZ,.inl (ak hit JQ),J0⟩ trivial rfl rfl,⟨hit,hR⟩,by show l.length-(i+1)<l.length-i;omega⟩
 have hit:l.length<=i:=by have:decide ((i:Int)<(l.length:Int))=false:=hit;have:=ud this;omega
 rw[Hg hit,Hg JQ] at hR;conv=>whnf
 refine exT ?_;conv=>whnf
 exact⟨.inl (by rw[hR];rfl),J0⟩
end Go.Proofs.YtapmdfcmpglieaaGreatDoor.am
set_option maxRecDepth 100000
set_option maxHeartbeats 4000000
namespace Go.Proofs.YtapmdfcmpglieaaGreatDoor.am
open Go Go.Proofs
abbrev HSt:=List (Option (List Int))×List Nat
def hrow:Option (List Int)->List Tr
 |none=>[F0]
 |some l=>[az l]
abbrev hB(lk:List (Option (List Int))):Blk:=.vec 38 1 24 (lk.map hrow)
abbrev heT(lk:List (Option (List Int))):Tr:=.lst 1 24 (lk.map hrow)
theorem iO{l:List (Option (List Int))}{i:Nat}{row:List Tr}(h:(l.map hrow)[i]?=some row):∃d,l[i]?=some d/\row=hrow d:=by rw[z5,z9] at h;obtain⟨d,h1,rfl⟩:=h;exact⟨d,h1,rfl⟩
def nowN(n:Nd)(l:List Int):Option (List Int):=
 bif n.kind==5 then some (l++[n.thing])
 else bif n.kind==6 then(bif (l.length:Int)==0 then none else bif l.getD (l.length-1) 0 != n.thing then none else some (l.take (l.length-1)))
 else bif n.kind==9 then(bif decide ((l.length:Int) > 0) then none else some l)
 else some l
def lkAt(lk:List (Option (List Int)))(a:Nat):List Int:=(lk.getD a none).getD []
def inH(now:List Int):List Nat->HSt->HSt×Option Nat
 |[],s=>(s,none)
 |y::r,s=>bif s.2.contains y then(bif eqI2 (lkAt s.1 y) now then inH now r s else(s,some y)) else inH now r (s.1.set y (some now),s.2++[y])
def iD(F:HSt->Nat->List (Option (List Int))×Int)(k:Nat):HSt×Option Nat->List (Option (List Int))×Int
 |(_,some y)=>([],(y:Int))
 |(s,none)=>F s k
def vL(g:Gr):Nat->HSt->Nat->List (Option (List Int))×Int
 |0,_,_=>([],0)
 |f+1,s,k=>match s.2[k]? with
  |none=>(s.1,-1)
  |some a=>match g.nodes[a]? with
   |none=>([],0)
   |some n=>match nowN n (lkAt s.1 a) with
    |none=>([],(a:Int))
    |some now=>iD (vL g f) (k+1) (inH now (fol g a) s)
def heldR(g:Gr):List (Option (List Int))×Int:=vL g (g.nodes.length+1) (List.replicate g.nodes.length none,[0]) 0
theorem zk{n:Nd}{l now:List Int}(h:nowN n l=some now):now.length<=l.length+1:=by
 unfold nowN at h;cases h5:(n.kind==5) with
 |true=>rw[h5,r7] at h;cases h;rw[uR];exact t9 _
 |false=>
 rw[h5,lh] at h;cases h6:(n.kind==6) with
 |true=>
  rw[h6,r7] at h;cases h1:((l.length:Int)==0) with
  |true=>rw[h1] at h;cases h
  |false=>
   rw[h1,lh] at h;cases h2:(l.getD (l.length-1) 0 != n.thing) with
   |true=>rw[h2] at h;cases h
   |false=>rw[h2] at h;cases h;rw[DK];omega
 |false=>
 rw[h6,lh] at h;cases h9:(n.kind==9) with
 |true=>
  rw[h9,r7] at h;cases h1:decide ((l.length:Int) > 0) with
  |true=>rw[h1] at h;cases h
  |false=>rw[h1] at h;cases h;omega
 |false=>rw[h9] at h;cases h;omega
structure tL(N k:Nat)(lk:List (Option (List Int)))(todo:List Nat):Prop where
 len:lk.length=N
 nd:todo.Nodup
 lt:∀x∈todo,x<N
 most:∀(a:Nat) l,lk[a]?=some (some l)->l.length<=k
theorem tL.todo_len{N k:Nat}{lk:List (Option (List Int))}{todo:List Nat}(h:tL N k lk todo):todo.length<=N:=cI N todo h.nd h.lt
theorem tL.at{N k:Nat}{lk:List (Option (List Int))}{todo:List Nat}(h:tL N k lk todo)(a:Nat):(lkAt lk a).length<=k:=by
 unfold lkAt;rw[t5];cases e:lk[a]? with
 |none=>exact x5 _
 |some o=>
  cases o with
  |none=>exact x5 _
  |some l=>exact h.most a l e
theorem tL.mono{N k k':Nat}{lk:List (Option (List Int))}{todo:List Nat}(h:tL N k lk todo)(hk:k<=k'):tL N k' lk todo:=⟨h.len,h.nd,h.lt,fun a l e=>GB (h.most a l e) hk⟩
theorem tL.put{N k:Nat}{lk:List (Option (List Int))}{todo:List Nat}(h:tL N k lk todo){y:Nat}{now:List Int}(hy:y<N)(hn:y∉todo)(hl:now.length<=k):tL N k (lk.set y (some now)) (todo++[y]) where
 len:=by rw[G0];exact h.len
 nd:=HW.2 ⟨h.nd,JX,fun a ha b hb=>by rw[xB.1 hb];exact fun e=>hn (e ▸ ha)⟩
 lt:=fun x hx=>(FK.1 hx).elim (h.lt x) fun w=>by rw[xB.1 w];exact hy
 most:=fun a l e=>by
  by_cases ha:a=y
  ·subst ha;rw[GD (by rw[h.len];exact hy)] at e;cases e;exact hl
  ·rw[GW (fun w=>ha w.symm)] at e;exact h.most a l e
theorem vy(g:Gr)(hW:Whole g):K 45 [g.av] [] (.ret (.tup [.tr (heT (heldR g).1),.tr (ti (heldR g).2)])) []:=by
 have hR:heldR g=vL g (g.nodes.length+1) (List.replicate g.nodes.length none,[0]) 0:=rfl;generalize heldR g=R at hR |-
 have hpos:=hW.pos;have hmo:=hW.most;have hlt:=hW.lt;have hfI:=hW.fol;have hfl:=hW.len;have hkind:=hW.kind;clear hW;have hO:∀f s k,vL g (f+1) s k=match s.2[k]? with
  |none=>(s.1,-1)
  |some a=>match g.nodes[a]? with
   |none=>([],0)
   |some n=>match nowN n (lkAt s.1 a) with
    |none=>([],(a:Int))
    |some now=>iD (vL g f) (k+1) (inH now (fol g a) s):=fun f s k=>rfl
 generalize vL g=OH at hR hO;have hln:(g.nodes.map Nd.cells).length=g.nodes.length:=ad ..;obtain⟨N,hNe⟩:∃N,g.nodes.length=N:=⟨_,rfl⟩;rw[hNe] at hR hpos hmo hlt hln;refine Ctr.cut [10,20] hT hmix Tryz.func45 rfl (fun _ _=>JR) rfl fun hok=>?_;clear hok;conv=>whnf
 refine⟨(by rw[hln];omega),Hd _,(by rw[hln];show(N:Int)*24<=_;omega),?_⟩;conv=>whnf
 rw[hln,GY];refine aq.by (fun x:HSt×Nat=>⟨[(1,.ptr 0 0),(4,.sl 1 N),(5,.mp 2),(6,.sl 3 x.1.2.length),(7,.tr (ti (x.2:Nat)))],[(0,A1 g),(1,hB x.1.1),(2,inB x.1.2),(3,bX x.1.2)],10⟩) (fun x=>tL N x.2 x.1.1 x.1.2/\x.2<=x.1.2.length/\R=OH (N+1-x.2) x.1 x.2) (fun x=>N+1-x.2) ((List.replicate N none,[0]),0) [0,_,_,_] []
  (Sub.mk' rfl ⟨⟨rfl,rfl⟩,⟨rfl,rfl⟩,rfl,⟨rfl,rfl⟩,.inl rfl,trivial⟩ ⟨⟨rfl,.inl rfl,.inl rfl,.inl rfl,.inl rfl,trivial⟩,⟨rfl,rfl,rfl,by rw[H9];rfl⟩,⟨rfl,rfl⟩,⟨rfl,rfl,rfl,rfl⟩,trivial⟩ rfl rfl) ⟨⟨GE ..,JX,fun x hx=>by rw[xB.1 hx];exact hpos,fun a l e=>by have e:(List.replicate N none)[a]?=some (some l):=e;rw[G1] at e;split at e<;>cases e⟩,x5 _,hR⟩ ?_
 clear hR;rintro⟨⟨lk,todo⟩,k⟩ ⟨hI,hk,hR⟩ -
 simp only at hI hk hR;have htl:=hI.todo_len;have hlkl:=hI.len;have hO1:=hO (N-k) (lk,todo) k;rw[(JQ:N-k+1=N+1-k),<-hR] at hO1;clear hR;conv=>whnf
 refine ah (fun hkt=>?_) (fun hkt=>?_)
 ·have hkt:k<todo.length:=by have:decide ((k:Int)<(todo.length:Int))=true:=hkt;have:=of_decide_eq_true this;omega
  obtain⟨a,ha⟩:∃a,todo[k]?=some a:=⟨_,ab hkt⟩;have haN:=hI.lt a (i3 ha);obtain⟨n,hn⟩:∃n,g.nodes[a]?=some n:=⟨_,ab JQ⟩;obtain⟨o,ho⟩:∃o,lk[a]?=some o:=⟨_,ab JQ⟩;have hlk:lkAt lk a=o.getD []:=by unfold lkAt;rw[t5,ho];rfl
  have hO2:R=match nowN n (lkAt lk a) with
    |none=>([],(a:Int))
    |some now=>iD (OH (N-k)) (k+1) (inH now (fol g a) (lk,todo)):=by
   rw[hO1];show(match todo[k]? with|none=>_|some a=>_)=_;rw[ha];show(match g.nodes[a]? with|none=>_|some n=>_)=_;rw[hn]
  clear hO1;have hl0:=hI.at a;have hf:=eJ n;rw[hfI a n hn] at hf;have hflt:=hlt a;have hfl:=hfl a;conv=>whnf
  refine⟨rfl,(JQ:(0:Int)<=k),(JQ:(k:Int)<(todo.length:Int)),?_⟩;conv=>whnf
  refine ixV ha ?_;refine⟨(JS:0<1),fun t ht=>?_⟩;cases ht;conv=>whnf
  refine⟨rfl,(JQ:(0:Int)<=a),(JQ:(a:Int)<((g.nodes.map Nd.cells).length:Int)),fun row hrow=>?_⟩;obtain⟨d,hd,rfl⟩:=iq hrow;obtain rfl:=vx (hn.symm.trans hd);clear hrow hd;conv=>whnf
  refine bD.by (fun _:Unit=>⟨[(1,.ptr 0 0),(4,.sl 1 N),(5,.mp 2),(6,.sl 3 todo.length),(7,.tr (ti (k:Nat))),(8,.tr (ti (a:Nat))),(9,.ptr 4 0),(10,.tr (az (lkAt lk a)))],[(0,A1 g),(1,hB lk),(2,inB todo),(3,bX todo),(4,.cells 112 (n.cells.map .tr))],10⟩) (fun _=>True) ?_ ?_
  ·conv=>whnf
   refine⟨rfl,(JQ:(0:Int)<=a),(JQ:(a:Int)<(N:Int)),?_⟩;conv=>whnf
   refine⟨rfl,(by show a<(lk.map hrow).length;rw[ad];omega),fun row hrow=>?_⟩;obtain⟨d,hd,rfl⟩:=iO hrow;obtain rfl:=vx (ho.symm.trans hd);clear hrow hd;cases o with
   |none=>
    refine⟨(JS:0<1),fun t ht=>?_⟩;cases ht;conv=>whnf
    exact⟨(),[0,1,2,3,_],[],Sub.mk' rfl ⟨JY,JY,rfl,JY,JZ,JZ,JY,.inr ⟨rfl,1,8,by rw[hlk];rfl⟩,J0⟩ ⟨⟨rfl,JZ,JZ,JZ,JZ,J0⟩,⟨rfl,rfl,rfl,rfl⟩,JY,⟨rfl,rfl,rfl,rfl⟩,⟨rfl,JZ,JZ,JZ,JZ,JZ,JZ,JZ,JZ,JZ,JZ,JZ,JZ,JZ,J0⟩,J0⟩ rfl rfl,J0⟩
   |some l=>
    refine⟨(JS:0<1),fun t ht=>?_⟩;cases ht;conv=>whnf
    exact⟨(),[0,1,2,3,_],[],Sub.mk' rfl ⟨JY,JY,rfl,JY,JZ,JZ,JY,.inl (by rw[hlk];rfl),J0⟩ ⟨⟨rfl,JZ,JZ,JZ,JZ,J0⟩,⟨rfl,rfl,rfl,rfl⟩,JY,⟨rfl,rfl,rfl,rfl⟩,⟨rfl,JZ,JZ,JZ,JZ,JZ,JZ,JZ,JZ,JZ,JZ,JZ,JZ,JZ,J0⟩,J0⟩ rfl rfl,J0⟩
  rintro - - -
  clear hlk ho;generalize lkAt lk a=l0 at hO2 hl0;have hll0:(l0.map irow).length=l0.length:=ad ..;have hcl:=me l0 JQ;have hlw:∀m:Nat,m=l0.length->0<m->IntKind.i64.wrap ((m:Int)-1)=((m-1:Nat):Int):=fun m e h=>by rw[w64 JQ JQ];omega
  conv=>whnf
  refine bD.by (fun now:List Int=>⟨[(1,.ptr 0 0),(4,.sl 1 N),(5,.mp 2),(6,.sl 3 todo.length),(7,.tr (ti (k:Nat))),(8,.tr (ti (a:Nat))),(9,.ptr 4 0),(10,.tr (az now))],[(0,A1 g),(1,hB lk),(2,inB todo),(3,bX todo),(4,.cells 112 (n.cells.map .tr))],10⟩) (fun now=>nowN n l0=some now) ?_ ?_
  ·conv=>whnf
   cases h5:(n.kind==5) with
   |true=>
    conv=>whnf
    refine aa.new [] [] _ _ _ _ (hcl) rfl rfl rfl rfl aut aut rfl rfl ?_;conv=>whnf
    refine⟨rfl,rfl,rfl,Ee hll0.symm,(JQ:(l0.length+1)*8<=150000000000000),fun q hq=>?_,?_⟩
    ·cases hq with
     |head=>exact GG rfl
     |tail _ h=>cases h
    conv=>whnf
    refine drT ?_;conv=>whnf
    have htk:(l0.map irow).take l0.length++[[ti n.thing]]=(l0++[n.thing]).map irow:=by rw[vG (Ee hll0),FP];rfl
    have hle:l0.length+1<=((l0.map irow).take l0.length++[[ti n.thing]]).length:=by rw[htk,ad,uR];exact t9 _
    have heq:az (l0++[n.thing])=Tr.lst 1 8 (((l0.map irow).take l0.length++[[ti n.thing]]).take (l0.length+1)):=by rw[htk,vG (by rw[ad,uR];exact t9 _)]
    exact⟨l0++[n.thing],[0,1,2,3,4],[],Sub.mk' rfl ⟨JY,JY,rfl,JY,JZ,JZ,JY,⟨rfl,hle,heq⟩,J0⟩ aut rfl rfl,by unfold nowN;rw[h5];rfl⟩
   |false=>
   conv=>whnf
   cases h6:(n.kind==6) with
   |true=>
    conv=>whnf
    cases h7:(((l0.map irow).length:Int)==0) with
    |true=>
     conv=>whnf
     refine drT ?_;conv=>whnf
     rw[hll0] at h7;have hRf:R=([],(a:Int)):=by rw[hO2];unfold nowN;rw[h5,h6,h7];rfl
     exact⟨⟨.inr ⟨rfl,1,24,by rw[hRf];rfl⟩,.inl (by rw[hRf]),J0⟩,J0⟩
    |false=>
    have h0:0<l0.length:=by have:=GX.1 h7;omega
    rw[hll0] at h7;have hw1:=hlw _ hll0 JQ;conv=>whnf
    rw[hw1];refine⟨rfl,(JQ:(0:Int)<=(((l0.map irow).length-1:Nat):Int)),(JQ:(((l0.map irow).length-1:Nat):Int)<((l0.map irow).length:Int)),fun row hrow=>?_⟩;obtain⟨d,hd,rfl⟩:=eK hrow
    replace hd:l0[l0.length-1]?=some d:=by rw[<-hll0];exact hd
    have hgd:l0.getD (l0.length-1) 0=d:=by rw[t5,hd];rfl
    clear hrow hd;conv=>whnf
    refine drT ?_;conv=>whnf
    cases hne:(d != n.thing) with
    |true=>
     conv=>whnf
     have hRf:R=([],(a:Int)):=by rw[hO2];unfold nowN;rw[h5,h6,h7,hgd,hne];rfl
     exact⟨⟨.inr ⟨rfl,1,24,by rw[hRf];rfl⟩,.inl (by rw[hRf]),J0⟩,J0⟩
    |false=>
     conv=>whnf
     rw[hw1];refine⟨rfl,Hd _,(JQ:(0:Int)<=(((l0.map irow).length-1:Nat):Int)),(JQ:(((l0.map irow).length-1:Nat):Int)<=((l0.map irow).length:Int)),?_⟩;conv=>whnf
     exact⟨l0.take (l0.length-1),[0,1,2,3,4],[],Sub.mk' rfl ⟨JY,JY,rfl,JY,JZ,JZ,JY,.inl (by show(Tr.lst 1 8 (((l0.map irow).take ((l0.map irow).length-1)).drop 0))=(Tr.lst 1 8 ((l0.take (l0.length-1)).map irow));rw[List.drop_zero,hll0,H7]),J0⟩ aut rfl rfl,by unfold nowN;rw[h5,h6,h7,hgd,hne];rfl⟩
   |false=>
   conv=>whnf
   cases h9:(n.kind==9) with
   |true=>
    conv=>whnf
    cases h7:decide (((l0.map irow).length:Int) > 0) with
    |true=>
     conv=>whnf
     rw[hll0] at h7;have hRf:R=([],(a:Int)):=by rw[hO2];unfold nowN;rw[h5,h6,h9,h7];rfl
     exact⟨⟨.inr ⟨rfl,1,24,by rw[hRf];rfl⟩,.inl (by rw[hRf]),J0⟩,J0⟩
    |false=>
     conv=>whnf
     exact⟨l0,[0,1,2,3,4],[],Sub.au,by rw[hll0] at h7;unfold nowN;rw[h5,h6,h9,h7];rfl⟩
   |false=>
    conv=>whnf
    exact⟨l0,[0,1,2,3,4],[],Sub.au,by unfold nowN;rw[h5,h6,h9];rfl⟩
  rintro now hnow -
  have hO3:R=iD (OH (N-k)) (k+1) (inH now (fol g a) (lk,todo)):=by rw[hO2,hnow]
  have hnl:now.length<=k+1:=GB (zk hnow) JQ;have hI2:=hI.mono (Kt k);have hcT:=qm now JQ;have hnr:(now.map irow).length=now.length:=ad ..;obtain⟨F,hF⟩:∃F,fol g a=F:=⟨_,rfl⟩;rw[hF] at hf hflt hfl hO3;have hFl:=aZ F;clear hO2 hnow hl0 hcl hlw hI;conv=>whnf
  refine aa.pure _ (hf) rfl rfl fun _=>?_;conv=>whnf
  refine aq.by (fun x:HSt×Nat=>⟨[(1,.ptr 0 0),(4,.sl 1 N),(5,.mp 2),(6,.sl 3 x.1.2.length),(7,.tr (ti (k:Nat))),(10,.tr (az now)),(78,.tr (a8 F)),(79,.tr (ti F.length)),(80,.tr (ti (x.2:Nat)))],[(0,A1 g),(1,hB x.1.1),(2,inB x.1.2),(3,bX x.1.2)],10⟩) (fun x=>tL N (k+1) x.1.1 x.1.2/\k<x.1.2.length/\x.2<=F.length/\R=iD (OH (N-k)) (k+1) (inH now (F.drop x.2) x.1)) (fun x=>F.length-x.2) ((lk,todo),0) [0,1,2,3] []
   (Sub.mk' rfl ⟨⟨rfl,rfl⟩,⟨rfl,rfl⟩,rfl,⟨rfl,rfl⟩,.inl rfl,.inl rfl,.inl rfl,.inl (by rw[<-hFl]),aut⟩ aut rfl rfl) ⟨hI2,hkt,x5 _,hO3⟩ ?_
  clear hO3 hI2;rintro⟨⟨lk,todo⟩,j⟩ ⟨hI,hk,hj,hR⟩ -
  simp only at hI hk hj hR;have hlkl:=hI.len;have htl:=hI.todo_len;conv=>whnf
  refine ah (fun hjt=>?_) (fun hjt=>?_)
  ·have hjL:j<F.length:=by have:decide ((j:Int)<(F.length:Int))=true:=hjt;have:=of_decide_eq_true this;omega
   clear hjt;obtain⟨y,hy⟩:∃y,F[j]?=some y:=⟨_,ab hjL⟩;have hyN:=hflt y (i3 hy);rw[aG hy] at hR;obtain⟨o,ho⟩:∃o,lk[y]?=some o:=⟨_,ab JQ⟩;have hlk:lkAt lk y=o.getD []:=by unfold lkAt;rw[t5,ho];rfl
   have hR2:R=iD (OH (N-k)) (k+1) (bif todo.contains y then(bif eqI2 (lkAt lk y) now then inH now (F.drop (j+1)) (lk,todo) else((lk,todo),some y)) else inH now (F.drop (j+1)) (lk.set y (some now),todo++[y])):=hR;clear hR;conv=>whnf
   refine⟨rfl,(JQ:(0:Int)<=j),(JQ:(j:Int)<((((F.map fun(x:Nat)=>(x:Int))).map irow).length:Int)),fun row hrow=>?_⟩;obtain⟨d,hd,rfl⟩:=aU hrow;obtain rfl:=vx (hy.symm.trans hd);clear hrow hd;have hlk2:(ew (kz ((lk,todo),j).1.2) (.ki .i64 (y:Int))).getD (Tr.v Z.b.val)=tb (todo.contains y):=by show(ew (kz todo) (.ki .i64 (y:Int))).getD (Tr.v Z.b.val)=tb (todo.contains y);rw[oA];cases todo.contains y<;>rfl
   conv=>whnf
   rw[hlk2];clear hlk2;cases hcon:todo.contains y with
   |false=>
    have hyT:y∉todo:=fun w=>by rw[GJ.2 w] at hcon;cases hcon
    rw[hcon,lh] at hR2;have hI3:=hI.put hyN hyT hnl;have hmS:mput (kz todo) (.ki .i64 (y:Int)) (tb true)=kz (todo++[y]):=by rw[jl,hcon];rfl
    conv=>whnf
    refine aa.pure _ (hcT) rfl rfl fun _=>?_;conv=>whnf
    refine⟨rfl,(JQ:(0:Int)<=y),(JQ:(y:Int)<(N:Int)),?_⟩;conv=>whnf
    refine⟨rfl,rfl,(by show y<(lk.map hrow).length;rw[ad];omega),fun row hrw=>?_⟩;obtain⟨d,hd,rfl⟩:=iO hrw;clear hrw hd;have hrl:(hrow d).length=1:=by cases d<;>rfl
    refine⟨(by show 0+1<=(hrow d).length;omega),?_⟩;conv=>whnf
    refine⟨rfl,rfl,rfl,(by rw[ad];exact t9 _),(JQ:(todo.length+1)*8<=150000000000000),fun q hq=>?_,?_⟩
    ·cases hq with
     |head=>exact GG rfl
     |tail _ h=>cases h
    conv=>whnf
    have hda:(todo.map eo).take todo.length++[[ti (y:Nat)]]=(todo++[y]).map eo:=by rw[vG (by rw[ad];exact t9 _),FP];rfl
    have hset:(lk.map hrow).set y ((hrow d).take 0++[az now]++(hrow d).drop (0+1))=(lk.set y (some now)).map hrow:=by rw[Hp];cases d<;>rfl
    exact⟨((lk.set y (some now),todo++[y]),j+1),[0,1,2,_],[],Sub.mk' rfl ⟨JY,JY,rfl,⟨rfl,by rw[uR];rfl⟩,JZ,JZ,JZ,JZ,.inl (ak hjL JQ),J0⟩ ⟨⟨rfl,JZ,JZ,JZ,JZ,J0⟩,⟨rfl,rfl,rfl,hset⟩,⟨rfl,hmS⟩,⟨rfl,rfl,rfl,hda⟩,J0⟩ rfl rfl,⟨hI3,by show k<(todo++[y]).length;rw[uR];omega,hjL,hR2⟩,by show F.length-(j+1)<F.length-j;omega⟩
   |true=>
    rw[hcon,r7,hlk] at hR2;conv=>whnf
    refine⟨rfl,(JQ:(0:Int)<=y),(JQ:(y:Int)<(N:Int)),?_⟩;conv=>whnf
    refine⟨rfl,(by show y<(lk.map hrow).length;rw[ad];omega),fun row hrw=>?_⟩;obtain⟨d,hd,rfl⟩:=iO hrw;obtain rfl:=vx (ho.symm.trans hd);clear hrw hd;cases o with
    |none=>
     refine⟨(JS:0<1),fun t ht=>?_⟩;cases ht;conv=>whnf
     refine aa.gen [] [] [.tr (az []),.tr (az now)] [] _ [] (uH [] now) rfl rfl rfl rfl ⟨.inr ⟨rfl,1,8,rfl⟩,JZ,J0⟩ trivial rfl rfl fun _=>?_;conv=>whnf
     cases he:eqI2 [] now with
     |false=>
      have hRf:R=([],(y:Int)):=by rw[hR2];show iD _ _ (bif eqI2 [] now then _ else _)=_;rw[he];rfl
      conv=>whnf
      exact⟨⟨.inr ⟨rfl,1,24,by rw[hRf];rfl⟩,.inl (by rw[hRf]),J0⟩,J0⟩
     |true=>
      have hR3:R=iD (OH (N-k)) (k+1) (inH now (F.drop (j+1)) (lk,todo)):=by rw[hR2];show iD _ _ (bif eqI2 [] now then _ else _)=_;rw[he];rfl
      conv=>whnf
      exact⟨((lk,todo),j+1),[0,1,2,3],[],Sub.mk' rfl ⟨JY,JY,rfl,JY,JZ,JZ,JZ,JZ,.inl (ak hjL JQ),J0⟩ aut rfl rfl,⟨hI,hk,hjL,hR3⟩,by show F.length-(j+1)<F.length-j;omega⟩
    |some l=>
     refine⟨(JS:0<1),fun t ht=>?_⟩;cases ht;conv=>whnf
     refine aa.pure _ (uH l now) rfl rfl fun _=>?_;conv=>whnf
     cases he:eqI2 l now with
     |false=>
      have hRf:R=([],(y:Int)):=by rw[hR2];show iD _ _ (bif eqI2 l now then _ else _)=_;rw[he];rfl
      conv=>whnf
      exact⟨⟨.inr ⟨rfl,1,24,by rw[hRf];rfl⟩,.inl (by rw[hRf]),J0⟩,J0⟩
     |true=>
      have hR3:R=iD (OH (N-k)) (k+1) (inH now (F.drop (j+1)) (lk,todo)):=by rw[hR2];show iD _ _ (bif eqI2 l now then _ else _)=_;rw[he];rfl
      conv=>whnf
      exact⟨((lk,todo),j+1),[0,1,2,3],[],Sub.mk' rfl ⟨JY,JY,rfl,JY,JZ,JZ,JZ,JZ,.inl (ak hjL JQ),J0⟩ aut rfl rfl,⟨hI,hk,hjL,hR3⟩,by show F.length-(j+1)<F.length-j;omega⟩
  ·have hjt:F.length<=j:=by have:decide ((j:Int)<(F.length:Int))=false:=hjt;have:=ud this;omega
   rw[Hg hjt] at hR;have hR2:R=OH (N-k) (lk,todo) (k+1):=hR;conv=>whnf
   refine exT ?_;conv=>whnf
   exact⟨((lk,todo),k+1),[0,1,2,3],[],Sub.mk' rfl ⟨JY,JY,rfl,JY,.inl (ak hk JQ),J0⟩ aut rfl rfl,⟨hI,hk,by rw[hR2,(JQ:N+1-(k+1)=N-k)]⟩,by show N+1-(k+1)<N+1-k;omega⟩
 ·have hkt:todo.length<=k:=by have:decide ((k:Int)<(todo.length:Int))=false:=hkt;have:=ud this;omega
  have hRe:R=(lk,-1):=by rw[hO1];show(match todo[k]? with|none=>_|some a=>_)=_;rw[yB hkt]
  subst hRe;conv=>whnf
  refine exT ?_;conv=>whnf
  exact⟨⟨⟨rfl,(by show N<=(lk.map hrow).length;rw[ad];omega),(by show heT lk=Tr.lst 1 24 ((lk.map hrow).take N);rw[vG (by rw[ad];omega)])⟩,JZ,J0⟩,J0⟩
end Go.Proofs.YtapmdfcmpglieaaGreatDoor.am
set_option maxRecDepth 100000
set_option maxHeartbeats 4000000
namespace Go.Proofs.YtapmdfcmpglieaaGreatDoor.am
open Go Go.Proofs
def fq(g:Gr):Bool:=decide (g.locals<0)||decide (g.locals > 64)||decide (g.slots<g.locals)||decide (g.slots > 4160)||decide ((g.nodes.length:Int)<1)||decide ((g.nodes.length:Int) > 4096)
def mW(u:Un)(g:Gr):List Nd->Int->Option Int
 |[],_=>none
 |n::r,i=>bif rightB u g n then mW u g r (i+1) else some i
def uO(g:Gr)(t:Int)(R:Int×Int×Int):Option Int->Int×Int×Int
 |some i=>(60,t,i)
 |none=>bif decide ((heldR g).2>=0) then(60,t,(heldR g).2) else R
def ckG(u:Un):List Gr->Int->Int×Int×Int
 |[],_=>(0,0,0)
 |g::r,t=>bif fq g then(60,t,0) else uO g t (ckG u r (t+1)) (mW u g g.nodes 0)
def gj(u:Un):Int×Int×Int:=bif namedB u then ckG u u.graphs 0 else(60,0,0)
theorem f9{p has k most:Int}(h:withinB p has k most=true)(hp:(andP p has==0)=false):0<=k/\k<most:=by unfold withinB at h;rw[hp] at h;simp only[G9,GU,t4,GR] at h;exact⟨h.1.2,h.2⟩
theorem Aq{u:Un}{g:Gr}{n:Nd}(h:rightB u g n=true)(h0:0<=n.kind):gH g.nodes.length n=true:=by
 unfold rightB at h;cases hh:headR n with
 |true=>rw[hh] at h;cases h
 |false=>
  rw[hh,lh] at h;unfold headR at hh;simp only[G8] at hh;have hk:=C3 hh.1.1.1 hh.1.1.2 h0;unfold bo at h;simp only[t4] at h;have hnx:=h.1.1.1.2;have hel:=h.1.1.2;obtain⟨kind,op,slot,thing,a,b,next,els,origin⟩:=n;simp only at hk hnx hel;unfold gH folI;simp only;rcases hk with rfl|rfl|rfl|rfl|rfl|rfl|rfl|rfl|rfl
  case inr.inr.inr.inr.inr.inr.inr.inr=>rfl
  case inr.inr.inr.inr.inr.inr.inr.inl=>
   have h1:=f9 hnx JR;have h2:=f9 hel JR;cases hb:(els != next)<;>simp[hb]<;>omega
  case inl=>
   have h1:0<=next/\next<(g.nodes.length:Int):=f9 hnx (by unfold bT;cases two op<;>kernel_rfl);simp;omega
  all_goals
   have h1:=f9 hnx JR;simp;omega
theorem jJ{u:Un}{g:Gr}(hb:fq g=false)(hr:∀n∈g.nodes,rightB u g n=true/\0<=n.kind):cm g=true:=by unfold fq at hb;simp only[G8] at hb;unfold cm;rw[hb.1.2,hb.2];exact GQ.2 fun n hn=>Aq (hr n hn).1 (hr n hn).2
theorem jZ(u:Un):K 17 [u.av] [] (.ret (.tup [.tr (ti (gj u).1),.tr (ti (gj u).2.1),.tr (ti (gj u).2.2)])) []:=by
 have hn:=CW u;have hC:gj u=bif namedB u then ckG u u.graphs 0 else(60,0,0):=rfl;generalize gj u=R at hC |-
 have hlg:(u.graphs.map Gr.cells).length=u.graphs.length:=ad ..;refine Ctr.of hT hmix Tryz.func17 rfl (fun _ _=>JR) rfl fun hok=>?_;obtain⟨_,hl3,hrw⟩:=((hok.slot 0 rfl).agg _ (.tail _ (.tail _ (.head _)))).tr.lst;have hbd:∀g∈u.graphs,∀n∈g.nodes,0<=n.kind/\0<=n.op/\n.op<=255:=fun g hg n hnn=>by have h1:=(hrw g.cells (JV hg)).2 (aO g.nodes) (.tail _ (.tail _ (.tail _ (.head _))));have h2:=(h1.lst.2.2 n.cells (JV hnn)).2;have h3:=(h2 (tu n.kind) (.head _)).u8;have h4:=(h2 (tu n.op) (.tail _ (.head _))).u8;exact⟨h3.1,h4.1,h4.2⟩
 rw[ad] at hl3;clear hok hrw;conv=>whnf
 refine aa.pure _ (hn) rfl rfl fun _=>?_;conv=>whnf
 cases hnm:namedB u with
 |false=>
  conv=>whnf
  have hRf:R=(60,0,0):=by rw[hC,hnm];rfl
  exact⟨⟨.inl (by rw[hRf]),.inl (by rw[hRf]),.inl (by rw[hRf]),J0⟩,J0⟩
 |true=>
 have hR:R=ckG u u.graphs 0:=by rw[hC,hnm];rfl
 clear hC;conv=>whnf
 refine aq.by (fun t:Nat=>⟨[(1,.ptr 0 0),(15,.tr (bt u.graphs)),(16,.tr (ti u.graphs.length)),(17,.tr (ti t))],[(0,.cells 26 [.tr (ae u.shared),.tr (ae u.locks),.tr (bt u.graphs)])],10⟩) (fun t=>t<=u.graphs.length/\R=ckG u (u.graphs.drop t) t) (fun t=>u.graphs.length-t) 0 [_] []
  (Sub.mk' rfl ⟨⟨rfl,rfl⟩,.inl rfl,.inl (by rw[<-hlg]),.inl rfl,trivial⟩ ⟨⟨rfl,.inl rfl,.inl rfl,.inl rfl,trivial⟩,trivial⟩ rfl rfl) ⟨x5 _,hR⟩ ?_
 clear hR;rintro t ⟨ht,hR⟩ -
 conv=>whnf
 refine ah (fun htt=>?_) (fun htt=>?_)
 ·have htt:t<u.graphs.length:=by have:decide ((t:Int)<(u.graphs.length:Int))=true:=htt;have:=of_decide_eq_true this;omega
  obtain⟨g,hg⟩:∃g,u.graphs[t]?=some g:=⟨_,ab htt⟩;rw[aG hg] at hR;have hbd:=hbd g (i3 hg);have hR2:R=bif fq g then(60,(t:Int),0) else uO g t (ckG u (u.graphs.drop (t+1)) ((t:Int)+1)) (mW u g g.nodes 0):=hR;clear hR;have hgl:(g.nodes.map Nd.cells).length=g.nodes.length:=ad ..;conv=>whnf
  refine⟨rfl,(JQ:(0:Int)<=t),(JQ:(t:Int)<((u.graphs.map Gr.cells).length:Int)),fun row hrow=>?_⟩;obtain⟨d,hd,rfl⟩:=AZ hrow;obtain rfl:=vx (hg.symm.trans hd);clear hrow hd hg;conv=>whnf
  cases b1:decide (g.locals<0) with
  |true=>
   conv=>whnf
   have hRf:R=(60,(t:Int),0):=by rw[hR2];unfold fq;rw[b1];rfl
   exact⟨⟨.inl (by rw[hRf]),.inl (by rw[hRf]),.inl (by rw[hRf]),J0⟩,J0⟩
  |false=>
  conv=>whnf
  cases b2:decide (g.locals > 64) with
  |true=>
   conv=>whnf
   have hRf:R=(60,(t:Int),0):=by rw[hR2];unfold fq;rw[b1,b2];rfl
   exact⟨⟨.inl (by rw[hRf]),.inl (by rw[hRf]),.inl (by rw[hRf]),J0⟩,J0⟩
  |false=>
  conv=>whnf
  cases b3:decide (g.slots<g.locals) with
  |true=>
   conv=>whnf
   have hRf:R=(60,(t:Int),0):=by rw[hR2];unfold fq;rw[b1,b2,b3];rfl
   exact⟨⟨.inl (by rw[hRf]),.inl (by rw[hRf]),.inl (by rw[hRf]),J0⟩,J0⟩
  |false=>
  conv=>whnf
  cases b4:decide (g.slots > 4160) with
  |true=>
   conv=>whnf
   have hRf:R=(60,(t:Int),0):=by rw[hR2];unfold fq;rw[b1,b2,b3,b4];rfl
   exact⟨⟨.inl (by rw[hRf]),.inl (by rw[hRf]),.inl (by rw[hRf]),J0⟩,J0⟩
  |false=>
  conv=>whnf
  cases b5:decide (((g.nodes.map Nd.cells).length:Int)<1) with
  |true=>
   conv=>whnf
   rw[hgl] at b5;have hRf:R=(60,(t:Int),0):=by rw[hR2];unfold fq;rw[b1,b2,b3,b4,b5];rfl
   exact⟨⟨.inl (by rw[hRf]),.inl (by rw[hRf]),.inl (by rw[hRf]),J0⟩,J0⟩
  |false=>
  conv=>whnf
  cases b6:decide (((g.nodes.map Nd.cells).length:Int) > 4096) with
  |true=>
   conv=>whnf
   rw[hgl] at b5 b6;have hRf:R=(60,(t:Int),0):=by rw[hR2];unfold fq;rw[b1,b2,b3,b4,b5,b6];rfl
   exact⟨⟨.inl (by rw[hRf]),.inl (by rw[hRf]),.inl (by rw[hRf]),J0⟩,J0⟩
  |false=>
  conv=>whnf
  have hgb:fq g=false:=by rw[hgl] at b5 b6;unfold fq;rw[b1,b2,b3,b4,b5,b6];rfl
  rw[hgb,lh] at hR2;have hmo:g.nodes.length<=4096:=by have:=ud b6;omega
  clear b1 b2 b3 b4 b5 b6;generalize hRR:ckG u (u.graphs.drop (t+1)) ((t:Int)+1)=RR at hR2;refine aq.by (fun i:Nat=>⟨[(1,.ptr 0 0),(5,.tr (ti t)),(6,.ptr 1 0),(15,.tr (bt u.graphs)),(16,.tr (ti u.graphs.length)),(17,.tr (ti t)),(56,.tr (aO g.nodes)),(57,.tr (ti g.nodes.length)),(58,.tr (ti i))],[(0,.cells 26 [.tr (ae u.shared),.tr (ae u.locks),.tr (bt u.graphs)]),(1,A1 g)],10⟩) (fun i=>i<=g.nodes.length/\R=uO g t RR (mW u g (g.nodes.drop i) i)/\∀n∈g.nodes.take i,rightB u g n=true) (fun i=>g.nodes.length-i) 0 [0,_] []
   (Sub.mk' rfl ⟨⟨rfl,rfl⟩,.inl rfl,⟨rfl,rfl⟩,.inl rfl,.inl rfl,.inl rfl,.inl rfl,.inl (by rw[<-hgl]),.inl rfl,trivial⟩ ⟨⟨rfl,.inl rfl,.inl rfl,.inl rfl,trivial⟩,⟨rfl,.inl rfl,.inl rfl,.inl rfl,.inl rfl,trivial⟩,trivial⟩ rfl rfl) ⟨x5 _,hR2,fun n hn=>by cases hn⟩ ?_
  clear hR2;rintro i ⟨hi,hR,hal⟩ -
  conv=>whnf
  refine ah (fun hit=>?_) (fun hit=>?_)
  ·have hit:i<g.nodes.length:=by have:decide ((i:Int)<(g.nodes.length:Int))=true:=hit;have:=of_decide_eq_true this;omega
   obtain⟨n,hn⟩:∃n,g.nodes[i]?=some n:=⟨_,ab hit⟩;rw[aG hn] at hR;obtain⟨q0,q1,q2⟩:=hbd n (i3 hn);have hri:=BF u g n q0 ⟨q1,q2⟩;have hR2:R=uO g t RR (bif rightB u g n then mW u g (g.nodes.drop (i+1)) ((i:Int)+1) else some (i:Int)):=hR;clear hR;conv=>whnf
   refine⟨rfl,(JQ:(0:Int)<=i),(JQ:(i:Int)<((g.nodes.map Nd.cells).length:Int)),fun row hrow=>?_⟩;obtain⟨d,hd,rfl⟩:=iq hrow;obtain rfl:=vx (hn.symm.trans hd);clear hrow hd;conv=>whnf
   refine aa.pure _ (hri) rfl rfl fun _=>?_;conv=>whnf
   cases hrb:rightB u g n with
   |false=>
    have hRf:R=(60,(t:Int),(i:Int)):=by rw[hR2,hrb];rfl
    conv=>whnf
    exact⟨⟨.inl (by rw[hRf]),.inl (by rw[hRf]),.inl (by rw[hRf]),J0⟩,J0⟩
   |true=>
    rw[hrb,r7] at hR2;conv=>whnf
    exact⟨i+1,[0,1],[],Sub.mk' rfl ⟨JY,JZ,JY,JZ,JZ,JZ,JZ,JZ,.inl (ak hit JQ),J0⟩ aut rfl rfl,⟨hit,hR2,fun m hm=>by
     rw[aN hn] at hm;rcases FK.1 hm with w|w
     ·exact hal m w
     ·rw[xB.1 w];exact hrb⟩,by show g.nodes.length-(i+1)<g.nodes.length-i;omega⟩
  have hit:g.nodes.length<=i:=by have:decide ((i:Int)<(g.nodes.length:Int))=false:=hit;have:=ud this;omega
  rw[Hg hit] at hR;rw[vG hit] at hal;have hW:=aT (jJ hgb fun n hn=>⟨hal n hn,(hbd n hn).1⟩);have hhe:=vy g hW;have hR2:R=bif decide ((heldR g).2>=0) then(60,(t:Int),(heldR g).2) else RR:=hR;clear hR;conv=>whnf
  refine exT ?_;conv=>whnf
  refine aa.pure _ (hhe) rfl rfl fun _=>?_;conv=>whnf
  cases hf:decide ((heldR g).2>=0) with
  |true=>
   have hRf:R=(60,(t:Int),(heldR g).2):=by rw[hR2,hf];rfl
   conv=>whnf
   exact⟨⟨.inl (by rw[hRf]),.inl (by rw[hRf]),.inl (by rw[hRf]),J0⟩,J0⟩
  |false=>
   have hR3:R=ckG u (u.graphs.drop (t+1)) ((t+1:Nat):Int):=by rw[hR2,hf,lh,<-hRR];rfl
   conv=>whnf
   exact⟨t+1,[0],[],Sub.mk' rfl ⟨JY,JZ,JZ,.inl (ak htt JQ),J0⟩ aut rfl rfl,⟨htt,hR3⟩,by show u.graphs.length-(t+1)<u.graphs.length-t;omega⟩
 ·have htt:u.graphs.length<=t:=by have:decide ((t:Int)<(u.graphs.length:Int))=false:=htt;have:=ud this;omega
  rw[Hg htt] at hR;have hRf:R=(0,0,0):=hR;conv=>whnf
  refine exT ?_;conv=>whnf
  exact⟨⟨.inl (by rw[hRf]),.inl (by rw[hRf]),.inl (by rw[hRf]),J0⟩,J0⟩
structure aJ where
 p:Prg
 t:Nat
 name:ByteArray
 loc:Int
structure LowS where
 slots:Int
 nodes:List Nd
 opens:List (Bool×Nat)
 over:Bool
def aP(to:Int)(L:List Nd)(o:Bool×Nat):List Nd:=match L[o.2]? with
 |some n=>L.set o.2 (bif o.1 then{ n with els:=to } else{ n with next:=to })
 |none=>L
def aK(to:Int)(os:List (Bool×Nat))(L:List Nd):List Nd:=os.foldl (aP to) L
def wI(x:Int):Int:=IntKind.i64.wrap x
def bM(s:LowS):LowS:={ s with slots:=wI (s.slots+1) }
def br(s:LowS):Int:=wI (wI (s.slots+1)-1)
def putS(n:Nd)(s:LowS):LowS:=bif decide ((s.nodes.length:Int)>=4096) then{ s with over:=true } else{ s with nodes:=aK s.nodes.length s.opens s.nodes++[{ n with origin:=s.nodes.length }],opens:=[(false,s.nodes.length)] }
def fG(s:LowS):Int:=bif decide ((s.nodes.length:Int)>=4096) then 0 else s.nodes.length
abbrev v00:Val:=⟨false,0,0⟩
abbrev nd00:Nd:=⟨0,0,0,0,v00,v00,0,0,0⟩
def inV(k:Int):Val:=⟨true,k,0⟩
mutual
def b9(c:aJ):Expr->LowS->LowS×Val
 | .mk kind op word name kids _,s=>
  bif kind==1 then(s,⟨false,0,word⟩)
  else bif kind==2 then(bif decide (localI c.p c.t name>=0) then(s,inV (localI c.p c.t name))
   else(putS { nd00 with kind:=2,thing:=findI c.p.shared name 0,slot:=br s } (bM s),inV (br s)))
  else bif two op then(putS { nd00 with kind:=1,op:=op,a:=(ag c kids s).2,b:=(cE c kids (ag c kids s).1).2,slot:=br (cE c kids (ag c kids s).1).1 } (bM (cE c kids (ag c kids s).1).1),inV (br (cE c kids (ag c kids s).1).1))
  else(putS { nd00 with kind:=1,op:=op,a:=(ag c kids s).2,slot:=br (ag c kids s).1 } (bM (ag c kids s).1),inV (br (ag c kids s).1))
def ag(c:aJ):List Expr->LowS->LowS×Val
 |[],s=>(s,v00)
 |e::_,s=>b9 c e s
def cE(c:aJ):List Expr->LowS->LowS×Val
 |[],s=>(s,v00)
 |_::r,s=>ag c r s
end
def gM(c:aJ)(name:ByteArray)(v:Val)(s:LowS):LowS:=bif decide (localI c.p c.t name>=0) then putS { nd00 with kind:=1,slot:=localI c.p c.t name,a:=v } s else putS { nd00 with kind:=3,thing:=findI c.p.shared name 0,a:=v } s
def lp(c:aJ)(name other:ByteArray)(v:Val)(s:LowS):LowS:=bif decide (localI c.p c.t name>=0) then putS { nd00 with kind:=4,a:=v,thing:=findI c.p.shared other 0,slot:=localI c.p c.t name } s
 else gM c name (inV (br s)) (putS { nd00 with kind:=4,a:=v,thing:=findI c.p.shared other 0,slot:=br s } (bM s))
def cT(os:List (Bool×Nat))(s:LowS):LowS:={ s with opens:=os }
mutual
def ku(c:aJ):Stmt->LowS->LowS
 | .mk kind name other e body els _,s=>
  bif kind==1 then gM c name (ag c e s).2 (ag c e s).1
  else bif kind==2 then lp c name other (ag c e s).2 (ag c e s).1
  else bif kind==3 then
   cT ((blockS c body (putS { nd00 with kind:=8,a:=(ag c e s).2 } (ag c e s).1)).opens++(blockS c els (cT [(true,(fG (ag c e s).1).toNat)] (blockS c body (putS { nd00 with kind:=8,a:=(ag c e s).2 } (ag c e s).1)))).opens)
    (blockS c els (cT [(true,(fG (ag c e s).1).toNat)] (blockS c body (putS { nd00 with kind:=8,a:=(ag c e s).2 } (ag c e s).1))))
  else bif kind==4 then
   (bif (blockS c body (putS { nd00 with kind:=8,a:=(ag c e s).2 } (ag c e s).1)).over then blockS c body (putS { nd00 with kind:=8,a:=(ag c e s).2 } (ag c e s).1)
    else{ blockS c body (putS { nd00 with kind:=8,a:=(ag c e s).2 } (ag c e s).1) with nodes:=aK s.nodes.length (blockS c body (putS { nd00 with kind:=8,a:=(ag c e s).2 } (ag c e s).1)).opens (blockS c body (putS { nd00 with kind:=8,a:=(ag c e s).2 } (ag c e s).1)).nodes,opens:=[(true,(fG (ag c e s).1).toNat)] })
  else bif kind==5 then putS { nd00 with kind:=6,thing:=findI c.p.locks name 0 } (blockS c body (putS { nd00 with kind:=5,thing:=findI c.p.locks name 0 } s))
  else bif kind==6 then putS { nd00 with kind:=7,a:=(ag c e s).2 } (ag c e s).1
  else s
def blockS(c:aJ):List Stmt->LowS->LowS
 |[],s=>s
 |x::r,s=>bif s.over then s else blockS c r (ku c x s)
end
end Go.Proofs.YtapmdfcmpglieaaGreatDoor.am
set_option maxRecDepth 100000
set_option maxHeartbeats 4000000
namespace Go.Proofs.YtapmdfcmpglieaaGreatDoor.am
open Go Go.Proofs
abbrev lwB(c:aJ)(sl:Int)(N M:Nat)(ov:Bool)(hn ho:Nat):Blk:=.cells 146 [.tr (ae c.p.shared),.tr (ae c.p.locks),.tr (aA c.p.threads),.tr (ti (c.t:Nat)),.tr (ts c.name),.tr (ti c.loc),.tr (ti sl),.sl hn N,.sl ho M,.tr (tb ov)]
abbrev lwN(c:aJ)(sl:Int)(N:Nat)(ov:Bool)(hn:Nat):Blk:=.cells 146 [.tr (ae c.p.shared),.tr (ae c.p.locks),.tr (aA c.p.threads),.tr (ti (c.t:Nat)),.tr (ts c.name),.tr (ti c.loc),.tr (ti sl),.sl hn N,iG,.tr (tb ov)]
abbrev nxG:Nat:=153
abbrev otG:Nat:=164
def cloD(o:Bool×Nat):Nat×List Tr:=(bif o.1 then otG else nxG,[ti (o.2:Nat)])
abbrev df(l:List (Bool×Nat)):Blk:=.fns 187 8 0 (l.map cloD)
abbrev fzA:AV:=.ifc (4*HMod) (.fn 0 [.ptr 0 0])
abbrev Fa(o:Bool×Nat):AV:=.fn (bif o.1 then otG else nxG) [fzA,.ept [ti (o.2:Nat)]]
theorem j6(to:Int)(L:List Nd)(o:Bool×Nat):(aP to L o).length=L.length:=by
 unfold aP;cases L[o.2]? with
 |none=>rfl
 |some n=>exact G0
theorem bw(to:Int):∀(os:List (Bool×Nat))(L:List Nd),(aK to os L).length=L.length
 |[],_=>rfl
 |o::r,L=>(bw to r (aP to L o)).trans (j6 to L o)
theorem sC(to:Int)(os:List (Bool×Nat))(o:Bool×Nat)(L:List Nd):aK to (os++[o]) L=aP to (aK to os L) o:=by unfold aK;rw[IV];rfl
theorem oO(c:aJ)(s:LowS):K 149 [.ptr 0 0] [lwB c s.slots s.nodes.length s.opens.length s.over 1 2,cr s.nodes,df s.opens] (.ret (.tr (ti (br s)))) [some (lwB c (bM s).slots s.nodes.length s.opens.length s.over 1 2),some (cr s.nodes),some (df s.opens)]:=by
 refine Ctr.of hT hmix Tryz.func149 rfl (fun _ _=>JR) rfl fun hok=>?_;clear hok;conv=>whnf
 exact aut
theorem yx(c:aJ)(sl:Int)(N k:Nat)(ov:Bool)(L:List Nd):K 105 [.ptr 0 0,.tr (ti (k:Nat))] [lwN c sl N ov 1,cr L] (.ret (Fa (false,k))) [some (lwN c sl N ov 1),some (cr L)]:=by
 refine Ctr.of hT hmix Tryz.func105 rfl (fun _ _=>JR) rfl fun hok=>?_;clear hok;conv=>whnf
 exact aut
theorem ym(c:aJ)(sl:Int)(N M k:Nat)(ov:Bool)(L:List Nd)(os:List (Bool×Nat)):K 151 [.ptr 0 0,.tr (ti (k:Nat))] [lwB c sl N M ov 1 2,cr L,df os] (.ret (Fa (true,k))) [some (lwB c sl N M ov 1 2),some (cr L),some (df os)]:=by
 refine Ctr.of hT hmix Tryz.func151 rfl (fun _ _=>JR) rfl fun hok=>?_;clear hok;conv=>whnf
 exact aut
theorem xK(c:aJ)(sl:Int)(N k:Nat)(ov:Bool)(L:List Nd):K 151 [.ptr 0 0,.tr (ti (k:Nat))] [lwN c sl N ov 1,cr L] (.ret (Fa (true,k))) [some (lwN c sl N ov 1),some (cr L)]:=by
 refine Ctr.of hT hmix Tryz.func151 rfl (fun _ _=>JR) rfl fun hok=>?_;clear hok;conv=>whnf
 exact aut
theorem CJ(c:aJ)(sl:Int)(M k:Nat)(ov:Bool)(to_:Int)(L:List Nd)(os:List (Bool×Nat))(hk:k<L.length):K 153 [.tr (ti to_),fzA,.ept [ti (k:Nat)]] [lwB c sl L.length M ov 1 2,cr L,df os] (.ret (.tup [])) [some (lwB c sl L.length M ov 1 2),some (cr (aP to_ L (false,k))),some (df os)]:=by
 obtain⟨n,hn⟩:∃n,L[k]?=some n:=⟨_,ab hk⟩;have hf:aP to_ L (false,k)=L.set k { n with next:=to_ }:=by unfold aP;simp only[hn];rfl
 rw[hf];refine Ctr.of hT hmix Tryz.func153 rfl (fun _ _=>JR) rfl fun hok=>?_;clear hok;conv=>whnf
 refine⟨rfl,(JQ:(0:Int)<=k),(JQ:(k:Int)<(L.length:Int)),?_⟩;conv=>whnf
 refine ixS hn ?_;refine⟨(JS:10+1<=13),?_⟩;conv=>whnf
 refine drT ?_;conv=>whnf
 exact⟨J0,aut,⟨rfl,rfl,rfl,by rw[Hp];rfl⟩,aut,J0⟩
theorem zh(c:aJ)(sl:Int)(M k:Nat)(ov:Bool)(to_:Int)(L:List Nd)(os:List (Bool×Nat))(hk:k<L.length):K 164 [.tr (ti to_),fzA,.ept [ti (k:Nat)]] [lwB c sl L.length M ov 1 2,cr L,df os] (.ret (.tup [])) [some (lwB c sl L.length M ov 1 2),some (cr (aP to_ L (true,k))),some (df os)]:=by
 obtain⟨n,hn⟩:∃n,L[k]?=some n:=⟨_,ab hk⟩;have hf:aP to_ L (true,k)=L.set k { n with els:=to_ }:=by unfold aP;simp only[hn];rfl
 rw[hf];refine Ctr.of hT hmix Tryz.func164 rfl (fun _ _=>JR) rfl fun hok=>?_;clear hok;conv=>whnf
 refine⟨rfl,(JQ:(0:Int)<=k),(JQ:(k:Int)<(L.length:Int)),?_⟩;conv=>whnf
 refine ixS hn ?_;refine⟨(JS:11+1<=13),?_⟩;conv=>whnf
 refine drT ?_;conv=>whnf
 exact⟨J0,aut,⟨rfl,rfl,rfl,by rw[Hp];rfl⟩,aut,J0⟩
theorem uW(c:aJ)(sl:Int)(ov:Bool)(to_:Int)(L:List Nd)(os:List (Bool×Nat))(hop:∀o∈os,o.2<L.length)(hM:os.length<=1000000):K 104 [.ptr 0 0,.tr (ti to_)] [lwB c sl L.length os.length ov 1 2,cr L,df os] (.ret (.tup [])) [some (lwN c sl L.length ov 1),some (cr (aK to_ os L)),none]:=by
 refine Ctr.of hT hmix Tryz.func104 rfl (fun _ _=>JR) rfl fun hok=>?_;clear hok;conv=>whnf
 refine aq.by (fun i:Nat=>⟨[(0,.ptr 0 0),(1,.tr (ti to_)),(9,.sl 2 os.length),(10,.tr (ti (os.length:Nat))),(11,.tr (ti (i:Nat)))],[(0,lwB c sl L.length os.length ov 1 2),(1,cr (aK to_ (os.take i) L)),(2,df os)],12⟩) (fun i=>i<=os.length) (fun i=>os.length-i) 0 [0,1,2] []
  (Sub.au) (x5 _) ?_
 rintro i hi -
 conv=>whnf
 refine ah (fun hit=>?_) (fun hit=>?_)
 ·replace hit:i<os.length:=by have:decide ((i:Int)<(os.length:Int))=true:=hit;have:=of_decide_eq_true this;omega
  obtain⟨o,ho⟩:∃o,os[i]?=some o:=⟨_,ab hit⟩;have hol:=hop o (i3 ho);have hLl:=bw to_ (os.take i) L;have hnx:aK to_ (os.take (i+1)) L=aP to_ (aK to_ (os.take i) L) o:=by rw[aN ho,sC]
  generalize aK to_ (os.take i) L=L1 at hLl hnx;rw[<-hLl];have hcall:=fun(h:o.2<L1.length)=>CJ c sl os.length o.2 ov to_ L1 os h;have hcall2:=fun(h:o.2<L1.length)=>zh c sl os.length o.2 ov to_ L1 os h;obtain⟨b,k⟩:=o;simp only at hol hcall hcall2;conv=>whnf
  refine⟨rfl,(JQ:(0:Int)<=i),(JQ:(i:Int)<(os.length:Int)),?_⟩;conv=>whnf
  refine⟨rfl,rfl,(by rw[ad];exact hit),fun q hq=>?_⟩;obtain rfl:cloD (b,k)=q:=by rw[z5,GY,ho] at hq;exact vx hq
  clear hq;cases b with
  |false=>
   conv=>whnf
   refine aa.au [0,1,2] [] (hcall JQ) ?_;intro _;conv=>whnf
   exact⟨i+1,[0,1,2],[],Sub.mk' rfl ⟨JY,JZ,JY,JZ,.inl (ak hit JQ),J0⟩ ⟨aut,⟨rfl,rfl,rfl,by rw[hnx]⟩,aut⟩ rfl rfl,hit,by show os.length-(i+1)<os.length-i;omega⟩
  |true=>
   conv=>whnf
   refine aa.au [0,1,2] [] (hcall2 JQ) ?_;intro _;conv=>whnf
   exact⟨i+1,[0,1,2],[],Sub.mk' rfl ⟨JY,JZ,JY,JZ,.inl (ak hit JQ),J0⟩ ⟨aut,⟨rfl,rfl,rfl,by rw[hnx]⟩,aut⟩ rfl rfl,hit,by show os.length-(i+1)<os.length-i;omega⟩
 replace hit:i=os.length:=by have:decide ((i:Int)<(os.length:Int))=false:=hit;have:=ud this;omega
 subst hit;rw[Hi];conv=>whnf
 refine exT ?_;conv=>whnf
 exact aut
end Go.Proofs.YtapmdfcmpglieaaGreatDoor.am
set_option maxRecDepth 100000
set_option maxHeartbeats 4000000
namespace Go.Proofs.YtapmdfcmpglieaaGreatDoor.am
open Go Go.Proofs
abbrev stB(c:aJ)(s:LowS)(hn ho:Nat):Blk:=lwB c s.slots s.nodes.length s.opens.length s.over hn ho
abbrev stI(c:aJ)(s:LowS):List Blk:=[stB c s 1 2,cr s.nodes,df s.opens]
abbrev stO(c:aJ)(s:LowS):List (Option Blk):=[some (stB c s 3 4),none,none,some (cr s.nodes),some (df s.opens)]
structure OkS(s:LowS):Prop where
 inn:∀o∈s.opens,o.2<s.nodes.length
 few:s.opens.length<=1000000
theorem fh{s:LowS}(h:OkS s):OkS (bM s):=⟨h.inn,h.few⟩
theorem pG{s:LowS}(n:Nd)(h:OkS s):OkS (putS n s):=by
 unfold putS;cases decide ((s.nodes.length:Int)>=4096) with
 |true=>exact⟨h.inn,h.few⟩
 |false=>
  refine⟨fun o ho=>?_,by show 1<=1000000;decide⟩;have ho:o∈[(false,s.nodes.length)]:=ho;simp only[xB] at ho;subst ho;show s.nodes.length<(aK s.nodes.length s.opens s.nodes++[_]).length;rw[uR,bw];exact Hh _
theorem d7(c:aJ)(n:Nd)(s:LowS)(h:OkS s):K 42 [.ptr 0 0,n.av] (stI c s) (.ret (.tr (ti (fG s)))) (stO c (putS n s)):=by
 have hP:putS n s=bif decide ((s.nodes.length:Int)>=4096) then{ s with over:=true } else{ s with nodes:=aK s.nodes.length s.opens s.nodes++[{ n with origin:=s.nodes.length }],opens:=[(false,s.nodes.length)] }:=rfl;have hI:fG s=bif decide ((s.nodes.length:Int)>=4096) then(0:Int) else((s.nodes.length:Nat):Int):=rfl;have hld:=uW c s.slots s.over s.nodes.length s.nodes s.opens h.inn h.few;have hLl:=bw s.nodes.length s.opens s.nodes;generalize putS n s=S at hP |-
 generalize fG s=R at hI |-
 obtain⟨sl,L,os,ov⟩:=s;simp only at hP hI hld hLl;generalize aK L.length os L=L1 at hP hld hLl;refine Ctr.mv [8] [0,3,4] 5 hT hmix Tryz.func42 rfl (fun _ _=>JR) rfl (fun hok=>?_);clear hok;conv=>whnf
 cases e0:decide (((L.length:Nat):Int)>=4096) with
 |true=>
  rw[e0,r7] at hP hI;subst hP hI;conv=>whnf
  exact⟨[0,1,2,3,4],rfl,rfl,JZ,aut,aut,aut,J0⟩
 |false=>
 rw[e0,lh] at hP hI;subst hP hI;have hm:=ud e0;conv=>whnf
 refine aa.au [0,3,4] [] (hld) ?_;intro _;conv=>whnf
 refine bD.by (fun _:Unit=>⟨[(0,.ptr 0 0),(5,.tr (ti (L.length:Nat)))],[(0,lwN c sl (L.length+1) ov 3),(3,cr (L1++[{ n with origin:=L.length }]))],10⟩) (fun _=>True) ?_ ?_
 ·conv=>whnf
  refine⟨rfl,rfl,rfl,(by rw[ad];omega),(JQ:(L.length+1)*96<=150000000000000),fun q hq=>?_,?_⟩
  ·cases hq with
   |head=>exact GG rfl
   |tail _ h=>
    first
    |(cases h;done)
    |(cases h with
     |head=>exact GG rfl
     |tail _ h=>cases h)
  conv=>whnf
  refine drT ?_;conv=>whnf
  have hda:(L1.map Nd.cells).take L.length++[({ n with origin:=L.length }:Nd).cells]=(L1++[{ n with origin:=L.length }]).map Nd.cells:=by rw[vG (by rw[ad];omega),FP];rfl
  exact⟨(),[0,1,2,_],[],Sub.mk' rfl ⟨JY,JZ,J0⟩ ⟨⟨rfl,JZ,JZ,JZ,JZ,JZ,JZ,JZ,JY,JZ,JZ,J0⟩,⟨rfl,rfl,rfl,hda⟩,J0⟩ rfl rfl,J0⟩
 rintro - - -
 conv=>whnf
 refine aa.au [0,3] [] (yx c sl (L.length+1) L.length ov (L1++[{ n with origin:=L.length }])) ?_;intro _;conv=>whnf
 have hl2:(L1++[({ n with origin:=(L.length:Nat) }:Nd)]).length=L.length+1:=by rw[uR,hLl];rfl
 exact⟨[0,1,2,3,14],rfl,rfl,JZ,⟨rfl,JZ,JZ,JZ,JZ,JZ,JZ,JZ,⟨rfl,hl2.symm⟩,JY,JZ,J0⟩,aut,aut,J0⟩
end Go.Proofs.YtapmdfcmpglieaaGreatDoor.am
set_option maxRecDepth 100000
set_option maxHeartbeats 4000000
namespace Go.Proofs.YtapmdfcmpglieaaGreatDoor.am
open Go Go.Proofs
mutual
def wfE:Expr->Bool
 | .mk kind op _ _ kids _=>(kind==1||kind==2||(bif two op then decide (2<=kids.length) else decide (1<=kids.length)))&&lA kids
def lA:List Expr->Bool
 |[]=>true
 |e::l=>wfE e&&lA l
end
mutual
theorem qv(c:aJ):∀(e:Expr)(s:LowS),OkS s->OkS (b9 c e s).1
 | .mk kind op word name kids _,s,h=>by
  have h0:=mJ c kids s h;have h1:=Ab c kids _ h0;unfold b9;cases kind==1 with
  |true=>exact h
  |false=>
  cases kind==2 with
  |true=>
   cases decide (localI c.p c.t name>=0) with
   |true=>exact h
   |false=>exact pG _ (fh h)
  |false=>
  cases two op with
  |true=>exact pG _ (fh h1)
  |false=>exact pG _ (fh h0)
theorem mJ(c:aJ):∀(l:List Expr)(s:LowS),OkS s->OkS (ag c l s).1
 |[],s,h=>by unfold ag;exact h
 |e::_,s,h=>by unfold ag;exact qv c e s h
theorem Ab(c:aJ):∀(l:List Expr)(s:LowS),OkS s->OkS (cE c l s).1
 |[],s,h=>by unfold cE;exact h
 |_::r,s,h=>by unfold cE;exact mJ c r s h
end
abbrev vA(v:Val):AV:=.agg [.tr (tb v.s),.tr (ti v.k),.tr (ti v.w)]
theorem Ar(k:Int):K 150 [.tr (ti k)] [] (.ret (vA (inV k))) []:=Gb k
theorem Ac(c:aJ):∀(n:Nat)(e:Expr)(s:LowS),SizeOf.sizeOf e<n->wfE e=true->OkS s->K 146 [.ptr 0 0,e.av] (stI c s) (.ret (vA (b9 c e s).2)) (stO c (b9 c e s).1):=by
 intro n;induction n with
 |zero=>intro e s h;omega
 |succ n ih=>
 intro e s hsz hwf hS;obtain⟨kind,op,word,name,kids,at_⟩:=e;simp only[Expr.mk.sizeOf_spec] at hsz;have hloc:=k20 c.p (c.t:Nat) name;have hsh:=k16 c.p name;have hE:b9 c (.mk kind op word name kids at_) s=bif kind==1 then(s,⟨false,0,word⟩)
  else bif kind==2 then(bif decide (localI c.p c.t name>=0) then(s,inV (localI c.p c.t name))
   else(putS { nd00 with kind:=2,thing:=findI c.p.shared name 0,slot:=br s } (bM s),inV (br s)))
  else bif two op then(putS { nd00 with kind:=1,op:=op,a:=(ag c kids s).2,b:=(cE c kids (ag c kids s).1).2,slot:=br (cE c kids (ag c kids s).1).1 } (bM (cE c kids (ag c kids s).1).1),inV (br (cE c kids (ag c kids s).1).1))
  else(putS { nd00 with kind:=1,op:=op,a:=(ag c kids s).2,slot:=br (ag c kids s).1 } (bM (ag c kids s).1),inV (br (ag c kids s).1)):=by rw[b9]
 generalize b9 c (.mk kind op word name kids at_) s=R at hE |-
 unfold wfE at hwf;rw[t4] at hwf;refine Ctr.mv [9,10,11,12,14,16] [0,3,4] 5 hT hmix Tryz.func146 rfl (fun _ _=>JR) rfl (fun hok=>?_);clear hok;conv=>whnf
 refine bD.by (fun _:Unit=>⟨[(0,.ptr 0 0),(3,.ptr 5 0),(4,.ptr 6 0)],[(0,stB c s 3 4),(3,cr s.nodes),(4,df s.opens),(5,.cells 244 ((Expr.mk kind op word name kids at_).cells.map .tr)),(6,.cells 110 [.tr (tb false),.tr (ti 0),.tr (ti 0)])],20⟩) (fun _=>(kind==1)=false/\(kind==2)=false) ?_ ?_
 ·conv=>whnf
  cases h1:(kind==1) with
  |true=>
   rw[h1,r7] at hE;subst hE;conv=>whnf
   exact⟨[0,1,2,3,4],rfl,rfl,aut,aut,aut,aut,J0⟩
  |false=>
  rw[h1,lh] at hE;conv=>whnf
  cases h2:(kind==2) with
  |true=>
   rw[h2,r7] at hE;generalize localI c.p (c.t:Nat) name=LI at hloc hE;generalize findI c.p.shared name 0=FI at hsh hE;conv=>whnf
   refine aa.pure _ (hloc) rfl rfl ?_;conv=>whnf
   refine drT ?_;conv=>whnf
   cases h3:decide (LI>=0) with
   |true=>
    rw[h3,r7] at hE;subst hE;conv=>whnf
    refine aa.pure _ (Ar LI) rfl rfl fun _=>?_;conv=>whnf
    exact⟨[0,1,2,3,4],rfl,rfl,aut,aut,aut,aut,J0⟩
   |false=>
   rw[h3,lh] at hE;subst hE;conv=>whnf
   refine bD.by (fun _:Unit=>⟨[(0,.ptr 0 0),(3,.ptr 5 0),(4,.ptr 6 0),(6,.ptr 7 0)],[(0,stB c (bM s) 3 4),(3,cr (bM s).nodes),(4,df (bM s).opens),(5,.cells 244 ((Expr.mk kind op word name kids at_).cells.map .tr)),(6,.cells 110 [.tr (tb false),.tr (ti 0),.tr (ti 0)]),(7,.cells 112 (({ nd00 with kind:=2,thing:=FI,slot:=br s }:Nd).cells.map .tr))],20⟩) (fun _=>True) ?_ ?_
   ·conv=>whnf
    refine aa.pure _ (hsh) rfl rfl ?_;conv=>whnf
    refine aa.au [0,3,4] [] (oO c s) ?_;conv=>whnf
    refine drT ?_;conv=>whnf
    exact⟨(),[0,1,2,3,4,5,6,_],[],Sub.aw,J0⟩
   rintro - - -
   conv=>whnf
   refine bD.by (fun _:Unit=>⟨[(0,.ptr 0 0),(3,.ptr 5 0),(4,.ptr 6 0),(6,.ptr 7 0)],[(0,stB c (putS { nd00 with kind:=2,thing:=FI,slot:=br s } (bM s)) 3 4),(3,cr (putS { nd00 with kind:=2,thing:=FI,slot:=br s } (bM s)).nodes),(4,df (putS { nd00 with kind:=2,thing:=FI,slot:=br s } (bM s)).opens),(5,.cells 244 ((Expr.mk kind op word name kids at_).cells.map .tr)),(6,.cells 110 [.tr (tb false),.tr (ti 0),.tr (ti 0)]),(7,.cells 112 (({ nd00 with kind:=2,thing:=FI,slot:=br s }:Nd).cells.map .tr))],20⟩) (fun _=>True) ?_ ?_
   ·have hp:=d7 c { nd00 with kind:=2,thing:=FI,slot:=br s } (bM s) (fh hS);generalize putS { nd00 with kind:=2,thing:=FI,slot:=br s } (bM s)=S2 at hp |-
    conv=>whnf
    refine aa.new [0,3,4] [] _ _ _ _ (hp) rfl rfl rfl rfl aut aut rfl rfl ?_;conv=>whnf
    intro _;conv=>whnf
    exact⟨(),[0,1,2,_,_,5,6,7],[],Sub.aw,J0⟩
   rintro - - -
   generalize putS { nd00 with kind:=2,thing:=FI,slot:=br s } (bM s)=S2;conv=>whnf
   refine aa.pure _ (Ar (br s)) rfl rfl fun _=>?_;conv=>whnf
   exact⟨[0,1,2,3,4],rfl,rfl,aut,aut,aut,aut,J0⟩
  |false=>
   conv=>whnf
   exact⟨(),[0,1,2,3,4,5,6],[],Sub.au,rfl,rfl⟩
 rintro - ⟨h1,h2⟩ -
 rw[h1,lh] at hE;rw[h2,lh] at hE;have hkl:1<=kids.length/\(two op=true->2<=kids.length):=by
  have:=hwf.1;rw[h1,h2] at this;cases ht:two op with
  |true=>rw[ht] at this;have:=of_decide_eq_true (show decide (2<=kids.length)=true by simpa using this);exact⟨JQ,fun _=>this⟩
  |false=>rw[ht] at this;have:=of_decide_eq_true (show decide (1<=kids.length)=true by simpa using this);exact⟨this,fun h=>by cases h⟩
 obtain⟨k0,kr,rfl⟩:∃k0 kr,kids=k0::kr:=by
  cases kids with
  |nil=>exact absurd hkl.1 JX
  |cons a r=>exact⟨a,r,rfl⟩
 have hw0:wfE k0=true/\lA kr=true:=by have:=hwf.2;unfold lA at this;rw[t4] at this;exact this
 simp only[JG] at hsz;have hv0:=ih k0 s JQ hw0.1 hS;have hA:ag c (k0::kr) s=b9 c k0 s:=by rw[ag]
 have hSA:=qv c k0 s hS;have hB:∀s,cE c (k0::kr) s=ag c kr s:=fun s=>by rw[cE]
 rw[hA] at hE;simp only[hB] at hE;generalize b9 c k0 s=A at hE hv0 hSA;have htw:=D4 op;clear hA hB;conv=>whnf
 refine bD.by (fun _:Unit=>⟨[(0,.ptr 0 0),(3,.ptr 5 0),(4,.ptr 6 0),(7,.ptr 7 0)],[(0,stB c (A.1) 3 4),(3,cr (A.1).nodes),(4,df (A.1).opens),(5,.cells 244 ((Expr.mk kind op word name (k0::kr) at_).cells.map .tr)),(6,.cells 110 [.tr (tb false),.tr (ti 0),.tr (ti 0)]),(7,.cells 112 (({ nd00 with kind:=1,op:=op,a:=A.2 }:Nd).cells.map .tr))],20⟩) (fun _=>True) ?_ ?_
 ·obtain⟨q1,q2,q3,q4,q5,q6⟩:=k0;conv=>whnf
  refine⟨rfl,Hd 0,(show(0:Int)<((Expr.rows (Expr.mk q1 q2 q3 q4 q5 q6::kr)).length:Int) by rw[aL,E0];omega),fun row hrow=>?_⟩;obtain rfl:Expr.cells (.mk q1 q2 q3 q4 q5 q6)=row:=vx hrow;clear hrow;conv=>whnf
  refine aa.new [0,3,4] [] _ _ _ _ (hv0) rfl rfl rfl rfl aut aut rfl rfl ?_;conv=>whnf
  refine drT ?_;conv=>whnf
  exact⟨(),[0,1,2,_,_,5,6,_],[],Sub.aw,J0⟩
 rintro - - -
 conv=>whnf
 refine bD.by (fun _:Unit=>⟨[(0,.ptr 0 0),(3,.ptr 5 0),(4,.ptr 6 0),(7,.ptr 7 0)],[(0,stB c (bif two op then(ag c kr A.1).1 else A.1) 3 4),(3,cr (bif two op then(ag c kr A.1).1 else A.1).nodes),(4,df (bif two op then(ag c kr A.1).1 else A.1).opens),(5,.cells 244 ((Expr.mk kind op word name (k0::kr) at_).cells.map .tr)),(6,.cells 110 [.tr (tb false),.tr (ti 0),.tr (ti 0)]),(7,.cells 112 (({ nd00 with kind:=1,op:=op,a:=A.2,b:=bif two op then(ag c kr A.1).2 else v00 }:Nd).cells.map .tr))],20⟩) (fun _=>True) ?_ ?_
 ·conv=>whnf
  refine aa.pure _ (htw) rfl rfl fun _=>?_;conv=>whnf
  cases ht:two op with
  |false=>
   conv=>whnf
   exact⟨(),[0,1,2,3,4,5,6,7],[],Sub.au,J0⟩
  |true=>
  obtain⟨k1,kr,rfl⟩:∃k0 kr',kr=k0::kr':=by
   have:=hkl.2 ht;cases kr with
   |nil=>simp at this
   |cons a r=>exact⟨a,r,rfl⟩
  have hw1:wfE k1=true:=by have:=hw0.2;unfold lA at this;rw[t4] at this;exact this.1
  simp only[JG] at hsz;have hv1:=ih k1 A.1 JQ hw1 hSA;have hA1:ag c (k1::kr) A.1=b9 c k1 A.1:=by rw[ag]
  rw[hA1];generalize b9 c k1 A.1=B at hv1 |-
  obtain⟨q1,q2,q3,q4,q5,q6⟩:=k1;conv=>whnf
  refine⟨rfl,(JS:(0:Int)<=1),(show(1:Int)<((Expr.rows (k0::Expr.mk q1 q2 q3 q4 q5 q6::kr)).length:Int) by rw[aL,E0,E0];omega),fun row hrow=>?_⟩;obtain rfl:Expr.cells (.mk q1 q2 q3 q4 q5 q6)=row:=vx hrow;clear hrow;conv=>whnf
  refine aa.new [0,3,4] [] _ _ _ _ (hv1) rfl rfl rfl rfl aut aut rfl rfl ?_;conv=>whnf
  intro _;conv=>whnf
  exact⟨(),[0,1,2,_,_,5,6,7],[],Sub.aw,J0⟩
 rintro - - -
 have hS2:OkS (bif two op then(ag c kr A.1).1 else A.1):=by
  cases two op with
  |true=>exact mJ c kr _ hSA
  |false=>exact hSA
 have hR:R=(putS { nd00 with kind:=1,op:=op,a:=A.2,b:=bif two op then(ag c kr A.1).2 else v00,slot:=br (bif two op then(ag c kr A.1).1 else A.1) } (bM (bif two op then(ag c kr A.1).1 else A.1)),inV (br (bif two op then(ag c kr A.1).1 else A.1))):=by rw[hE];cases two op<;>rfl
 generalize (bif two op then(ag c kr A.1).1 else A.1)=S1 at hR hS2 |-
 generalize (bif two op then(ag c kr A.1).2 else v00)=B2 at hR |-
 clear hE hv0;subst hR;have hp:=d7 c { nd00 with kind:=1,op:=op,a:=A.2,b:=B2,slot:=br S1 } (bM S1) (fh hS2);generalize putS { nd00 with kind:=1,op:=op,a:=A.2,b:=B2,slot:=br S1 } (bM S1)=S3 at hp |-
 conv=>whnf
 refine aa.au [0,3,4] [] (oO c S1) ?_;intro _;conv=>whnf
 refine bD.by (fun _:Unit=>⟨[(0,.ptr 0 0),(3,.ptr 5 0),(4,.ptr 6 0),(7,.ptr 7 0)],[(0,stB c (S3) 3 4),(3,cr (S3).nodes),(4,df (S3).opens),(5,.cells 244 ((Expr.mk kind op word name (k0::kr) at_).cells.map .tr)),(6,.cells 110 [.tr (tb false),.tr (ti 0),.tr (ti 0)]),(7,.cells 112 (({ nd00 with kind:=1,op:=op,a:=A.2,b:=B2,slot:=br S1 }:Nd).cells.map .tr))],20⟩) (fun _=>True) ?_ ?_
 ·conv=>whnf
  refine aa.new [0,3,4] [] _ _ _ _ (hp) rfl rfl rfl rfl aut aut rfl rfl ?_;conv=>whnf
  intro _;conv=>whnf
  exact⟨(),[0,1,2,_,_,5,6,7],[],Sub.aw,J0⟩
 rintro - - -
 conv=>whnf
 refine aa.pure _ (Ar (br S1)) rfl rfl fun _=>?_;conv=>whnf
 exact⟨[0,1,2,3,4],rfl,rfl,aut,aut,aut,aut,J0⟩
def ov(b:Bool):Nat:=match b with|true=>1|false=>0
def wi(s:LowS):Prop:=∀o∈s.opens,o.2<s.nodes.length
structure kK(s s':LowS):Prop where
 nodes:s.nodes.length<=s'.nodes.length
 cap:s.nodes.length<=4096->s'.nodes.length<=4096
 over:ov s.over<=ov s'.over
 opens:s'.opens.length+s.nodes.length<=s.opens.length+(1-s.opens.length)+s'.nodes.length
 inn:wi s->wi s'
structure nJ(s s':LowS):Prop where
 nodes:s.nodes.length<=s'.nodes.length
 cap:s.nodes.length<=4096->s'.nodes.length<=4096
 over:ov s.over<=ov s'.over
 opens:s'.opens.length+s.nodes.length+ov s.over<=s.opens.length+(1-s.opens.length)+s'.nodes.length+ov s'.over
 inn:wi s->wi s'
theorem kK.refl(s:LowS):kK s s:=⟨t9 _,id,t9 _,JQ,id⟩
theorem kK.trans{a b c:LowS}(h:kK a b)(k:kK b c):kK a c:=by refine⟨GB h.nodes k.nodes,fun q=>k.cap (h.cap q),GB h.over k.over,?_,fun q=>k.inn (h.inn q)⟩;have:=h.nodes;have:=k.nodes;have:=h.opens;have:=k.opens;omega
theorem kK.toS{a b:LowS}(h:kK a b):nJ a b:=by refine⟨h.nodes,h.cap,h.over,?_,h.inn⟩;have:=h.over;have:=h.opens;omega
theorem nJ.refl(s:LowS):nJ s s:=(kK.refl s).toS
theorem nJ.trans{a b c:LowS}(h:nJ a b)(k:nJ b c):nJ a c:=by refine⟨GB h.nodes k.nodes,fun q=>k.cap (h.cap q),GB h.over k.over,?_,fun q=>k.inn (h.inn q)⟩;have:=h.nodes;have:=k.nodes;have:=h.opens;have:=k.opens;have:=h.over;have:=k.over;omega
theorem dx(s:LowS):kK s (bM s):=⟨t9 _,id,t9 _,by show s.opens.length+s.nodes.length<=_+s.nodes.length;omega,id⟩
theorem gy{s:LowS}(n:Nd)(h:decide ((s.nodes.length:Int)>=4096)=true):putS n s={ s with over:=true }:=by unfold putS;rw[h];rfl
theorem aQ{s:LowS}(n:Nd)(h:decide ((s.nodes.length:Int)>=4096)=false):putS n s={ s with nodes:=aK s.nodes.length s.opens s.nodes++[{ n with origin:=s.nodes.length }],opens:=[(false,s.nodes.length)] }:=by unfold putS;rw[h];rfl
theorem dS{s:LowS}(n:Nd)(h:decide ((s.nodes.length:Int)>=4096)=false):(putS n s).nodes.length=s.nodes.length+1:=by rw[aQ n h];show(aK s.nodes.length s.opens s.nodes++[_]).length=_;rw[uR,bw];rfl
theorem putS_rel(n:Nd)(s:LowS):kK s (putS n s):=by
 cases h:decide ((s.nodes.length:Int)>=4096) with
 |true=>
  rw[gy n h];refine⟨t9 _,id,?_,by show s.opens.length+s.nodes.length<=_+s.nodes.length;omega,id⟩;show ov s.over<=1;cases s.over<;>decide
 |false=>
  have hl:=dS n h;have hlt:=ud h;refine⟨JQ,fun _=>JQ,?_,?_,fun hi=>?_⟩;·rw[aQ n h];exact t9 _
  ·have:(putS n s).opens.length=1:=by rw[aQ n h];rfl
   omega
  ·intro o ho;have ho:o∈(putS n s).opens:=ho;have e:(putS n s).opens=[(false,s.nodes.length)]:=by rw[aQ n h]
   rw[e,xB] at ho;subst ho;rw[hl];exact Hh _
mutual
theorem dJ(c:aJ):∀(e:Expr)(s:LowS),kK s (b9 c e s).1
 | .mk kind op word name kids _,s=>by
  have h0:=et c kids s;have h1:=oD c kids (ag c kids s).1;unfold b9;cases kind==1 with
  |true=>exact .refl s
  |false=>
  cases kind==2 with
  |true=>
   cases decide (localI c.p c.t name>=0) with
   |true=>exact .refl s
   |false=>exact(dx s).trans (putS_rel _ _)
  |false=>
  cases two op with
  |true=>exact h0.trans (h1.trans ((dx _).trans (putS_rel _ _)))
  |false=>exact h0.trans ((dx _).trans (putS_rel _ _))
theorem et(c:aJ):∀(l:List Expr)(s:LowS),kK s (ag c l s).1
 |[],s=>by unfold ag;exact .refl s
 |e::_,s=>by unfold ag;exact dJ c e s
theorem oD(c:aJ):∀(l:List Expr)(s:LowS),kK s (cE c l s).1
 |[],s=>by unfold cE;exact .refl s
 |_::r,s=>by unfold cE;exact et c r s
end
theorem gv(c:aJ)(name:ByteArray)(v:Val)(s:LowS):kK s (gM c name v s):=by unfold gM;cases decide (localI c.p c.t name>=0)<;>exact putS_rel _ _
theorem nG(c:aJ)(name other:ByteArray)(v:Val)(s:LowS):kK s (lp c name other v s):=by
 unfold lp;cases decide (localI c.p c.t name>=0) with
 |true=>exact putS_rel _ _
 |false=>exact(dx s).trans ((putS_rel _ _).trans (gv c _ _ _))
theorem d6(c:aJ)(l:List Stmt){s:LowS}(h:s.over=true):blockS c l s=s:=by
 cases l with
 |nil=>rw[blockS]
 |cons x r=>rw[blockS,h];rfl
theorem qi{s s3:LowS}(n:Nd)(h:nJ (putS n s) s3):(fG s).toNat<s3.nodes.length:=by
 unfold fG;cases hb:decide ((s.nodes.length:Int)>=4096) with
 |true=>
  have:=of_decide_eq_true hb;have h1:=h.nodes;rw[gy n hb] at h1;have h1:s.nodes.length<=s3.nodes.length:=h1;show 0<s3.nodes.length;omega
 |false=>
  have h1:=h.nodes;rw[dS n hb] at h1;show((s.nodes.length:Int)).toNat<_;rw[GY];omega
theorem qF{s s1 s2 s3 s5:LowS}(n:Nd)(ho:s.over=false)(h1:kK s s1)(h2:s2=putS n s1)(h3:nJ s2 s3)(h3o:s2.over=true->s3=s2)(h5:nJ (cT [(true,(fG s1).toNat)] s3) s5)(h5o:s3.over=true->s5=cT [(true,(fG s1).toNat)] s3):nJ s (cT (s3.opens++s5.opens) s5):=by
 have hp:=putS_rel n s1;rw[<-h2] at hp;have hb:(fG s1).toNat<s3.nodes.length:=qi n (by rw[<-h2];exact h3);have hn5:s3.nodes.length<=s5.nodes.length:=h5.nodes;have hin3:wi s->wi s3:=fun q=>h3.inn (hp.inn (h1.inn q));refine⟨?_,fun q=>?_,?_,?_,fun q=>?_⟩
 ·have:=h1.nodes;have:=hp.nodes;have:=h3.nodes;show s.nodes.length<=s5.nodes.length;omega
 ·exact h5.cap (h3.cap (hp.cap (h1.cap q)))
 ·exact GB h1.over (GB hp.over (GB h3.over h5.over))
 ·show(s3.opens++s5.opens).length+s.nodes.length+ov s.over<=s.opens.length+(1-s.opens.length)+s5.nodes.length+ov s5.over;rw[uR];have o5:s5.opens.length+s3.nodes.length+ov s3.over<=1+s5.nodes.length+ov s5.over:=h5.opens;have e0:ov s.over=0:=by rw[ho];rfl
  have n1:=h1.nodes;have o1:=h1.opens;cases hbig:decide ((s1.nodes.length:Int)>=4096) with
  |true=>
   have e2:s2={ s1 with over:=true }:=by rw[h2,gy n hbig]
   have e3:s3=s2:=h3o (by rw[e2]);have e5:=h5o (by rw[e3,e2]);subst e5;rw[e3,e2];show s1.opens.length+1+s.nodes.length+ov s.over<=s.opens.length+(1-s.opens.length)+s1.nodes.length+1;omega
  |false=>
   have l2:s2.nodes.length=s1.nodes.length+1:=by rw[h2,dS n hbig]
   have p2:s2.opens.length=1:=by rw[h2,aQ n hbig];rfl
   have o3:=h3.opens;have n3:=h3.nodes;rw[p2] at o3;omega
 ·intro o hm;have hm:o∈s3.opens++s5.opens:=hm;show o.2<s5.nodes.length;rcases FK.1 hm with hm|hm
  ·exact Hb (hin3 q o hm) hn5
  ·refine h5.inn (fun o' ho'=>?_) o hm;have ho':o'∈[(true,(fG s1).toNat)]:=ho';rw[xB] at ho';subst ho';exact hb
theorem yd{s s1 s2 s3:LowS}(n:Nd)(h1:kK s s1)(h2:s2=putS n s1)(h3:nJ s2 s3)(hov:s3.over=false)(to:Int):nJ s { s3 with nodes:=aK to s3.opens s3.nodes,opens:=[(true,(fG s1).toNat)] }:=by
 have hp:=putS_rel n s1;rw[<-h2] at hp;have hb:(fG s1).toNat<s3.nodes.length:=qi n (by rw[<-h2];exact h3);have hl:=bw to s3.opens s3.nodes;have hm:=h1.toS.trans (hp.toS.trans h3);refine⟨?_,fun q=>?_,hm.over,?_,fun q=>?_⟩
 ·show s.nodes.length<=(aK to s3.opens s3.nodes).length;rw[hl];exact hm.nodes
 ·show(aK to s3.opens s3.nodes).length<=4096;rw[hl];exact hm.cap q
 ·show 1+s.nodes.length+ov s.over<=s.opens.length+(1-s.opens.length)+(aK to s3.opens s3.nodes).length+ov s3.over;rw[hl];have:=hm.over;have:=hm.nodes;omega
 ·intro o ho;have ho:o∈[(true,(fG s1).toNat)]:=ho;rw[xB] at ho;subst ho;show _<(aK to s3.opens s3.nodes).length;rw[hl];exact hb
mutual
theorem jL(c:aJ):∀(x:Stmt)(s:LowS),s.over=false->nJ s (ku c x s)
 | .mk kind name other e body els _,s,ho=>by
  have h0:=et c e s;have hb:=fun s=>bq c body s;have hl:=fun s=>bq c els s;unfold ku;cases kind==1 with
  |true=>exact(h0.trans (gv c _ _ _)).toS
  |false=>
  cases kind==2 with
  |true=>exact(h0.trans (nG c _ _ _ _)).toS
  |false=>
  cases kind==3 with
  |true=>exact qF _ ho h0 rfl (hb _) (fun q=>d6 c body q) (hl _) (fun q=>d6 c els q)
  |false=>
  cases kind==4 with
  |true=>
   cases hv:(blockS c body (putS { nd00 with kind:=8,a:=(ag c e s).2 } (ag c e s).1)).over with
   |true=>exact h0.toS.trans ((putS_rel _ _).toS.trans (hb _))
   |false=>exact yd _ h0 rfl (hb _) hv _
  |false=>
  cases kind==5 with
  |true=>exact(putS_rel _ _).toS.trans ((hb _).trans (putS_rel _ _).toS)
  |false=>
  cases kind==6 with
  |true=>exact(h0.trans (putS_rel _ _)).toS
  |false=>exact .refl s
theorem bq(c:aJ):∀(l:List Stmt)(s:LowS),nJ s (blockS c l s)
 |[],s=>by unfold blockS;exact .refl s
 |x::r,s=>by
  unfold blockS;cases h:s.over with
  |true=>exact .refl s
  |false=>exact(jL c x s h).trans (bq c r _)
end
structure OkA(s:LowS):Prop where
 inn:wi s
 cap:s.nodes.length<=4096
 bnd:s.opens.length<=1+s.nodes.length+ov s.over
theorem Fi(b:Bool):ov b<=1:=by cases b<;>decide
theorem OkA.ok{s:LowS}(h:OkA s):OkS s:=⟨h.inn,by have:=h.cap;have:=h.bnd;have:=Fi s.over;omega⟩
theorem OkA.rel{s s':LowS}(h:OkA s)(k:nJ s s'):OkA s':=by refine⟨k.inn h.inn,k.cap h.cap,?_⟩;have:=h.bnd;have:=k.opens;have:=k.over;have:=k.nodes;omega
theorem OkA.relE{s s':LowS}(h:OkA s)(k:kK s s'):OkA s':=h.rel k.toS
mutual
def wfS:Stmt->Bool
 | .mk kind _ _ e body els _=>(decide (1<=kind)&&decide (kind<=7))&&(kind==5||kind==7||decide (1<=e.length))&&lA e&&r6 body&&r6 els
def r6:List Stmt->Bool
 |[]=>true
 |x::r=>wfS x&&r6 r
end
end Go.Proofs.YtapmdfcmpglieaaGreatDoor.am
set_option maxRecDepth 100000
set_option maxHeartbeats 4000000
namespace Go.Proofs.YtapmdfcmpglieaaGreatDoor.am
open Go Go.Proofs
def Bn(c:aJ)(l:List Stmt):Prop:=∀s,OkA s->K 41 [.ptr 0 0,.tr (ed l)] (stI c s) (.ret (.tup [])) (stO c (blockS c l s))
theorem mR(c:aJ)(e:Expr)(s:LowS)(hw:wfE e=true)(h:OkA s):K 146 [.ptr 0 0,e.av] (stI c s) (.ret (vA (b9 c e s).2)) (stO c (b9 c e s).1):=Ac c _ e s (Hh _) hw h.ok
theorem vN(c:aJ)(name:ByteArray)(v:Val)(s:LowS)(h:OkA s):K 145 [.ptr 0 0,.tr (ts name),vA v] (stI c s) (.ret (.tup [])) (stO c (gM c name v s)):=by
 have hloc:=k20 c.p (c.t:Nat) name;have hsh:=k16 c.p name;have hE:gM c name v s=bif decide (localI c.p c.t name>=0) then putS { nd00 with kind:=1,slot:=localI c.p c.t name,a:=v } s else putS { nd00 with kind:=3,thing:=findI c.p.shared name 0,a:=v } s:=rfl;generalize gM c name v s=R at hE |-
 generalize localI c.p (c.t:Nat) name=LI at hloc hE;generalize findI c.p.shared name 0=FI at hsh hE;refine Ctr.mv [2,4] [0,3,4] 5 hT hmix Tryz.func145 rfl (fun _ _=>JR) rfl (fun hok=>?_);clear hok;conv=>whnf
 refine bD.by (fun _:Unit=>⟨[(0,.ptr 0 0),(1,.tr (ts name)),(5,.ptr 5 0)],[(0,stB c (s) 3 4),(3,cr (s).nodes),(4,df (s).opens),(5,.cells 110 [.tr (tb v.s),.tr (ti v.k),.tr (ti v.w)])],20⟩) (fun _=>decide (LI>=0)=false) ?_ ?_
 ·refine bD.by (fun _:Unit=>⟨[(0,.ptr 0 0),(1,.tr (ts name)),(5,.ptr 5 0),(6,.tr (ti LI))],[(0,stB c (s) 3 4),(3,cr (s).nodes),(4,df (s).opens),(5,.cells 110 [.tr (tb v.s),.tr (ti v.k),.tr (ti v.w)])],20⟩) (fun _=>True) ?_ ?_
  ·conv=>whnf
   refine aa.pure _ (hloc) rfl rfl ?_;conv=>whnf
   refine drT ?_;conv=>whnf
   exact⟨(),[0,1,2,3,4,5],[],Sub.au,J0⟩
  rintro - - -
  conv=>whnf
  cases h3:decide (LI>=0) with
  |true=>
   rw[h3,r7] at hE;have hp:=d7 c { nd00 with kind:=1,slot:=LI,a:=v } s h.ok;rw[<-hE] at hp;clear hE;conv=>whnf
   refine aa.new [0,3,4] [] _ _ _ _ (hp) rfl rfl rfl rfl aut aut rfl rfl ?_;conv=>whnf
   intro _;conv=>whnf
   exact⟨[0,1,2,_,_],rfl,rfl,J0,⟨rfl,JZ,JZ,JZ,JZ,JZ,JZ,JZ,JY,JY,JZ,J0⟩,⟨rfl,rfl,rfl,rfl⟩,⟨rfl,rfl,rfl,rfl⟩,J0⟩
  |false=>
   conv=>whnf
   exact⟨(),[0,1,2,3,4,5],[],Sub.au,rfl⟩
 rintro-h3 -
 rw[h3,lh] at hE;have hp:=d7 c { nd00 with kind:=3,thing:=FI,a:=v } s h.ok;rw[<-hE] at hp;clear hE;conv=>whnf
 refine aa.pure _ (hsh) rfl rfl ?_;conv=>whnf
 refine aa.new [0,3,4] [] _ _ _ _ (hp) rfl rfl rfl rfl aut aut rfl rfl ?_;conv=>whnf
 refine drT ?_;conv=>whnf
 exact⟨[0,1,2,_,_],rfl,rfl,J0,⟨rfl,JZ,JZ,JZ,JZ,JZ,JZ,JZ,JY,JY,JZ,J0⟩,⟨rfl,rfl,rfl,rfl⟩,⟨rfl,rfl,rfl,rfl⟩,J0⟩
theorem ux(c:aJ)(kind:Int)(name other:ByteArray)(e:List Expr)(body els:List Stmt)(at_:Int)(s:LowS)(he:1<=e.length)(hw:lA e=true)(h:OkA s):K 97 [.ptr 0 0,(Stmt.mk kind name other e body els at_).av] (stI c s) (.ret (.tup [])) (stO c (gM c name (ag c e s).2 (ag c e s).1)):=by
 obtain⟨e0,er,rfl⟩:∃e0 er,e=e0::er:=by
  cases e with
  |nil=>exact absurd he JX
  |cons a r=>exact⟨a,r,rfl⟩
 have hw0:wfE e0=true:=by unfold lA at hw;rw[t4] at hw;exact hw.1
 have hk0:ag c (e0::er) s=b9 c e0 s:=by rw[ag]
 have hv:=mR c e0 s hw0 h;have hRel:=dJ c e0 s;rw[hk0];clear hk0;generalize b9 c e0 s=A at hv hRel |-
 have hA:=h.relE hRel;obtain⟨q1,q2,q3,q4,q5,q6⟩:=e0;have hg:=vN c name A.2 A.1 hA;generalize gM c name A.2 A.1=R at hg |-
 refine Ctr.mv [1] [0,3,4] 5 hT hmix Tryz.func97 rfl (fun _ _=>JR) rfl (fun hok=>?_);clear hok;conv=>whnf
 refine bD.by (fun _:Unit=>⟨[(0,.ptr 0 0),(3,.ptr 5 0)],[(0,stB c (s) 3 4),(3,cr (s).nodes),(4,df (s).opens),(5,.cells 196 ((Stmt.mk kind name other (Expr.mk q1 q2 q3 q4 q5 q6::er) body els at_).cells.map .tr))],20⟩) (fun _=>True) ?_ ?_
 ·conv=>whnf
  exact⟨(),[0,1,2,3,4,5],[],Sub.au,J0⟩
 rintro - - -
 conv=>whnf
 refine⟨rfl,Hd 0,(show(0:Int)<((Expr.rows (Expr.mk q1 q2 q3 q4 q5 q6::er)).length:Int) by rw[aL,E0];omega),fun row hrow=>?_⟩;obtain rfl:Expr.cells (.mk q1 q2 q3 q4 q5 q6)=row:=vx hrow;clear hrow;conv=>whnf
 refine aa.new [0,3,4] [] _ _ _ _ (hv) rfl rfl rfl rfl aut aut rfl rfl ?_;conv=>whnf
 refine aa.new [0,28,1048604] [] _ _ _ _ (hg) rfl rfl rfl rfl aut aut rfl rfl ?_;conv=>whnf
 refine drT ?_;conv=>whnf
 exact⟨[0,1,2,_,_],rfl,rfl,J0,⟨rfl,JZ,JZ,JZ,JZ,JZ,JZ,JZ,JY,JY,JZ,J0⟩,⟨rfl,rfl,rfl,rfl⟩,⟨rfl,rfl,rfl,rfl⟩,J0⟩
theorem x7(c:aJ)(kind:Int)(name other:ByteArray)(e:List Expr)(body els:List Stmt)(at_:Int)(s:LowS)(he:1<=e.length)(hw:lA e=true)(h:OkA s):K 102 [.ptr 0 0,(Stmt.mk kind name other e body els at_).av] (stI c s) (.ret (.tup [])) (stO c (putS { nd00 with kind:=7,a:=(ag c e s).2 } (ag c e s).1)):=by
 obtain⟨e0,er,rfl⟩:∃e0 er,e=e0::er:=by
  cases e with
  |nil=>exact absurd he JX
  |cons a r=>exact⟨a,r,rfl⟩
 have hw0:wfE e0=true:=by unfold lA at hw;rw[t4] at hw;exact hw.1
 have hk0:ag c (e0::er) s=b9 c e0 s:=by rw[ag]
 have hv:=mR c e0 s hw0 h;have hRel:=dJ c e0 s;rw[hk0];clear hk0;generalize b9 c e0 s=A at hv hRel |-
 have hA:=h.relE hRel;obtain⟨q1,q2,q3,q4,q5,q6⟩:=e0;have hg:=d7 c { nd00 with kind:=7,a:=A.2 } A.1 hA.ok;generalize putS { nd00 with kind:=7,a:=A.2 } A.1=R at hg |-
 refine Ctr.mv [1] [0,3,4] 5 hT hmix Tryz.func102 rfl (fun _ _=>JR) rfl (fun hok=>?_);clear hok;conv=>whnf
 refine bD.by (fun _:Unit=>⟨[(0,.ptr 0 0),(3,.ptr 5 0)],[(0,stB c (s) 3 4),(3,cr (s).nodes),(4,df (s).opens),(5,.cells 196 ((Stmt.mk kind name other (Expr.mk q1 q2 q3 q4 q5 q6::er) body els at_).cells.map .tr))],20⟩) (fun _=>True) ?_ ?_
 ·conv=>whnf
  exact⟨(),[0,1,2,3,4,5],[],Sub.au,J0⟩
 rintro - - -
 conv=>whnf
 refine⟨rfl,Hd 0,(show(0:Int)<((Expr.rows (Expr.mk q1 q2 q3 q4 q5 q6::er)).length:Int) by rw[aL,E0];omega),fun row hrow=>?_⟩;obtain rfl:Expr.cells (.mk q1 q2 q3 q4 q5 q6)=row:=vx hrow;clear hrow;conv=>whnf
 refine aa.new [0,3,4] [] _ _ _ _ (hv) rfl rfl rfl rfl aut aut rfl rfl ?_;conv=>whnf
 intro _;conv=>whnf
 refine aa.new [0,26,1048602] [] _ _ _ _ (hg) rfl rfl rfl rfl aut aut rfl rfl ?_;conv=>whnf
 intro _;conv=>whnf
 exact⟨[0,1,2,_,_],rfl,rfl,J0,⟨rfl,JZ,JZ,JZ,JZ,JZ,JZ,JZ,JY,JY,JZ,J0⟩,⟨rfl,rfl,rfl,rfl⟩,⟨rfl,rfl,rfl,rfl⟩,J0⟩
theorem BP(c:aJ)(kind:Int)(name other:ByteArray)(e:List Expr)(body els:List Stmt)(at_:Int)(s:LowS):K 103 [.ptr 0 0,(Stmt.mk kind name other e body els at_).av] (stI c s) (.ret (.tup [])) (stO c (s)):=by
 refine Ctr.mv [] [0,3,4] 5 hT hmix Tryz.func103 rfl (fun _ _=>JR) rfl (fun hok=>?_);clear hok;conv=>whnf
 exact⟨[0,1,2,3,4],rfl,rfl,J0,aut,aut,aut,J0⟩
theorem BT(c:aJ)(kind:Int)(name other:ByteArray)(e:List Expr)(body els:List Stmt)(at_:Int)(s:LowS)(h:OkA s)(hB:Bn c body):K 101 [.ptr 0 0,(Stmt.mk kind name other e body els at_).av] (stI c s) (.ret (.tup [])) (stO c (putS { nd00 with kind:=6,thing:=findI c.p.locks name 0 } (blockS c body (putS { nd00 with kind:=5,thing:=findI c.p.locks name 0 } s)))):=by
 have hlk:=k18 c.p name;generalize findI c.p.locks name 0=LI at hlk |-
 have hp:=d7 c { nd00 with kind:=5,thing:=LI } s h.ok;have h2:=h.relE (putS_rel { nd00 with kind:=5,thing:=LI } s);generalize putS { nd00 with kind:=5,thing:=LI } s=S2 at hp h2 |-
 have hb:=hB S2 h2;have h3:=h2.rel (bq c body S2);generalize blockS c body S2=S3 at hb h3 |-
 have hp2:=d7 c { nd00 with kind:=6,thing:=LI } S3 h3.ok;generalize putS { nd00 with kind:=6,thing:=LI } S3=R at hp2 |-
 refine Ctr.mv [2,3,4] [0,3,4] 5 hT hmix Tryz.func101 rfl (fun _ _=>JR) rfl (fun hok=>?_);clear hok;conv=>whnf
 refine bD.by (fun _:Unit=>⟨[(0,.ptr 0 0),(3,.ptr 5 0),(4,.tr (ti LI))],[(0,stB c (s) 3 4),(3,cr (s).nodes),(4,df (s).opens),(5,.cells 196 ((Stmt.mk kind name other e body els at_).cells.map .tr))],20⟩) (fun _=>True) ?_ ?_
 ·conv=>whnf
  refine aa.pure _ (hlk) rfl rfl ?_;conv=>whnf
  refine drT ?_;conv=>whnf
  exact⟨(),[0,1,2,3,4,5],[],Sub.au,J0⟩
 rintro - - -
 conv=>whnf
 refine bD.by (fun _:Unit=>⟨[(0,.ptr 0 0),(3,.ptr 5 0),(4,.tr (ti LI))],[(0,stB c (S2) 3 4),(3,cr (S2).nodes),(4,df (S2).opens),(5,.cells 196 ((Stmt.mk kind name other e body els at_).cells.map .tr))],20⟩) (fun _=>True) ?_ ?_
 ·conv=>whnf
  refine aa.new [0,3,4] [] _ _ _ _ (hp) rfl rfl rfl rfl aut aut rfl rfl ?_;conv=>whnf
  intro _;conv=>whnf
  exact⟨(),[0,1,2,_,_,5],[],Sub.aw,J0⟩
 rintro - - -
 conv=>whnf
 refine bD.by (fun _:Unit=>⟨[(0,.ptr 0 0),(4,.tr (ti LI))],[(0,stB c (S3) 3 4),(3,cr (S3).nodes),(4,df (S3).opens)],20⟩) (fun _=>True) ?_ ?_
 ·conv=>whnf
  refine aa.new [0,3,4] [] _ _ _ _ (hb) rfl rfl rfl rfl aut aut rfl rfl ?_;conv=>whnf
  intro _;conv=>whnf
  exact⟨(),[0,1,2,_,_],[],Sub.aw,J0⟩
 rintro - - -
 conv=>whnf
 refine aa.new [0,3,4] [] _ _ _ _ (hp2) rfl rfl rfl rfl aut aut rfl rfl ?_;conv=>whnf
 intro _;conv=>whnf
 exact⟨[0,1,2,_,_],rfl,rfl,J0,⟨rfl,JZ,JZ,JZ,JZ,JZ,JZ,JZ,JY,JY,JZ,J0⟩,⟨rfl,rfl,rfl,rfl⟩,⟨rfl,rfl,rfl,rfl⟩,J0⟩
theorem B7(c:aJ)(kind:Int)(name other:ByteArray)(e:List Expr)(body els:List Stmt)(at_:Int)(s:LowS)(he:1<=e.length)(hw:lA e=true)(h:OkA s)(ho:s.over=false)(hB:Bn c body)(hL:Bn c els):K 99 [.ptr 0 0,(Stmt.mk kind name other e body els at_).av] (stI c s) (.ret (.tup [])) (stO c (cT ((blockS c body (putS { nd00 with kind:=8,a:=(ag c e s).2 } (ag c e s).1)).opens++(blockS c els (cT [(true,(fG (ag c e s).1).toNat)] (blockS c body (putS { nd00 with kind:=8,a:=(ag c e s).2 } (ag c e s).1)))).opens) (blockS c els (cT [(true,(fG (ag c e s).1).toNat)] (blockS c body (putS { nd00 with kind:=8,a:=(ag c e s).2 } (ag c e s).1)))))):=by
 obtain⟨e0,er,rfl⟩:∃e0 er,e=e0::er:=by
  cases e with
  |nil=>exact absurd he JX
  |cons a r=>exact⟨a,r,rfl⟩
 have hw0:wfE e0=true:=by unfold lA at hw;rw[t4] at hw;exact hw.1
 have hk0:ag c (e0::er) s=b9 c e0 s:=by rw[ag]
 have hv:=mR c e0 s hw0 h;have hRel:=dJ c e0 s;rw[hk0];clear hk0;generalize b9 c e0 s=A at hv hRel |-
 have hA:=h.relE hRel;obtain⟨q1,q2,q3,q4,q5,q6⟩:=e0;have hp:=d7 c { nd00 with kind:=8,a:=A.2 } A.1 hA.ok;have hpr:=putS_rel { nd00 with kind:=8,a:=A.2 } A.1;have hcr:=fun s2 s3 s5 h2 h3 h3o h5 h5o=>qF (s:=s) (s1:=A.1) (s2:=s2) (s3:=s3) (s5:=s5) { nd00 with kind:=8,a:=A.2 } ho hRel h2 h3 h3o h5 h5o;have hpin:=fun s3 h3=>qi (s:=A.1) (s3:=s3) { nd00 with kind:=8,a:=A.2 } h3;have hPb:∃b:Nat,fG A.1=b/\(fG A.1).toNat=b:=by
  unfold fG;cases decide ((A.1.nodes.length:Int)>=4096) with
  |true=>exact⟨0,rfl,rfl⟩
  |false=>exact⟨_,rfl,GY _⟩
 obtain⟨b,hb1,hb2⟩:=hPb;rw[hb2] at hcr hpin |-
 rw[hb1] at hp;have hS2:∃S2,S2=putS { nd00 with kind:=8,a:=A.2 } A.1:=⟨_,rfl⟩;obtain⟨S2,hS2⟩:=hS2;rw[<-hS2] at hp hpr hpin |-
 have hcr:=fun s3 s5 h3 h3o h5 h5o=>hcr S2 s3 s5 hS2 h3 h3o h5 h5o;have h2:=hA.relE hpr;have hbk:=hB S2 h2;have hr3:=bq c body S2;have h3:=h2.rel hr3;have hcr:=fun s5 h5 h5o=>hcr (blockS c body S2) s5 hr3 (fun q=>d6 c body q) h5 h5o;have hpin:=hpin (blockS c body S2) hr3;clear hS2 hpr;generalize blockS c body S2=S3 at hbk h3 hcr hpin |-
 have h4:OkA (cT [(true,b)] S3):=⟨fun o ho=>by have ho:o∈[(true,b)]:=ho;rw[xB] at ho;subst ho;exact hpin,h3.cap,by show 1<=1+S3.nodes.length+ov S3.over;omega⟩
 have hlk:=hL (cT [(true,b)] S3) h4;have hr5:=bq c els (cT [(true,b)] S3);have h5:=h4.rel hr5;have hcr:=h.rel (hcr (blockS c els (cT [(true,b)] S3)) hr5 (fun q=>d6 c els q));generalize blockS c els (cT [(true,b)] S3)=S5 at hlk h5 hcr |-
 have hfew:(S3.opens.length+S5.opens.length)*8<=150000000000000:=by have:=hcr.ok.few;have this:(S3.opens++S5.opens).length<=1000000:=this;rw[uR] at this;omega
 clear hB hL hr3 hr5 h4 hcr;refine Ctr.mv [1,2,3,5,6] [0,3,4] 5 hT hmix Tryz.func99 rfl (fun _ _=>JR) rfl (fun hok=>?_);clear hok;conv=>whnf
 refine bD.by (fun _:Unit=>⟨[(0,.ptr 0 0),(3,.ptr 5 0)],[(0,stB c (s) 3 4),(3,cr (s).nodes),(4,df (s).opens),(5,.cells 196 ((Stmt.mk kind name other (Expr.mk q1 q2 q3 q4 q5 q6::er) body els at_).cells.map .tr))],20⟩) (fun _=>True) ?_ ?_
 ·conv=>whnf
  exact⟨(),[0,1,2,3,4,5],[],Sub.au,J0⟩
 rintro - - -
 conv=>whnf
 refine bD.by (fun _:Unit=>⟨[(0,.ptr 0 0),(3,.ptr 5 0),(4,.tr (ti (b:Nat)))],[(0,stB c (S2) 3 4),(3,cr (S2).nodes),(4,df (S2).opens),(5,.cells 196 ((Stmt.mk kind name other (Expr.mk q1 q2 q3 q4 q5 q6::er) body els at_).cells.map .tr))],20⟩) (fun _=>True) ?_ ?_
 ·conv=>whnf
  refine⟨rfl,Hd 0,(show(0:Int)<((Expr.rows (Expr.mk q1 q2 q3 q4 q5 q6::er)).length:Int) by rw[aL,E0];omega),fun row hrow=>?_⟩;obtain rfl:Expr.cells (.mk q1 q2 q3 q4 q5 q6)=row:=vx hrow;clear hrow;conv=>whnf
  refine aa.new [0,3,4] [] _ _ _ _ (hv) rfl rfl rfl rfl aut aut rfl rfl ?_;conv=>whnf
  intro _;conv=>whnf
  refine aa.new [0,26,1048602] [] _ _ _ _ (hp) rfl rfl rfl rfl aut aut rfl rfl ?_;conv=>whnf
  intro _;conv=>whnf
  exact⟨(),[0,1,2,_,_,5],[],Sub.aw,J0⟩
 rintro - - -
 conv=>whnf
 refine bD.by (fun _:Unit=>⟨[(0,.ptr 0 0),(3,.ptr 5 0),(4,.tr (ti (b:Nat)))],[(0,stB c (S3) 3 4),(3,cr (S3).nodes),(4,df (S3).opens),(5,.cells 196 ((Stmt.mk kind name other (Expr.mk q1 q2 q3 q4 q5 q6::er) body els at_).cells.map .tr))],20⟩) (fun _=>True) ?_ ?_
 ·conv=>whnf
  refine aa.new [0,3,4] [] _ _ _ _ (hbk) rfl rfl rfl rfl aut aut rfl rfl ?_;conv=>whnf
  intro _;conv=>whnf
  exact⟨(),[0,1,2,_,_,5],[],Sub.aw,J0⟩
 rintro - - -
 conv=>whnf
 refine bD.by (fun _:Unit=>⟨[(0,.ptr 0 0),(3,.ptr 5 0),(5,.sl 6 S3.opens.length)],[(0,stB c (cT [(true,b)] S3) 3 4),(3,cr (cT [(true,b)] S3).nodes),(4,df (cT [(true,b)] S3).opens),(5,.cells 196 ((Stmt.mk kind name other (Expr.mk q1 q2 q3 q4 q5 q6::er) body els at_).cells.map .tr)),(6,df S3.opens)],20⟩) (fun _=>True) ?_ ?_
 ·conv=>whnf
  refine aa.au [0,3,4] [] (ym c S3.slots S3.nodes.length S3.opens.length b S3.over S3.nodes S3.opens) ?_;intro _;conv=>whnf
  exact⟨(),[0,1,2,3,_,5,4],[],Sub.aw,J0⟩
 rintro - - -
 conv=>whnf
 refine bD.by (fun _:Unit=>⟨[(0,.ptr 0 0),(5,.sl 6 S3.opens.length)],[(0,stB c (S5) 3 4),(3,cr (S5).nodes),(4,df (S5).opens),(6,df S3.opens)],20⟩) (fun _=>True) ?_ ?_
 ·conv=>whnf
  refine aa.new [0,3,4] [] _ _ _ _ (hlk) rfl rfl rfl rfl aut aut rfl rfl ?_;conv=>whnf
  intro _;conv=>whnf
  exact⟨(),[0,1,2,_,_,5,6],[],Sub.aw,J0⟩
 rintro - - -
 conv=>whnf
 refine⟨(ad ..).symm,(ad ..).symm,hfew,?_⟩;conv=>whnf
 exact⟨[0,1,2,3,_],rfl,rfl,J0,⟨rfl,JZ,JZ,JZ,JZ,JZ,JZ,JZ,JY,⟨rfl,(uR ..).symm⟩,JZ,J0⟩,⟨rfl,rfl,rfl,rfl⟩,⟨rfl,rfl,rfl,(FP ..).symm⟩,J0⟩
end Go.Proofs.YtapmdfcmpglieaaGreatDoor.am
set_option maxRecDepth 100000
set_option maxHeartbeats 4000000
namespace Go.Proofs.YtapmdfcmpglieaaGreatDoor.am
open Go Go.Proofs
theorem Cb(c:aJ)(kind:Int)(name other:ByteArray)(e:List Expr)(body els:List Stmt)(at_:Int)(s:LowS)(he:1<=e.length)(hw:lA e=true)(h:OkA s)(hB:Bn c body):K 100 [.ptr 0 0,(Stmt.mk kind name other e body els at_).av] (stI c s) (.ret (.tup [])) (stO c (bif (blockS c body (putS { nd00 with kind:=8,a:=(ag c e s).2 } (ag c e s).1)).over then(blockS c body (putS { nd00 with kind:=8,a:=(ag c e s).2 } (ag c e s).1)) else{ (blockS c body (putS { nd00 with kind:=8,a:=(ag c e s).2 } (ag c e s).1)) with nodes:=aK s.nodes.length (blockS c body (putS { nd00 with kind:=8,a:=(ag c e s).2 } (ag c e s).1)).opens (blockS c body (putS { nd00 with kind:=8,a:=(ag c e s).2 } (ag c e s).1)).nodes,opens:=[(true,(fG (ag c e s).1).toNat)] })):=by
 obtain⟨e0,er,rfl⟩:∃e0 er,e=e0::er:=by
  cases e with
  |nil=>exact absurd he JX
  |cons a r=>exact⟨a,r,rfl⟩
 have hw0:wfE e0=true:=by unfold lA at hw;rw[t4] at hw;exact hw.1
 have hk0:ag c (e0::er) s=b9 c e0 s:=by rw[ag]
 have hv:=mR c e0 s hw0 h;have hRel:=dJ c e0 s;rw[hk0];clear hk0;generalize b9 c e0 s=A at hv hRel |-
 have hA:=h.relE hRel;obtain⟨q1,q2,q3,q4,q5,q6⟩:=e0;have hp:=d7 c { nd00 with kind:=8,a:=A.2 } A.1 hA.ok;have hpr:=putS_rel { nd00 with kind:=8,a:=A.2 } A.1;have hPb:∃b:Nat,fG A.1=b/\(fG A.1).toNat=b:=by
  unfold fG;cases decide ((A.1.nodes.length:Int)>=4096) with
  |true=>exact⟨0,rfl,rfl⟩
  |false=>exact⟨_,rfl,GY _⟩
 obtain⟨b,hb1,hb2⟩:=hPb;rw[hb2];rw[hb1] at hp;generalize putS { nd00 with kind:=8,a:=A.2 } A.1=S2 at hp hpr |-
 have h2:=hA.relE hpr;have hbk:=hB S2 h2;have h3:=h2.rel (bq c body S2);generalize blockS c body S2=S3 at hbk h3 |-
 have hLl:=bw s.nodes.length S3.opens S3.nodes;have hld:=uW c S3.slots S3.over s.nodes.length S3.nodes S3.opens h3.inn h3.ok.few;generalize aK s.nodes.length S3.opens S3.nodes=L3 at hLl hld |-
 clear hB;refine Ctr.mv [2,3,4,5,6] [0,3,4] 5 hT hmix Tryz.func100 rfl (fun _ _=>JR) rfl (fun hok=>?_);clear hok;conv=>whnf
 refine bD.by (fun _:Unit=>⟨[(0,.ptr 0 0),(3,.ptr 5 0),(4,.tr (ti (s.nodes.length:Nat)))],[(0,stB c (s) 3 4),(3,cr (s).nodes),(4,df (s).opens),(5,.cells 196 ((Stmt.mk kind name other (Expr.mk q1 q2 q3 q4 q5 q6::er) body els at_).cells.map .tr))],20⟩) (fun _=>True) ?_ ?_
 ·conv=>whnf
  exact⟨(),[0,1,2,3,4,5],[],Sub.au,J0⟩
 rintro - - -
 conv=>whnf
 refine bD.by (fun _:Unit=>⟨[(0,.ptr 0 0),(3,.ptr 5 0),(4,.tr (ti (s.nodes.length:Nat))),(5,.tr (ti (b:Nat)))],[(0,stB c (S2) 3 4),(3,cr (S2).nodes),(4,df (S2).opens),(5,.cells 196 ((Stmt.mk kind name other (Expr.mk q1 q2 q3 q4 q5 q6::er) body els at_).cells.map .tr))],20⟩) (fun _=>True) ?_ ?_
 ·conv=>whnf
  refine⟨rfl,Hd 0,(show(0:Int)<((Expr.rows (Expr.mk q1 q2 q3 q4 q5 q6::er)).length:Int) by rw[aL,E0];omega),fun row hrow=>?_⟩;obtain rfl:Expr.cells (.mk q1 q2 q3 q4 q5 q6)=row:=vx hrow;clear hrow;conv=>whnf
  refine aa.new [0,3,4] [] _ _ _ _ (hv) rfl rfl rfl rfl aut aut rfl rfl ?_;conv=>whnf
  intro _;conv=>whnf
  refine aa.new [0,26,1048602] [] _ _ _ _ (hp) rfl rfl rfl rfl aut aut rfl rfl ?_;conv=>whnf
  intro _;conv=>whnf
  exact⟨(),[0,1,2,_,_,5],[],Sub.aw,J0⟩
 rintro - - -
 conv=>whnf
 refine bD.by (fun _:Unit=>⟨[(0,.ptr 0 0),(4,.tr (ti (s.nodes.length:Nat))),(5,.tr (ti (b:Nat)))],[(0,stB c (S3) 3 4),(3,cr (S3).nodes),(4,df (S3).opens)],20⟩) (fun _=>True) ?_ ?_
 ·conv=>whnf
  refine aa.new [0,3,4] [] _ _ _ _ (hbk) rfl rfl rfl rfl aut aut rfl rfl ?_;conv=>whnf
  intro _;conv=>whnf
  exact⟨(),[0,1,2,_,_],[],Sub.aw,J0⟩
 rintro - - -
 obtain⟨sl3,n3,o3,v3⟩:=S3;simp only at hLl hld |-
 cases v3 with
 |true=>
  conv=>whnf
  refine bD.by (fun _:Unit=>⟨[(0,.ptr 0 0)],[(0,stB c ⟨sl3,n3,o3,true⟩ 3 4),(3,cr n3),(4,df o3)],20⟩) (fun _=>False) ?_ ?_
  ·conv=>whnf
   exact⟨[0,1,2,3,4],rfl,rfl,J0,aut,aut,aut,J0⟩
  rintro-hF;exact hF.elim
 |false=>
  conv=>whnf
  refine bD.by (fun _:Unit=>⟨[(0,.ptr 0 0),(4,.tr (ti (s.nodes.length:Nat))),(5,.tr (ti (b:Nat)))],[(0,stB c ⟨sl3,n3,o3,false⟩ 3 4),(3,cr n3),(4,df o3)],20⟩) (fun _=>True) ?_ ?_
  ·conv=>whnf
   exact⟨(),[0,1,2,3,4],[],Sub.au,J0⟩
  rintro - - -
  conv=>whnf
  refine bD.by (fun _:Unit=>⟨[(0,.ptr 0 0),(5,.tr (ti (b:Nat)))],[(0,lwN c sl3 n3.length false 3),(3,cr L3)],20⟩) (fun _=>True) ?_ ?_
  ·conv=>whnf
   refine aa.au [0,3,4] [] (hld) ?_;intro _;conv=>whnf
   exact⟨(),[0,1,2,3],[],Sub.au,J0⟩
  rintro - - -
  conv=>whnf
  refine aa.au [0,3] [] (xK c sl3 n3.length b false L3) ?_;intro _;conv=>whnf
  exact⟨[0,1,2,3,_],rfl,rfl,J0,⟨rfl,JZ,JZ,JZ,JZ,JZ,JZ,JZ,⟨rfl,hLl.symm⟩,JY,JZ,J0⟩,⟨rfl,rfl,rfl,rfl⟩,⟨rfl,rfl,rfl,rfl⟩,J0⟩
def F4(c:aJ):Prop:=∀(kind:Int)(name other:ByteArray)(e:List Expr)(body els:List Stmt)(at_:Int)(s:LowS),1<=e.length->lA e=true->OkA s->K 98 [.ptr 0 0,(Stmt.mk kind name other e body els at_).av] (stI c s) (.ret (.tup [])) (stO c (lp c name other (ag c e s).2 (ag c e s).1))
theorem xS(c:aJ){l:List Stmt}{i:Nat}{x:Stmt}{s:LowS}(h:l[i]?=some x):blockS c (l.drop i) s=bif s.over then s else blockS c (l.drop (i+1)) (ku c x s):=by rw[aG h,blockS]
theorem xr{l:List Stmt}{i:Nat}{x:Stmt}(h:l[i]?=some x):SizeOf.sizeOf x<SizeOf.sizeOf l:=IZ (i3 h)
theorem wx:∀ {l:List Stmt} {i:Nat} {x:Stmt},r6 l=true->l[i]?=some x->wfS x=true
 |[],i,x,_,h=>by simp at h
 |y::r,0,x,hw,h=>by unfold r6 at hw;rw[t4] at hw;simp at h;subst h;exact hw.1
 |y::r,i+1,x,hw,h=>by unfold r6 at hw;rw[t4] at hw;exact wx hw.2 (by simpa using h)
theorem zp(c:aJ)(hSw:F4 c):∀(n:Nat)(l:List Stmt),SizeOf.sizeOf l<n->r6 l=true->Bn c l:=by
 intro n;induction n with
 |zero=>intro l h;omega
 |succ n ih=>
 intro l hsz hwf s0 hS0;obtain⟨R,hR⟩:∃R,R=blockS c l s0:=⟨_,rfl⟩;rw[<-hR];refine Ctr.mv [5] [0,3,4] 5 hT hmix Tryz.func41 rfl (fun _ _=>JR) rfl (fun hok=>?_);have hll:=(hok.slot 1 rfl).tr.lst.2.1;rw[bz] at hll;clear hok;conv=>whnf
 refine aq.by (fun x:Nat×LowS=>⟨[(0,.ptr 0 0),(4,.ptr 5 0),(8,.tr (ed l)),(9,.tr (ti ((Stmt.rows l).length:Nat))),(10,.tr (ti (x.1:Nat)))],[(0,stB c (x.2) 3 4),(3,cr (x.2).nodes),(4,df (x.2).opens),(5,.cells 192 [.tr (.v .nilFunc),.fn 97 [],.fn 98 [],.fn 99 [],.fn 100 [],.fn 101 [],.fn 102 [],.fn 103 []])],20⟩)
  (fun x=>x.1<=l.length/\R=blockS c (l.drop x.1) x.2/\OkA x.2) (fun x=>l.length-x.1) (0,s0) [0,1,2,3,4,_] []
  (Sub.aw) ⟨x5 _,hR,hS0⟩ ?_
 clear hR hS0;rintro⟨i,s⟩ ⟨hi,hR,hS⟩ -
 simp only at hi hR hS;conv=>whnf
 refine ah (fun hit=>?_) (fun hit=>?_)
 ·replace hit:i<l.length:=by have:decide ((i:Int)<((Stmt.rows l).length:Int))=true:=hit;have:=of_decide_eq_true this;rw[bz] at this;omega
  obtain⟨x,hx⟩:∃x,l[i]?=some x:=⟨_,ab hit⟩;have hxs:=xr hx;have hxw:=wx hwf hx;rw[xS c hx] at hR;obtain⟨kind,name,other,e,body,els,at_⟩:=x;conv=>whnf
  refine⟨rfl,(JQ:(0:Int)<=i),(show(i:Int)<((Stmt.rows l).length:Int) by rw[bz];omega),fun row hrow=>?_⟩;obtain⟨d,hd,rfl⟩:=nU hrow;obtain rfl:=vx (hx.symm.trans hd);clear hrow hd;conv=>whnf
  obtain⟨T,hT⟩:∃T,T=s.over:=⟨_,rfl⟩;cases T with
  |true=>
   rw[<-hT] at hR
   replace hR:R=s:=hR
   subst hR;refine bD.by (fun _:Unit=>⟨[(0,.ptr 0 0)],[(0,stB c (R) 3 4),(3,cr (R).nodes),(4,df (R).opens)],20⟩) (fun _=>False) ?_ ?_
   ·conv=>whnf
    rw[<-hT];conv=>whnf
    exact⟨[0,1,2,3,4],rfl,rfl,J0,⟨rfl,JZ,JZ,JZ,JZ,JZ,JZ,JZ,JY,JY,.inl (by rw[<-hT]),J0⟩,aut,aut,J0⟩
   rintro-hF;exact hF.elim
  |false=>
  rw[<-hT,lh] at hR;have hov:s.over=false:=hT.symm;have hnx:=hS.rel (jL c (.mk kind name other e body els at_) s hov);refine bD.by (fun _:Unit=>⟨[(0,.ptr 0 0),(4,.ptr 5 0),(8,.tr (ed l)),(9,.tr (ti ((Stmt.rows l).length:Nat))),(10,.tr (ti (i:Nat))),(6,.ptr 6 0)],[(0,stB c (s) 3 4),(3,cr (s).nodes),(4,df (s).opens),(5,.cells 192 [.tr (.v .nilFunc),.fn 97 [],.fn 98 [],.fn 99 [],.fn 100 [],.fn 101 [],.fn 102 [],.fn 103 []]),(6,.cells 196 ((Stmt.mk kind name other e body els at_).cells.map .tr))],20⟩) (fun _=>True) ?_ ?_
  ·conv=>whnf
   rw[<-hT];conv=>whnf
   exact⟨(),[0,1,2,3,4,5,_],[],Sub.mk' rfl ⟨JY,JY,JZ,JZ,JZ,JY,J0⟩ ⟨⟨rfl,JZ,JZ,JZ,JZ,JZ,JZ,JZ,JY,JY,.inl (by rw[<-hT]),J0⟩,⟨rfl,rfl,rfl,rfl⟩,⟨rfl,rfl,rfl,rfl⟩,⟨rfl,JZ,⟨rfl,J0⟩,⟨rfl,J0⟩,⟨rfl,J0⟩,⟨rfl,J0⟩,⟨rfl,J0⟩,⟨rfl,J0⟩,⟨rfl,J0⟩,J0⟩,⟨rfl,JZ,JZ,JZ,JZ,JZ,JZ,JZ,J0⟩,J0⟩ rfl rfl,J0⟩
  rintro - - -
  unfold wfS at hxw;simp only[t4,GR] at hxw;obtain⟨⟨⟨⟨⟨w1,w2⟩,w3⟩,w4⟩,w5⟩,w6⟩:=hxw;simp only[Stmt.mk.sizeOf_spec] at hxs;have hBd:Bn c body:=ih body JQ w5;have hEl:Bn c els:=ih els JQ w6;have hk:K (bif kind==1 then 97 else bif kind==2 then 98 else bif kind==3 then 99 else bif kind==4 then 100 else bif kind==5 then 101 else bif kind==6 then 102 else 103)
    [.ptr 0 0,(Stmt.mk kind name other e body els at_).av] (stI c s) (.ret (.tup [])) (stO c (ku c (.mk kind name other e body els at_) s)):=by
   have hk7:kind=1\/kind=2\/kind=3\/kind=4\/kind=5\/kind=6\/kind=7:=JQ;rw[ku];rcases hk7 with rfl|rfl|rfl|rfl|rfl|rfl|rfl
   ·exact ux c 1 name other e body els at_ s (by simpa using w3) w4 hS
   ·exact hSw 2 name other e body els at_ s (by simpa using w3) w4 hS
   ·exact B7 c 3 name other e body els at_ s (by simpa using w3) w4 hS hov hBd hEl
   ·exact Cb c 4 name other e body els at_ s (by simpa using w3) w4 hS hBd
   ·exact BT c 5 name other e body els at_ s hS hBd
   ·exact x7 c 6 name other e body els at_ s (by simpa using w3) w4 hS
   ·exact BP c 7 name other e body els at_ s
  generalize ku c (.mk kind name other e body els at_) s=S2 at hk hR hnx;have fin:∀q:Nat,True:=fun _=>trivial;have hk7:kind=1\/kind=2\/kind=3\/kind=4\/kind=5\/kind=6\/kind=7:=JQ;clear w1 w2 w3 w4 w5 w6 hBd hEl fin;rcases hk7 with rfl|rfl|rfl|rfl|rfl|rfl|rfl
  all_goals
   conv=>whnf
   refine⟨JS,JS,?_⟩;conv=>whnf
   refine aa.new [0,3,4] [] _ _ _ _ (hk) rfl rfl rfl rfl aut aut rfl rfl ?_;conv=>whnf
   refine drT ?_;conv=>whnf
   exact⟨(i+1,S2),[0,1,2,_,_,5],[],Sub.mk' rfl ⟨JY,JY,JZ,JZ,.inl (ak hit hll),J0⟩ ⟨⟨rfl,JZ,JZ,JZ,JZ,JZ,JZ,JZ,JY,JY,JZ,J0⟩,⟨rfl,rfl,rfl,rfl⟩,⟨rfl,rfl,rfl,rfl⟩,⟨rfl,JZ,⟨rfl,J0⟩,⟨rfl,J0⟩,⟨rfl,J0⟩,⟨rfl,J0⟩,⟨rfl,J0⟩,⟨rfl,J0⟩,⟨rfl,J0⟩,J0⟩,J0⟩ rfl rfl,⟨hit,hR,hnx⟩,by show l.length-(i+1)<l.length-i;omega⟩
 replace hit:l.length<=i:=by have:decide ((i:Int)<((Stmt.rows l).length:Int))=false:=hit;have:=ud this;rw[bz] at this;omega
 rw[GK hit] at hR
 replace hR:R=s:=by rw[hR,blockS]
 subst hR;conv=>whnf
 refine exT ?_;conv=>whnf
 exact⟨[0,1,2,3,4],rfl,rfl,J0,aut,aut,aut,J0⟩
end Go.Proofs.YtapmdfcmpglieaaGreatDoor.am
set_option maxRecDepth 100000
set_option maxHeartbeats 4000000
namespace Go.Proofs.YtapmdfcmpglieaaGreatDoor.am
open Go Go.Proofs
theorem Ct(c:aJ):F4 c:=by
 intro kind name other e body els at_ s he hw h;obtain⟨e0,er,rfl⟩:∃e0 er,e=e0::er:=by
  cases e with
  |nil=>exact absurd he JX
  |cons a r=>exact⟨a,r,rfl⟩
 have hw0:wfE e0=true:=by unfold lA at hw;rw[t4] at hw;exact hw.1
 have hk0:ag c (e0::er) s=b9 c e0 s:=by rw[ag]
 have hv:=mR c e0 s hw0 h;have hRel:=dJ c e0 s;rw[hk0];clear hk0;generalize b9 c e0 s=A at hv hRel |-
 have hA:=h.relE hRel;obtain⟨q1,q2,q3,q4,q5,q6⟩:=e0;have hloc:=k20 c.p (c.t:Nat) name;have hsh:=k16 c.p other;have hE:lp c name other A.2 A.1=bif decide (localI c.p c.t name>=0) then putS { nd00 with kind:=4,a:=A.2,thing:=findI c.p.shared other 0,slot:=localI c.p c.t name } A.1
  else gM c name (inV (br A.1)) (putS { nd00 with kind:=4,a:=A.2,thing:=findI c.p.shared other 0,slot:=br A.1 } (bM A.1)):=rfl
 generalize lp c name other A.2 A.1=R at hE |-
 generalize localI c.p (c.t:Nat) name=LI at hloc hE;generalize findI c.p.shared other 0=FI at hsh hE;refine Ctr.mv [1,2000001,2,3,6,7,8] [0,3,4] 5 hT hmix Tryz.func98 rfl (fun _ _=>JR) rfl (fun hok=>?_);clear hok;conv=>whnf
 refine bD.by (fun _:Unit=>⟨[(0,.ptr 0 0),(3,.ptr 5 0)],[(0,stB c (s) 3 4),(3,cr (s).nodes),(4,df (s).opens),(5,.cells 196 ((Stmt.mk kind name other (Expr.mk q1 q2 q3 q4 q5 q6::er) body els at_).cells.map .tr))],20⟩) (fun _=>True) ?_ ?_
 ·conv=>whnf
  exact⟨(),[0,1,2,3,4,5],[],Sub.au,J0⟩
 rintro - - -
 conv=>whnf
 refine bD.by (fun _:Unit=>⟨[(0,.ptr 0 0),(3,.ptr 5 0),(4,.ptr 6 0)],[(0,stB c (A.1) 3 4),(3,cr (A.1).nodes),(4,df (A.1).opens),(5,.cells 196 ((Stmt.mk kind name other (Expr.mk q1 q2 q3 q4 q5 q6::er) body els at_).cells.map .tr)),(6,.cells 112 (({ nd00 with kind:=4,a:=A.2,thing:=FI }:Nd).cells.map .tr))],20⟩) (fun _=>True) ?_ ?_
 ·conv=>whnf
  refine np (h:=0) (t:=146) (cs:=[.tr (ae c.p.shared),.tr (ae c.p.locks),.tr (aA c.p.threads)]) hT hmix JS ⟨_,rfl,rfl⟩ ?_;conv=>whnf
  (repeat (refine⟨trivial,?_⟩;conv=>whnf))
  refine⟨rfl,Hd 0,(show(0:Int)<((Expr.rows (Expr.mk q1 q2 q3 q4 q5 q6::er)).length:Int) by rw[aL,E0];omega),fun row hrow=>?_⟩;obtain rfl:Expr.cells (.mk q1 q2 q3 q4 q5 q6)=row:=vx hrow;clear hrow;conv=>whnf
  (repeat (refine⟨trivial,?_⟩;conv=>whnf))
  refine aa.new [0,3,4] [] _ _ _ _ (hv) rfl rfl rfl rfl aut aut rfl rfl ?_;conv=>whnf
  refine⟨JY,?_⟩;conv=>whnf
  (repeat (refine⟨trivial,?_⟩;conv=>whnf))
  refine aa.pure _ (hsh) rfl rfl ?_;conv=>whnf
  (repeat (refine⟨trivial,?_⟩;conv=>whnf))
  refine⟨JR,?_⟩;conv=>whnf
  intro _;conv=>whnf
  exact⟨(),[0,1,2,_,_,5,_],[],Sub.aw,J0⟩
 rintro - - -
 conv=>whnf
 refine bD.by (fun _:Unit=>⟨[(0,.ptr 0 0),(3,.ptr 5 0),(4,.ptr 6 0),(5,.tr (ti LI))],[(0,stB c (A.1) 3 4),(3,cr (A.1).nodes),(4,df (A.1).opens),(5,.cells 196 ((Stmt.mk kind name other (Expr.mk q1 q2 q3 q4 q5 q6::er) body els at_).cells.map .tr)),(6,.cells 112 (({ nd00 with kind:=4,a:=A.2,thing:=FI }:Nd).cells.map .tr))],20⟩) (fun _=>True) ?_ ?_
 ·conv=>whnf
  refine aa.pure _ (hloc) rfl rfl ?_;conv=>whnf
  refine drT ?_;conv=>whnf
  exact⟨(),[0,1,2,3,4,5,6],[],Sub.au,J0⟩
 rintro - - -
 conv=>whnf
 refine bD.by (fun _:Unit=>⟨[(0,.ptr 0 0),(3,.ptr 5 0),(4,.ptr 6 0)],[(0,stB c (A.1) 3 4),(3,cr (A.1).nodes),(4,df (A.1).opens),(5,.cells 196 ((Stmt.mk kind name other (Expr.mk q1 q2 q3 q4 q5 q6::er) body els at_).cells.map .tr)),(6,.cells 112 (({ nd00 with kind:=4,a:=A.2,thing:=FI }:Nd).cells.map .tr))],20⟩) (fun _=>decide (LI>=0)=false) ?_ ?_
 ·conv=>whnf
  cases h3:decide (LI>=0) with
  |true=>
   rw[h3,r7] at hE;have hp:=d7 c { nd00 with kind:=4,a:=A.2,thing:=FI,slot:=LI } A.1 hA.ok;rw[<-hE] at hp;clear hE;conv=>whnf
   refine aa.new [0,3,4] [] _ _ _ _ (hp) rfl rfl rfl rfl aut aut rfl rfl ?_;conv=>whnf
   intro _;conv=>whnf
   exact⟨[0,1,2,_,_],rfl,rfl,J0,⟨rfl,JZ,JZ,JZ,JZ,JZ,JZ,JZ,JY,JY,JZ,J0⟩,⟨rfl,rfl,rfl,rfl⟩,⟨rfl,rfl,rfl,rfl⟩,J0⟩
  |false=>
   conv=>whnf
   exact⟨(),[0,1,2,3,4,5,6],[],Sub.au,rfl⟩
 rintro-h3 -
 rw[h3,lh] at hE;have hp:=d7 c { nd00 with kind:=4,a:=A.2,thing:=FI,slot:=br A.1 } (bM A.1) (fh hA.ok);have hA2:=hA.relE ((dx A.1).trans (putS_rel { nd00 with kind:=4,a:=A.2,thing:=FI,slot:=br A.1 } (bM A.1)));generalize putS { nd00 with kind:=4,a:=A.2,thing:=FI,slot:=br A.1 } (bM A.1)=S2 at hE hp hA2;have hg:=vN c name (inV (br A.1)) S2 hA2;rw[<-hE] at hg;clear hE;conv=>whnf
 refine bD.by (fun _:Unit=>⟨[(0,.ptr 0 0),(3,.ptr 5 0),(4,.ptr 6 0)],[(0,stB c (bM A.1) 3 4),(3,cr (bM A.1).nodes),(4,df (bM A.1).opens),(5,.cells 196 ((Stmt.mk kind name other (Expr.mk q1 q2 q3 q4 q5 q6::er) body els at_).cells.map .tr)),(6,.cells 112 (({ nd00 with kind:=4,a:=A.2,thing:=FI,slot:=br A.1 }:Nd).cells.map .tr))],20⟩) (fun _=>True) ?_ ?_
 ·conv=>whnf
  refine aa.au [0,3,4] [] (oO c A.1) ?_;intro _;conv=>whnf
  exact⟨(),[0,1,2,3,4,5,6],[],Sub.au,J0⟩
 rintro - - -
 conv=>whnf
 refine bD.by (fun _:Unit=>⟨[(0,.ptr 0 0),(3,.ptr 5 0),(4,.ptr 6 0)],[(0,stB c (S2) 3 4),(3,cr (S2).nodes),(4,df (S2).opens),(5,.cells 196 ((Stmt.mk kind name other (Expr.mk q1 q2 q3 q4 q5 q6::er) body els at_).cells.map .tr)),(6,.cells 112 (({ nd00 with kind:=4,a:=A.2,thing:=FI,slot:=br A.1 }:Nd).cells.map .tr))],20⟩) (fun _=>True) ?_ ?_
 ·conv=>whnf
  refine aa.new [0,3,4] [] _ _ _ _ (hp) rfl rfl rfl rfl aut aut rfl rfl ?_;conv=>whnf
  intro _;conv=>whnf
  exact⟨(),[0,1,2,_,_,5,6],[],Sub.aw,J0⟩
 rintro - - -
 conv=>whnf
 refine aa.pure _ (Ar (br A.1)) rfl rfl ?_;conv=>whnf
 refine aa.new [0,3,4] [] _ _ _ _ (hg) rfl rfl rfl rfl aut aut rfl rfl ?_;conv=>whnf
 refine drT ?_;conv=>whnf
 exact⟨[0,1,2,_,_],rfl,rfl,J0,⟨rfl,JZ,JZ,JZ,JZ,JZ,JZ,JZ,JY,JY,JZ,J0⟩,⟨rfl,rfl,rfl,rfl⟩,⟨rfl,rfl,rfl,rfl⟩,J0⟩
theorem ET(c:aJ)(l:List Stmt)(hw:r6 l=true):Bn c l:=zp c (Ct c) _ l (Hh _) hw
end Go.Proofs.YtapmdfcmpglieaaGreatDoor.am
set_option maxRecDepth 100000
set_option maxHeartbeats 4000000
namespace Go.Proofs.YtapmdfcmpglieaaGreatDoor.am
open Go Go.Proofs
def thrC(p:Prg)(t:Nat)(th:Thread):aJ:=⟨p,t,th.name,((th.locals.map Decl.cells).length:Nat)⟩
def low0(th:Thread):LowS:=⟨((th.locals.map Decl.cells).length:Nat),[],[],false⟩
def endS(s:LowS):LowS:=bif s.over then s else putS { nd00 with kind:=9 } s
def cQ(l:List Nd):List Nd:=match l[l.length-1]? with
 |some n=>l.set (l.length-1) { n with next:=0 }
 |none=>l
def grS(c:aJ)(s:LowS):Gr:=⟨c.name,c.loc,s.slots,cQ s.nodes⟩
def lowTs(p:Prg):Nat->List Thread->Option (List Gr)
 |_,[]=>some []
 |i,th::r=>bif (endS (blockS (thrC p i th) th.body (low0 th))).over then none else match lowTs p (i+1) r with
  |some l=>some (grS (thrC p i th) (endS (blockS (thrC p i th) th.body (low0 th)))::l)
  |none=>none
def FX(p:Prg):Option (List Gr)->Un×Int
 |none=>(⟨[],[],[]⟩,3)
 |some l=>(⟨p.shared,p.locks,l⟩,0)
def lowerU(p:Prg):Un×Int:=bif (checkW p).1 != 0 then(⟨[],[],[]⟩,(checkW p).1) else FX p (lowTs p 0 p.threads)
def zR(gs:List Gr):Option (List Gr)->Option (List Gr)
 |none=>none
 |some l=>some (gs++l)
theorem ur(th:Thread):OkA (low0 th):=⟨fun o h=>(by cases h),x5 _,x5 _⟩
theorem rq(s:LowS):kK s (endS s):=by
 unfold endS;cases s.over with
 |true=>exact .refl s
 |false=>exact putS_rel _ _
theorem yK{s:LowS}(h:(endS s).over=false):1<=(endS s).nodes.length:=by
 unfold endS at h |-
 cases ho:s.over with
 |true=>rw[ho,r7,ho] at h;cases h
 |false=>
  rw[ho,lh] at h;rw[lh];cases hb:decide ((s.nodes.length:Int)>=4096) with
  |true=>rw[gy _ hb] at h;cases h
  |false=>rw[dS _ hb];omega
theorem CZ{l:List Thread}{i:Nat}{row:List Tr}(h:(l.map Thread.cells)[i]?=some row):∃d,l[i]?=some d/\row=d.cells:=by rw[z5,z9] at h;obtain⟨d,h1,rfl⟩:=h;exact⟨d,h1,rfl⟩
abbrev Eo(h:Nat)(l:List (Bool×Nat)):Blk:=.fns 187 8 h (l.map cloD)
abbrev lwT(c:aJ)(s:LowS)(l:List Nd)(ho:Nat):Blk:=.cells 146 [.tr (ae c.p.shared),.tr (ae c.p.locks),.tr (aA c.p.threads),.tr (ti (c.t:Nat)),.tr (ts c.name),.tr (ti c.loc),.tr (ti s.slots),.tr (aO l),.sl ho s.opens.length,.tr (tb s.over)]
theorem y7(p:Prg)(hw:(checkW p).1=0->∀th∈p.threads,r6 th.body=true):K 16 [p.av] [] (.ret (.tup [(lowerU p).1.av,.tr (ti (lowerU p).2)])) []:=by
 have hch:=k10 p;have hU:lowerU p=bif (checkW p).1 != 0 then(⟨[],[],[]⟩,(checkW p).1) else FX p (lowTs p 0 p.threads):=rfl;generalize lowerU p=R at hU |-
 generalize checkW p=C0 at hch hU hw;obtain⟨why,fa,fr⟩:=C0;simp only at hU hw;refine Ctr.cut [4,5,9,10,12,14,15] hT hmix Tryz.func16 rfl (fun _ _=>JR) rfl fun hok=>?_;obtain⟨hb1,_,_⟩:=((hok.slot 0 rfl).agg _ (.head _)).tr.lst;obtain⟨hb2,_,_⟩:=((hok.slot 0 rfl).agg _ (.tail _ (.head _))).tr.lst;obtain⟨hb3,hl3,hrw⟩:=((hok.slot 0 rfl).agg _ (.tail _ (.tail _ (.head _)))).tr.lst;rw[ad] at hl3;have hlt:(p.threads.map Thread.cells).length=p.threads.length:=ad ..;clear hok hrw;conv=>whnf
 refine bD.by (fun _:Unit=>⟨[(1,.ptr 0 0),(2,.ptr 1 0)],[(0,.cells 63 [.tr (ae p.shared),.tr (ae p.locks),.tr (aA p.threads)]),(1,.cells 26 [iG,iG,iG])],20⟩) (fun _=>(why != 0)=false) ?_ ?_
 ·conv=>whnf
  refine aa.pure _ (hch) rfl rfl fun _=>?_;conv=>whnf
  cases h1:(why != 0) with
  |true=>
   rw[h1,r7] at hU;subst hU;conv=>whnf
   exact⟨⟨⟨.inr ⟨rfl,_,_,rfl⟩,.inr ⟨rfl,_,_,rfl⟩,.inr ⟨rfl,_,_,rfl⟩,J0⟩,JZ,J0⟩,J0⟩
  |false=>
   conv=>whnf
   exact⟨(),[_,_],[],Sub.aw,rfl⟩
 rintro-h1 -
 rw[h1,lh] at hU
 replace hw:=hw (by rw[bne_eq_false_iff_eq] at h1;exact h1)
 clear hch;obtain⟨Q,hQ⟩:∃Q,Q=lowTs p 0 p.threads:=⟨_,rfl⟩;rw[<-hQ] at hU;conv=>whnf
 refine bD.by (fun _:Unit=>⟨[(1,.ptr 0 0),(2,.ptr 1 0),(6,.ptr 2 0)],[(0,.cells 63 [.tr (ae p.shared),.tr (ae p.locks),.tr (aA p.threads)]),(1,.cells 26 [iG,iG,iG]),(2,.cells 26 [.tr (ae p.shared),.tr (ae p.locks),.sl 3 (([]:List Gr)).length]),(3,.vec 41 4 56 ((([]:List Gr)).map Gr.cells))],20⟩) (fun _=>True) ?_ ?_
 ·conv=>whnf
  refine⟨hb1,?_⟩;conv=>whnf
  refine⟨hb2,?_⟩;conv=>whnf
  refine drT ?_;conv=>whnf
  exact⟨(),[_,_,_],[3],Sub.mk' rfl ⟨JY,JY,JY,J0⟩ ⟨⟨rfl,JZ,JZ,JZ,J0⟩,⟨rfl,JZ,JZ,JZ,J0⟩,⟨rfl,⟨rfl,t9 _,(by show Tr.lst 3 32 _=Tr.lst 3 32 (List.take _ _);rw[Hi])⟩,⟨rfl,t9 _,(by show Tr.lst 3 32 _=Tr.lst 3 32 (List.take _ _);rw[Hi])⟩,⟨rfl,rfl,rfl,rfl⟩,J0⟩,⟨rfl,_,_,_,rfl,JS⟩,J0⟩ rfl rfl,J0⟩
 rintro - - -
 conv=>whnf
 refine aq.by (fun x:Nat×List Gr=>⟨[(1,.ptr 0 0),(2,.ptr 1 0),(6,.ptr 2 0),(27,.tr (aA p.threads)),(28,.tr (ti ((p.threads.map Thread.cells).length:Nat))),(29,.tr (ti (x.1:Nat)))],[(0,.cells 63 [.tr (ae p.shared),.tr (ae p.locks),.tr (aA p.threads)]),(1,.cells 26 [iG,iG,iG]),(2,.cells 26 [.tr (ae p.shared),.tr (ae p.locks),.sl 3 (x.2).length]),(3,.vec 41 4 56 ((x.2).map Gr.cells))],20⟩)
  (fun x=>x.1<=p.threads.length/\Q=zR x.2 (lowTs p x.1 (p.threads.drop x.1))/\x.2.length=x.1) (fun x=>p.threads.length-x.1) (0,[]) [0,1,2,3] []
  (Sub.au) ⟨x5 _,by rw[hQ];show lowTs p 0 p.threads=zR [] (lowTs p 0 p.threads);cases lowTs p 0 p.threads<;>rfl,rfl⟩ ?_
 clear hQ;rintro⟨i,gs⟩ ⟨hi,hQ,hgs⟩ -
 simp only at hi hQ hgs;conv=>whnf
 refine ah (fun hit=>?_) (fun hit=>?_)
 ·replace hit:i<p.threads.length:=by have:decide ((i:Int)<((p.threads.map Thread.cells).length:Int))=true:=hit;have:=of_decide_eq_true this;omega
  obtain⟨th,hth⟩:∃th,p.threads[i]?=some th:=⟨_,ab hit⟩;have hwt:=hw th (i3 hth);rw[aG hth] at hQ;obtain⟨C,hC⟩:∃C,C=thrC p i th:=⟨_,rfl⟩;have hQ2:Q=zR gs (bif (endS (blockS C th.body (low0 th))).over then none else match lowTs p (i+1) (p.threads.drop (i+1)) with
   |some l=>some (grS C (endS (blockS C th.body (low0 th)))::l)
   |none=>none):=by rw[hQ,hC];rfl
  clear hQ;have hblk:=ET C th.body hwt (low0 th) (ur th);have h1:=(ur th).rel (bq C th.body (low0 th));have hCp:C.p=p:=by rw[hC];rfl
  have hCt:C.t=i:=by rw[hC];rfl
  have hCn:C.name=th.name:=by rw[hC];rfl
  have hCl:C.loc=((th.locals.map Decl.cells).length:Nat):=by rw[hC];rfl
  conv=>whnf
  refine⟨rfl,(JQ:(0:Int)<=i),(JQ:(i:Int)<((p.threads.map Thread.cells).length:Int)),fun row hrow=>?_⟩;obtain⟨d,hd,rfl⟩:=CZ hrow;obtain rfl:=vx (hth.symm.trans hd);clear hrow hd;conv=>whnf
  refine bD.by (fun _:Unit=>⟨[(1,.ptr 0 0),(2,.ptr 1 0),(6,.ptr 2 0),(27,.tr (aA p.threads)),(28,.tr (ti ((p.threads.map Thread.cells).length:Nat))),(29,.tr (ti (i:Nat))),(8,.ptr 4 0),(9,.ptr 5 0)],[(0,.cells 63 [.tr (ae p.shared),.tr (ae p.locks),.tr (aA p.threads)]),(1,.cells 26 [iG,iG,iG]),(2,.cells 26 [.tr (ae p.shared),.tr (ae p.locks),.sl 3 (gs).length]),(3,.vec 41 4 56 ((gs).map Gr.cells)),(4,.cells 142 (th.cells.map .tr)),(5,stB C (low0 th) 6 7),(6,cr (low0 th).nodes),(7,Eo 5 (low0 th).opens)],20⟩) (fun _=>True) ?_ ?_
  ·conv=>whnf
   subst hC;exact⟨(),[0,1,2,3,_,_],[6,7],Sub.mk' rfl ⟨JY,JY,JY,JZ,JZ,JZ,JY,JY,J0⟩ ⟨⟨rfl,JZ,JZ,JZ,J0⟩,⟨rfl,JZ,JZ,JZ,J0⟩,⟨rfl,JZ,JZ,JY,J0⟩,⟨rfl,rfl,rfl,rfl⟩,⟨rfl,JZ,JZ,JZ,JZ,J0⟩,⟨rfl,JZ,JZ,JZ,JZ,JZ,JZ,JZ,⟨rfl,rfl,rfl,rfl⟩,⟨rfl,rfl,rfl,rfl⟩,JZ,J0⟩,⟨rfl,_,_,_,rfl,JS⟩,JY,J0⟩ rfl rfl,J0⟩
  rintro - - -
  generalize blockS C th.body (low0 th)=S1 at hblk h1 hQ2;conv=>whnf
  refine bD.by (fun _:Unit=>⟨[(1,.ptr 0 0),(2,.ptr 1 0),(6,.ptr 2 0),(27,.tr (aA p.threads)),(28,.tr (ti ((p.threads.map Thread.cells).length:Nat))),(29,.tr (ti (i:Nat))),(9,.ptr 5 0)],[(0,.cells 63 [.tr (ae p.shared),.tr (ae p.locks),.tr (aA p.threads)]),(1,.cells 26 [iG,iG,iG]),(2,.cells 26 [.tr (ae p.shared),.tr (ae p.locks),.sl 3 (gs).length]),(3,.vec 41 4 56 ((gs).map Gr.cells)),(5,stB C (S1) 6 7),(6,cr (S1).nodes),(7,Eo 5 (S1).opens)],20⟩) (fun _=>True) ?_ ?_
  ·conv=>whnf
   refine aa.new [5,6,7] [] _ _ _ _ (hblk) rfl rfl rfl rfl aut aut rfl rfl ?_;conv=>whnf
   intro _;conv=>whnf
   exact⟨(),[0,1,2,3,4,5,_,_],[],Sub.aw,J0⟩
  rintro - - -
  have hp2:=d7 C { nd00 with kind:=9 } S1 h1.ok;have h2:=h1.relE (rq S1);have hpos:=yK (s:=S1);have hE:endS S1=bif S1.over then S1 else putS { nd00 with kind:=9 } S1:=rfl;generalize putS { nd00 with kind:=9 } S1=S2a at hp2 hE;generalize endS S1=S2 at h2 hpos hE hQ2;conv=>whnf
  refine bD.by (fun _:Unit=>⟨[(1,.ptr 0 0),(2,.ptr 1 0),(6,.ptr 2 0),(27,.tr (aA p.threads)),(28,.tr (ti ((p.threads.map Thread.cells).length:Nat))),(29,.tr (ti (i:Nat))),(9,.ptr 5 0)],[(0,.cells 63 [.tr (ae p.shared),.tr (ae p.locks),.tr (aA p.threads)]),(1,.cells 26 [iG,iG,iG]),(2,.cells 26 [.tr (ae p.shared),.tr (ae p.locks),.sl 3 (gs).length]),(3,.vec 41 4 56 ((gs).map Gr.cells)),(5,stB C (S2) 6 7),(6,cr (S2).nodes),(7,Eo 5 (S2).opens)],20⟩) (fun _=>True) ?_ ?_
  ·conv=>whnf
   obtain⟨sl1,n1,o1,v1⟩:=S1;cases v1 with
   |true=>
    replace hE:S2=⟨sl1,n1,o1,true⟩:=hE
    subst hE;conv=>whnf
    exact⟨(),[0,1,2,3,4,5,6,7],[],Sub.au,J0⟩
   |false=>
    replace hE:S2=S2a:=hE
    subst hE;conv=>whnf
    refine aa.new [5,6,7] [] _ _ _ _ (hp2) rfl rfl rfl rfl aut aut rfl rfl ?_;conv=>whnf
    intro _;conv=>whnf
    exact⟨(),[0,1,2,3,4,5,_,_],[],Sub.aw,J0⟩
  rintro - - -
  clear hE hp2 h1 hblk;obtain⟨sl2,n2,o2,v2⟩:=S2;simp only at hpos hQ2;cases v2 with
  |true=>
   replace hQ2:Q=none:=hQ2
   replace hU:R=(⟨[],[],[]⟩,3):=by rw[hU,hQ2];rfl
   subst hU;conv=>whnf
   refine bD.by (fun _:Unit=>⟨[(1,.ptr 0 0)],[(0,.cells 63 [.tr (ae p.shared),.tr (ae p.locks),.tr (aA p.threads)])],20⟩) (fun _=>False) ?_ ?_
   ·conv=>whnf
    exact⟨⟨⟨.inr ⟨rfl,_,_,rfl⟩,.inr ⟨rfl,_,_,rfl⟩,.inr ⟨rfl,_,_,rfl⟩,J0⟩,JZ,J0⟩,J0⟩
   rintro-hF;exact hF.elim
  |false=>
  have hpos:=hpos rfl;have hcap:=h2.cap;simp only at hcap;conv=>whnf
  refine bD.by (fun _:Unit=>⟨[(1,.ptr 0 0),(2,.ptr 1 0),(6,.ptr 2 0),(27,.tr (aA p.threads)),(28,.tr (ti ((p.threads.map Thread.cells).length:Nat))),(29,.tr (ti (i:Nat))),(9,.ptr 5 0)],[(0,.cells 63 [.tr (ae p.shared),.tr (ae p.locks),.tr (aA p.threads)]),(1,.cells 26 [iG,iG,iG]),(2,.cells 26 [.tr (ae p.shared),.tr (ae p.locks),.sl 3 (gs).length]),(3,.vec 41 4 56 ((gs).map Gr.cells)),(5,stB C ((⟨sl2,n2,o2,false⟩:LowS)) 6 7),(6,cr ((⟨sl2,n2,o2,false⟩:LowS)).nodes),(7,Eo 5 ((⟨sl2,n2,o2,false⟩:LowS)).opens)],20⟩) (fun _=>True) ?_ ?_
  ·conv=>whnf
   exact⟨(),[0,1,2,3,4,5,6,7],[],Sub.au,J0⟩
  rintro - - -
  have hz:IntKind.i64.wrap ((n2.length:Int)-1)=((n2.length-1:Nat):Int):=by rw[w64 JQ JQ];omega
  obtain⟨nl,hnl⟩:∃nl,n2[n2.length-1]?=some nl:=⟨_,ab JQ⟩;have hzl:cQ n2=n2.set (n2.length-1) { nl with next:=0 }:=by unfold cQ;rw[hnl]
  conv=>whnf
  refine bD.by (fun _:Unit=>⟨[(1,.ptr 0 0),(2,.ptr 1 0),(6,.ptr 2 0),(27,.tr (aA p.threads)),(28,.tr (ti ((p.threads.map Thread.cells).length:Nat))),(29,.tr (ti (i:Nat))),(9,.ptr 5 0)],[(0,.cells 63 [.tr (ae p.shared),.tr (ae p.locks),.tr (aA p.threads)]),(1,.cells 26 [iG,iG,iG]),(2,.cells 26 [.tr (ae p.shared),.tr (ae p.locks),.sl 3 (gs).length]),(3,.vec 41 4 56 ((gs).map Gr.cells)),(5,lwT C ⟨sl2,n2,o2,false⟩ (cQ n2) 7),(7,Eo 5 o2)],20⟩) (fun _=>True) ?_ ?_
  ·conv=>whnf
   rw[hz];refine⟨rfl,(JQ:(0:Int)<=((n2.length-1:Nat):Int)),(JQ:((n2.length-1:Nat):Int)<(n2.length:Int)),?_⟩;conv=>whnf
   refine⟨rfl,rfl,(by show n2.length-1<(n2.map Nd.cells).length;rw[ad];omega),fun row hrow=>?_⟩;obtain⟨d,hd,rfl⟩:=iq hrow;have hdn:nl=d:=vx (hnl.symm.trans hd);subst hdn;clear hrow hd;refine⟨(JS:10+1<=13),?_⟩;conv=>whnf
   refine drT ?_;conv=>whnf
   exact⟨(),[0,1,2,3,4,5,1000000,7],[],Sub.mk' rfl aut ⟨aut,aut,aut,aut,⟨rfl,JZ,JZ,JZ,JZ,JZ,JZ,JZ,⟨rfl,(by show n2.length<=((n2.map Nd.cells).set _ _).length;rw[G0,ad];exact t9 _),(by rw[hzl];show Tr.lst 13 96 _=Tr.lst 13 96 (List.take _ ((n2.map Nd.cells).set _ _));rw[vG (by rw[G0,ad];exact t9 _),Hp];rfl)⟩,JY,aut⟩,aut⟩ rfl rfl,J0⟩
  rintro - - -
  obtain⟨G,hG⟩:∃G,G=grS C ⟨sl2,n2,o2,false⟩:=⟨_,rfl⟩;have hGc:G.cells=[ts C.name,ti C.loc,ti sl2,aO (cQ n2)]:=by rw[hG];rfl
  replace hQ2:Q=zR (gs++[G]) (lowTs p (i+1) (p.threads.drop (i+1))):=by
   rw[hQ2,hG];cases lowTs p (i+1) (p.threads.drop (i+1)) with
   |none=>rfl
   |some l=>show some (gs++(grS C _::l))=some ((gs++[grS C _])++l);rw[GH];rfl
  have hda:(gs.map Gr.cells).take gs.length++[[ts C.name,ti C.loc,ti sl2,aO (cQ n2)]]=(gs++[G]).map Gr.cells:=by rw[vG (by rw[ad];exact t9 _),FP,<-hGc];rfl
  have hglen:gs.length+1=(gs++[G]).length:=by rw[uR];rfl
  conv=>whnf
  refine⟨rfl,rfl,rfl,(by rw[ad];exact t9 _),(JQ:(gs.length+1)*56<=150000000000000),fun q hq=>?_,?_⟩
  ·cases hq with
   |head=>exact GG rfl
   |tail _ h=>
    first
    |(cases h;done)
    |(cases h with
     |head=>exact GG rfl
     |tail _ h=>cases h)
  conv=>whnf
  refine drT ?_;conv=>whnf
  exact⟨(i+1,gs++[G]),[0,1,2,_],[],Sub.mk' rfl ⟨JY,JY,JY,JZ,JZ,.inl (ak hit hl3),J0⟩ ⟨⟨rfl,JZ,JZ,JZ,J0⟩,⟨rfl,JZ,JZ,JZ,J0⟩,⟨rfl,JZ,JZ,⟨rfl,hglen⟩,J0⟩,⟨rfl,rfl,rfl,hda⟩,J0⟩ rfl rfl,⟨hit,hQ2,by show(gs++[G]).length=i+1;omega⟩,by show p.threads.length-(i+1)<p.threads.length-i;omega⟩
 replace hit:i=p.threads.length:=by have:decide ((i:Int)<((p.threads.map Thread.cells).length:Int))=false:=hit;have:=ud this;omega
 subst hit;rw[JA] at hQ
 replace hQ:Q=some gs:=by rw[hQ];show some (gs++[])=some gs;rw[G7]
 replace hU:R=(⟨p.shared,p.locks,gs⟩,0):=by rw[hU,hQ];rfl
 subst hU;conv=>whnf
 refine exT ?_;conv=>whnf
 exact⟨⟨⟨JZ,JZ,⟨rfl,(by rw[ad];exact t9 _),(by show Tr.lst 4 56 _=Tr.lst 4 56 (List.take _ _);rw[vG (by rw[ad];exact t9 _)])⟩,J0⟩,JZ,J0⟩,J0⟩
end Go.Proofs.YtapmdfcmpglieaaGreatDoor.am
