/- The abstract machine: states seen through other handles; contracts; calls. The abstract machine: a slice that lies within one's own, looked at by a -/
import Derived.Test.YtapmdfcmpglieaaGreatDoorV2
import Derived.RegionTactic
import Derived.Deep.RegionWith
set_option linter.all false
namespace Go.Proofs.YtapmdfcmpglieaaGreatDoor.am
open Go
set_option linter.unusedSimpArgs false
def has(l:List Nat)(h:Nat):Bool:=l.any fun k=>Nat.beq k h
theorem c8{l:List Nat}{h:Nat}:has l h=true<->h∈l:=by unfold has;rw[Ix];exact⟨fun⟨x,hx,he⟩=>xx he ▸ hx,fun hx=>⟨h,hx,HC h⟩⟩
def Az(m:Mem)(h len:Nat)(t:Tr):Prop:=match m h with
 |some (.vec _ n B rows)=>len<=rows.length/\t=.lst n B (rows.take len)
 |some (.own n B rows [])=>len<=rows.length/\t=.lst n B (rows.take len)
 |_=>False
def oP(m:Mem)(h off:Nat)(cs:List Tr):Prop:=match m h with
 |some (.cells _ l)=>trs ((l.drop off).take cs.length)=some cs
 |_=>False
def ni(m:Mem)(ρ:List Nat)(h off:Nat):AV->Prop
 | .fn f [.ptr i o]=>match m h with
  |some (.cells _ l)=>match l[off]? with
   |some (.ptr k o')=>f=0/\ρ[i]?=some k/\o'=o
   |_=>False
  |_=>False
 |_=>False
def nl1(t t':Tr):Prop:=t=t'\/(t=.v (.slice none 0 0)/\∃n B,t'=.lst n B [])
def nlL:List Tr->List Tr->Prop
 |[],[]=>True
 |a::l,a'::l'=>nl1 a a'/\nlL l l'
 |_,_=>False
def nlR:List (List Tr)->List (List Tr)->Prop
 |[],[]=>True
 |a::l,a'::l'=>nlL a a'/\nlR l l'
 |_,_=>False
def nlO(rows rows':List (List Tr)):Prop:=rows=rows'\/nlR rows rows'
theorem wv:∀ {l l':List Tr},nlL l l'->l.length=l'.length/\∀(i:Nat)(t':Tr),l'[i]?=some t'->∃t,l[i]?=some t/\nl1 t t'
 |[],[],_=>⟨rfl,fun i t h=>by simp at h⟩
 |a::l,a'::l',h=>by
  obtain⟨h1,h2⟩:=wv h.2;refine⟨by simp[h1],fun i t hi=>?_⟩;cases i with
  |zero=>simp at hi;subst hi;exact⟨a,rfl,h.1⟩
  |succ i=>exact h2 i t (by simpa using hi)
 |[],_::_,h=>h.elim
 |_::_,[],h=>h.elim
theorem u7:∀ {l l':List (List Tr)},nlR l l'->l.length=l'.length/\∀(i:Nat)(t':List Tr),l'[i]?=some t'->∃t,l[i]?=some t/\nlL t t'
 |[],[],_=>⟨rfl,fun i t h=>by simp at h⟩
 |a::l,a'::l',h=>by
  obtain⟨h1,h2⟩:=u7 h.2;refine⟨by simp[h1],fun i t hi=>?_⟩;cases i with
  |zero=>simp at hi;subst hi;exact⟨a,rfl,h.1⟩
  |succ i=>exact h2 i t (by simpa using hi)
 |[],_::_,h=>h.elim
 |_::_,[],h=>h.elim
theorem vV{l l':List (List Tr)}(h:nlO l l'):l.length=l'.length/\∀(i:Nat)(row':List Tr),l'[i]?=some row'->∃row,l[i]?=some row/\row.length=row'.length/\∀(j:Nat)(t':Tr),row'[j]?=some t'->∃t,row[j]?=some t/\nl1 t t':=by
 rcases h with rfl|h
 ·exact⟨rfl,fun i row' hi=>⟨row',hi,rfl,fun j t' hj=>⟨t',hj,JZ⟩⟩⟩
 ·obtain⟨h1,h2⟩:=u7 h;refine⟨h1,fun i row' hi=>?_⟩;obtain⟨row,q1,q2⟩:=h2 i row' hi;exact⟨row,q1,wv q2⟩
theorem fw.nl{w:World}{F:Nat->Prop}{x:Value}{t t':Tr}(h:fw w F x t)(hn:nl1 t t'):fw w F x t':=by
 rcases hn with rfl|⟨rfl,n,B,rfl⟩
 ·exact h
 ·cases h;exact .nil
theorem fw.toT{ok:Nat->Prop}{w:World}{F:Nat->Prop}{x:Value}{t:Tr}(h:fw w F x t):(∀b,F b->ok b)->RepT ok w x t:=by
 induction h with
 |v h=>intro _;exact .v h
 |nil=>intro _;exact RepT.nil _ _ (.v ⟨rfl,rfl,rfl⟩)
 | @lst F b cap n B e rows cur Fs h1 h2 h3 h4 h5 h6 h7 h8 h9 h10 _ ih=>
  intro hF;have hsz:∀i row,rows[i]?=some row->i*n+n<=cur.size:=fun i row hi=>by have hlt:=(a9.1 hi).1;have:(i+1)*n<=cap*n:=Eb _ JQ;rw[G4] at this;omega
  refine .lst (fun i j=>(cur[i*n+j]?).getD default) rfl h4 h5 h1 JX (fun i row hi=>?_) fun i row j t hi hj=>?_
  ·have:=hsz i row hi;refine⟨h7 row (i3 hi),b,0,rfl,hF _ h8,fun j hj=>?_⟩;rw[aD h3,E7];simp[(JQ:i*n+j<cur.size)]
  ·have:=hsz i row hi;have hjn:j<n:=by rw[<-h7 row (i3 hi)];exact(a9.1 hj).1
   have hc:cur[i*n+j]?=some cur[i*n+j]:=by simp[(JQ:i*n+j<cur.size)]
   rw[hc];exact ih i j row t _ hi hj hc fun b hb=>hF b (h9 i j b hb).1
def x8(m:Mem)(h n i len:Nat)(t:Tr):Prop:=match m h with
 |some (.own n' B rows [])=>n=n'/\1<=i/\i+len<=rows.length/\t=.lst n B ((rows.drop i).take len)
 |_=>False
def pX(m:Mem)(S:Nat->Bool):AV->Tr->Prop
 | .tr t,t'=>t=t'
 | .sl h len,t'=>S h=true/\Az m h len t'
 | .ifc q (.vpt h n i len),t'=>q=3*HMod/\S h=true/\x8 m h n i len t'
 |_,_=>False
def vK(m:Mem)(S:Nat->Bool):List AV->List (List Tr)->Prop
 |[],[]=>True
 |a::l,row::r=>(match row with|[t]=>pX m S a t|_=>False)/\vK m S l r
 |_,_=>False
def nR(m:Mem)(S:Nat->Bool)(t q off:Nat):Tr->Prop
 | .lst n B rows=>match m q with
  |some (.cells _ as)=>t=2*HMod+as.length/\off=0/\S q=true/\n=1/\as.length<=9223372036854775807/\as.length*B<=150000000000000/\vK m S as rows
  |_=>False
 |_=>False
mutual
def cv(m:Mem)(ρ nl:List Nat)(S:Nat->Bool):AV->AV->Prop
 | .tr t,.tr t'=>t=t'\/(t=.v (.slice none 0 0)/\∃n B,t'=.lst n B [])
 | .sl h len,.tr t'=>S h=true/\Az m h len t'
 | .tr t,.sl i len=>t=.v (.slice none 0 0)/\len=0/\ρ[i]?=none/\has nl i=true
 | .sl h len,.sl i len'=>ρ[i]?=some h/\len=len'
 | .und,.und=>True
 | .agg l,.agg l'=>cvL m ρ nl S l l'
 | .tup l,.tup l'=>cvL m ρ nl S l l'
 | .ptr h off,.ptr i off'=>ρ[i]?=some h/\off=off'
 | .vpt h n k off,.vpt i n' k' off'=>ρ[i]?=some h/\n=n'/\k=k'/\off=off'
 | .ptr h off,.ept cs'=>S h=true/\oP m h off cs'
 | .ptr h off,.ifc t' a'=>t'=4*HMod/\S h=true/\ni m ρ h off a'
 | .ept cs,.ept cs'=>cs=cs'
 | .fn f l,.fn f' l'=>f=f'/\cvL m ρ nl S l l'
 | .ifc t a,.ifc t' a'=>t=t'/\cv m ρ nl S a a'
 | .ifc t (.ptr q off),.tr t'=>nR m S t q off t'
 | .mp h,.mp i=>ρ[i]?=some h
 | .ful n B rows,.ful n' B' rows'=>n=n'/\B=B'/\rows=rows'
 |_,_=>False
def cvL(m:Mem)(ρ nl:List Nat)(S:Nat->Bool):List AV->List AV->Prop
 |[],[]=>True
 |a::l,a'::l'=>cv m ρ nl S a a'/\cvL m ρ nl S l l'
 |_,_=>False
end
def lnK(ρ:List Nat):List ((Nat×Nat)×(Nat×Nat))->Option (List ((Nat×Nat)×(Nat×Nat)))
 |[]=>some []
 |(p,(h,len))::r=>match ρ[h]?,lnK ρ r with
  |some h',some r'=>some ((p,(h',len))::r')
  |_,_=>none
theorem pd{ρ:List Nat}:∀ {ln' ln:List ((Nat×Nat)×(Nat×Nat))},lnK ρ ln'=some ln->∀i j,(lnk ln' i j=none->lnk ln i j=none)/\∀h' len,lnk ln' i j=some (h',len)->∃h,ρ[h']?=some h/\lnk ln i j=some (h,len)
 |[],ln,h,i,j=>by cases h;exact⟨fun h=>h,fun _ _ h=>(by cases h)⟩
 |((a,b),(h0,l0))::r,ln,h,i,j=>by
  unfold lnK at h;split at h;case h_2=>cases h
  rename_i h1 r1 e1 e2;cases h;have ih:=pd e2 i j;show((bif Nat.beq b j&&Nat.beq a i then some (h0,l0) else lnk r i j)=none->(bif Nat.beq b j&&Nat.beq a i then some (h1,l0) else lnk r1 i j)=none)/\∀h' len,(bif Nat.beq b j&&Nat.beq a i then some (h0,l0) else lnk r i j)=some (h',len)->∃h,ρ[h']?=some h/\(bif Nat.beq b j&&Nat.beq a i then some (h1,l0) else lnk r1 i j)=some (h,len);cases hc:(Nat.beq b j&&Nat.beq a i) with
  |true=>exact⟨fun h=>(by cases h),fun h' len h=>(by cases h;exact⟨h1,e1,rfl⟩)⟩
  |false=>exact ih
def cvP(m:Mem)(ρ nl:List Nat)(S:Nat->Bool):List (MK×AV)->List (MK×AV)->Prop
 |[],[]=>True
 |p::l,p'::l'=>p.1=p'.1/\cv m ρ nl S p.2 p'.2/\cvP m ρ nl S l l'
 |_,_=>False
def cvB(m:Mem)(ρ nl:List Nat)(S:Nat->Bool):Blk->Blk->Prop
 | .cells t l,.cells t' l'=>t=t'/\cvL m ρ nl S l l'
 | .vec e n B rows,.vec e' n' B' rows'=>e=e'/\n=n'/\B=B'/\rows=rows'
 | .map kd es,.map kd' es'=>kd=kd'/\es=es'
 | .mpa kd es,.mpa kd' es'=>kd=kd'/\cvP m ρ nl S es es'
 | .itr h n s,.itr h' n' s'=>ρ[h']?=some h/\n=n'/\s=s'
 | .fns e B h l,.fns e' B' h' l'=>e=e'/\B=B'/\ρ[h']?=some h/\l=l'
 | .own n B rows ln,.own n' B' rows' ln'=>n=n'/\B=B'/\lnK ρ ln'=some ln/\ln.length=ln'.length/\nlO rows rows'
 | .vec _ n B rows,.own n' B' rows' ln'=>n=n'/\B=B'/\ln'=[]/\ll rows/\nlO rows rows'
 |_,_=>False
def gsub(g:Gh)(ρ nl:List Nat)(X:Nat->Prop):Gh:=⟨fun i=>match ρ[i]? with|some h=>g h|none=>if has nl i then .live .nil else .un,X,[],fun i b=>∃h,ρ[i]?=some h/\g.F h b⟩
section
variable {g:Gh} {w:World} {m:Mem} {ρ nl:List Nat} {S:Nat->Bool} {X:Nat->Prop}
theorem cf{i h:Nat}(hi:ρ[i]?=some h):gsub g ρ nl X i=g h:=by simp[gsub,hi]
theorem EK{i h:Nat}(hi:ρ[i]?=some h):(gsub g ρ nl X).F i=g.F h:=by funext b;simp[gsub,hi]
theorem ci{i b:Nat}(h:cd (gsub g ρ nl X) i b):∃h,ρ[i]?=some h/\cd g h b:=by
 obtain⟨l,e1,e2⟩:=h;change l.b=some b\/∃h,ρ[i]?=some h/\g.F h b at e2;unfold gsub at e1;simp only at e1;split at e1
 ·rename_i h hi;refine⟨h,hi,l,e1,e2.imp id fun⟨h',q1,q2⟩=>?_⟩;rw[hi] at q1;cases q1;exact q2
 ·rename_i hi;split at e1
  ·cases e1;rcases e2 with e2|⟨h',q1,_⟩
   ·cases e2
   ·rw[hi] at q1;cases q1
  ·cases e1
def eB(g:Gh)(w:World)(ρ:List Nat)(S:Nat->Bool)(X:Nat->Prop):Prop:=
 (∀b,okB g w b->¬ X b)/\(∀h b,S h=true->cd g h b->¬ X b)/\∀h,S h=true->h∉ρ
theorem eB.ok(hs:eB g w ρ S X){b:Nat}(hb:okB g w b):okB (gsub g ρ nl X) w b:=by refine⟨hb.1,hs.1 b hb,fun i e1=>?_⟩;obtain⟨h,_,e2⟩:=ci e1;exact hb.2.2 h e2
theorem eB.seen(hs:eB g w ρ S X)(hm:MSt g w m){h b:Nat}(hS:S h=true)(hh:cd g h b):okB (gsub g ρ nl X) w b:=by refine⟨hm.lt h b hh,hs.2.1 h b hS hh,fun i e1=>?_⟩;obtain⟨k,hk,e2⟩:=ci e1;have:=hm.inj h k b hh e2;exact hs.2.2 h hS (this ▸ i3 hk)
theorem mD(hs:eB g w ρ S X)(hm:MSt g w m){h len:Nat}{t:Tr}{x:Value}(hS:S h=true)(ht:Az m h len t)(hr:Rep g w x (.sl h len)):RepT (okB (gsub g ρ nl X) w) w x t:=by
 have hnilT:∀n B,RepT (okB (gsub g ρ nl X) w) w (.slice none 0 0) (.lst n B []):=fun n B=>.lst (fun _ _=>default) JX (t9 _) JQ JQ (fun _=>rfl) (fun i row h=>by simp at h) (fun i row j t h=>by simp at h);have hrow:∀ {rows:List (List Tr)} {i:Nat} {row:List Tr},(rows.take len)[i]?=some row->rows[i]?=some row:=fun{rows i row} h=>by
  rw[Ba] at h;split at h;·exact h
  ·cases h
 unfold Az at ht;split at ht;case h_3=>exact ht.elim
 ·rename_i e n B rows em;obtain⟨hle,rfl⟩:=ht;obtain⟨l,g1,g2⟩:=hm.blk h _ em;obtain⟨hB,hn,⟨rfl,rfl⟩|⟨b,cap,cur,rfl,e1,e2,e3,e4,e5,e6⟩⟩:=g2
  ·rcases hr.sl_inv g1 with⟨b,cap,e0,_,_⟩|⟨_,rfl,rfl⟩
   ·cases e0
   ·exact hnilT n B
  ·rcases hr.sl_inv g1 with⟨b',cap',e0,e7,rfl⟩|⟨e0,_,_⟩
   ·cases e0;have hok:=hs.seen (nl:=nl) hm hS (.root g1 rfl);have hlb:len*B<=rows.length*B:=Eb _ hle;refine .lst (fun i j=>(cur[i*n+j]?).getD default) (by rw[DK];omega) e7 e3 JQ JX (fun i row hi=>?_) fun i row j t hi hj=>?_
    ·have hi':=hrow hi;have hlt:=(a9.1 hi').1;have hsz:i*n+n<=cur.size:=by
      have:(i+1)*n<=cap*n:=Eb _ JQ;rw[G4] at this;omega
     refine⟨e5 row (i3 hi'),b,0,rfl,hok,fun j hj=>?_⟩;rw[aD e1,E7];simp[(JQ:i*n+j<cur.size)]
    ·obtain⟨c,c1,c2⟩:=fP e5 e6 (hrow hi) hj;rw[c1];exact c2.mono fun b hb=>⟨hs.ok hb,rfl⟩
   ·cases e0
 ·rename_i n B rows em;obtain⟨hle,rfl⟩:=ht;obtain⟨l,g1,g2⟩:=hm.blk h _ em;obtain⟨hB,hn,⟨rfl,rfl⟩|⟨b,cap,cur,e,Fs,rfl,e1,e2,e3,e4,e5,e6,e7,e8⟩⟩:=g2
  ·rcases hr.sl_inv g1 with⟨b,cap,e0,_,_⟩|⟨_,rfl,rfl⟩
   ·cases e0
   ·exact hnilT n B
  ·rcases hr.sl_inv g1 with⟨b',cap',e0,e9,rfl⟩|⟨e0,_,_⟩
   ·cases e0;have hok:=hs.seen (nl:=nl) hm hS (.root g1 rfl);have hlb:len*B<=rows.length*B:=Eb _ hle;have hsz:∀i row,rows[i]?=some row->i*n+n<=cur.size:=fun i row hi=>by
     have hlt:=(a9.1 hi).1;have:(i+1)*n<=cap*n:=Eb _ JQ;rw[G4] at this;omega
    refine .lst (fun i j=>(cur[i*n+j]?).getD default) (by rw[DK];omega) e9 e3 JQ JX (fun i row hi=>?_) fun i row j t hi hj=>?_
    ·have hi':=hrow hi;have:=hsz i row hi';refine⟨e5 row (i3 hi'),b,0,rfl,hok,fun j hj=>?_⟩;rw[aD e1,E7];simp[(JQ:i*n+j<cur.size)]
    ·have hi':=hrow hi;have:=hsz i row hi';have hjn:j<n:=by rw[<-e5 row (i3 hi')];exact(a9.1 hj).1
     have hc:cur[i*n+j]?=some cur[i*n+j]:=by simp[(JQ:i*n+j<cur.size)]
     rw[hc];exact((e8 i j row t _ hi' hj hc).1 rfl).toT fun b hb=>hs.seen hm hS ⟨_,g1,.inr (e6 i j b hb).1⟩
   ·cases e0
theorem nC{t q off:Nat}{u:Tr}(h:nR m S t q off u):2*HMod<=t:=by
 unfold nR at h;split at h;case h_2=>exact h.elim
 split at h;case h_2=>exact h.elim
 omega
theorem xT(hs:eB g w ρ S X)(hm:MSt g w m){h n i len:Nat}{t:Tr}{x:Value}(hS:S h=true)(ht:x8 m h n i len t)(hr:Rep g w x (.ifc (3*HMod) (.vpt h n i len))):RepT (okB (gsub g ρ nl X) w) w x t:=by
 unfold x8 at ht;split at ht;case h_2=>exact ht.elim
 rename_i n' B rows em;obtain⟨rfl,h1i,hle,rfl⟩:=ht;have hrow:∀ {k:Nat} {row:List Tr},((rows.drop i).take len)[k]?=some row->k<len/\rows[i+k]?=some row:=fun{k row} h=>by
  rw[Ba] at h;split at h;·rename_i hk;rw[GA] at h;exact⟨hk,h⟩
  ·cases h
 have hlen:((rows.drop i).take len).length=len:=by rw[DK,Hu];omega
 obtain⟨l,g1,g2⟩:=hm.blk h _ em;generalize hq:3*HMod=q at hr;cases hr with
 |ifc q1 _=>exact absurd q1 JQ
 |bnd q1 _=>exact absurd q1 JQ
 |psl h1=>
  obtain⟨b,cap,_,e⟩:=h1.vpt_inv g1;simp only[Value.pointer.injEq,HG,Addr.mk.injEq] at e;have:1*n<=i*n:=Eb _ h1i;obtain⟨_,hn,_⟩:=g2;omega
 |win h1 h2 h3=>
  obtain⟨b,cap,rfl,e⟩:=h1.vpt_inv g1;simp only[Value.pointer.injEq,HG,Addr.mk.injEq,Ka] at e;obtain⟨rfl,rfl⟩:=e;obtain⟨hB,hn,⟨e0,_⟩|⟨b',cap',cur,e,Fs,e0,e1,e2,e3,e4,e5,e6,e7,e8⟩⟩:=g2;·cases e0
  ·cases e0;have hok:=hs.seen (nl:=nl) hm hS (.root g1 rfl);have hsz:∀i row,rows[i]?=some row->i*n+n<=cur.size:=fun i row hi=>by
    have hlt:=(a9.1 hi).1;have:(i+1)*n<=cap*n:=Eb _ JQ;rw[G4] at this;omega
   have hlb:len*B<=rows.length*B:=Eb _ JQ;refine .lst (fun k j=>(cur[(i+k)*n+j]?).getD default) hlen.symm h2 h3 JQ JX (fun k row hi=>?_) fun k row j t hi hj=>?_
   ·obtain⟨hk,hi'⟩:=hrow hi;have:=hsz _ row hi';refine⟨e5 row (i3 hi'),_,i*n+0,rfl,hok,fun j hj=>?_⟩;rw[aD e1];have e:i*n+0+k*n+j=(i+k)*n+j:=by rw[Id];omega
    rw[e];simp[(JQ:(i+k)*n+j<cur.size)]
   ·obtain⟨hk,hi'⟩:=hrow hi;have:=hsz _ row hi';have hjn:j<n:=by rw[<-e5 row (i3 hi')];exact(a9.1 hj).1
    have hc:cur[(i+k)*n+j]?=some cur[(i+k)*n+j]:=by simp[(JQ:(i+k)*n+j<cur.size)]
    rw[hc];exact((e8 (i+k) j row t _ hi' hj hc).1 rfl).toT fun b hb=>hs.seen hm hS ⟨_,g1,.inr (e6 (i+k) j b hb).1⟩
theorem nb:∀ {as:List AV} {rows:List (List Tr)},vK m S as rows->as.length=rows.length/\∀(i:Nat)(row:List Tr),rows[i]?=some row->∃a t,as[i]?=some a/\row=[t]/\pX m S a t
 |[],[],_=>⟨rfl,fun i row h=>by simp at h⟩
 |a::l,row::r,h=>by
  obtain⟨h1,h2⟩:=h;obtain⟨q1,q2⟩:=nb h2;refine⟨by simp[q1],fun i row' hi=>?_⟩;cases i with
  |zero=>
   cases hi
   match row,h1 with
   |[t],h1=>exact⟨a,t,rfl,rfl,h1⟩
  |succ i=>exact q2 i row' (by simpa using hi)
 |[],_::_,h=>h.elim
 |_::_,[],h=>h.elim
theorem seen1_rep(hs:eB g w ρ S X)(hm:MSt g w m){a:AV}{t:Tr}{x:Value}(h:pX m S a t)(hr:Rep g w x a):RepT (okB (gsub g ρ nl X) w) w x t:=by
 unfold pX at h;split at h;case h_4=>exact h.elim
 ·subst h;exact hr.tr_inv.mono fun b hb=>⟨hs.ok hb,rfl⟩
 ·exact mD hs hm h.1 h.2 hr
 ·obtain⟨rfl,h1,h2⟩:=h;exact xT hs hm h1 h2 hr
theorem wX(hs:eB g w ρ S X)(hm:MSt g w m){b len q off:Nat}{t:Tr}(hr:Rep g w (.pointer (some ⟨b,0,none⟩)) (.ptr q off))(ht:nR m S (2*HMod+len) q off t):RepT (okB (gsub g ρ nl X) w) w (.slice (some ⟨b,0,none⟩) len len) t:=by
 unfold nR at ht;split at ht;case h_2=>exact ht.elim
 rename_i n B rows;split at ht;case h_2=>exact ht.elim
 rename_i e as em;obtain⟨hl,rfl,hS,rfl,hmx,hB,hL⟩:=ht;obtain rfl:len=as.length:=JQ;obtain⟨hlen,hget⟩:=nb hL;obtain⟨l',g1,b',cs',rfl,e1,e2,e3,e4⟩:=hm.blk q _ em;generalize hv:Value.pointer (some ⟨b,0,none⟩)=v at hr;cases hr with
 |ptrD q1=>rw[g1] at q1;cases q1
 |ptr q1=>
  rw[g1] at q1;cases q1;cases hv;refine .lst (fun i _=>(cs'[i]?).getD default) hlen (t9 _) hmx hB JX (fun i row hi=>?_) fun i row j t hi hj=>?_
  ·obtain⟨a,t,ha,rfl,_⟩:=hget i row hi;have hlt:=(a9.1 ha).1;refine⟨rfl,b,0,rfl,hs.seen (nl:=nl) hm hS (.root g1 rfl),fun j hj=>?_⟩;obtain rfl:j=0:=JQ;rw[aD e1];simp[(JQ:i<cs'.size)]
  ·obtain⟨a,t',ha,rfl,h1⟩:=hget i row hi;have hlt:=(a9.1 ha).1;have hc:cs'[i]?=some (cs'[i]' JQ):=JX;rw[hc];cases j with
   |zero=>cases hj;exact seen1_rep hs hm h1 (e4 _ _ _ hc ha)
   |succ j=>simp at hj
theorem pY:∀ {as:List AV} {ts:List Tr},trs as=some ts->as.length=ts.length/\∀(i:Nat)(t:Tr),ts[i]?=some t->as[i]?=some (.tr t)
 |[],ts,h=>by cases h;exact⟨rfl,fun i t h=>by simp at h⟩
 | .tr a::r,ts,h=>by
  unfold trs at h;split at h
  ·rename_i l e;cases h;obtain⟨h1,h2⟩:=pY e;refine⟨by simp[h1],fun i t hi=>?_⟩;cases i with
   |zero=>simp at hi;subst hi;rfl
   |succ i=>exact h2 i t (by simpa using hi)
  ·cases h
 | .und::_,_,h|.agg _::_,_,h|.tup _::_,_,h|.ptr _ _::_,_,h|.vpt _ _ _ _::_,_,h|.sl _ _::_,_,h|.ept _::_,_,h|.fn _ _::_,_,h|.ifc _ _::_,_,h|.mp _::_,_,h|.ful _ _ _::_,_,h=>by cases h
theorem uE(hs:eB g w ρ S X)(hm:MSt g w m){h off:Nat}{cs:List Tr}{l:Loc}(hS:S h=true)(ht:oP m h off cs)(hl:g h=.live l):∃b,l=.blk b/\Rep (gsub g ρ nl X) w (.pointer (some ⟨b,off,none⟩)) (.ept cs):=by
 unfold oP at ht;split at ht;case h_2=>exact ht.elim
 rename_i e as em;obtain⟨l',g1,b,cs',rfl,e1,e2,e3,e4⟩:=hm.blk h _ em;rw[hl] at g1;cases g1;refine⟨b,rfl,.ept (fun j=>(cs'[off+j]?).getD default) (hs.seen (nl:=nl) hm hS (.root hl rfl)) (fun j hj=>?_) fun j t hj=>?_⟩
 ·obtain⟨q1,q2⟩:=pY ht;have:off+j<as.length:=by simp at q1;omega
  rw[aD e1];simp[(JQ:off+j<cs'.size)]
 ·obtain⟨q1,q2⟩:=pY ht;have hj2:=(a9.1 hj).1;have hlt:off+j<as.length:=by simp at q1;omega
  have ha:as[off+j]?=some (.tr t):=by have:=q2 j t hj;rw[Ba,Gw hj2,GA] at this;exact this
  have hc:cs'[off+j]?=some (cs'[off+j]' JQ):=JX;rw[hc];exact(e4 _ _ _ hc ha).tr_inv.mono fun b hb=>⟨hs.ok hb,rfl⟩
theorem jm{h off:Nat}{a:AV}(hq:ni m ρ h off a):∃i o k e as,a=.fn 0 [.ptr i o]/\m h=some (.cells e as)/\as[off]?=some (.ptr k o)/\ρ[i]?=some k:=by
 unfold ni at hq;split at hq;case h_2=>exact hq.elim
 split at hq;case h_2=>exact hq.elim
 rename_i e as em;split at hq;case h_2=>exact hq.elim
 rename_i k o' el;obtain⟨rfl,h2,rfl⟩:=hq;exact⟨_,_,k,e,as,rfl,em,el,h2⟩
theorem pV{h off:Nat}{a:AV}(hq:ni m ρ h off a):∃e as,m h=some (.cells e as):=by obtain⟨i,o,k,e,as,_,h2,_⟩:=jm hq;exact⟨e,as,h2⟩
theorem xO(hs:eB g w ρ S X)(hm:MSt g w m){h off b:Nat}{a:AV}(hS:S h=true)(hq:ni m ρ h off a)(hl:g h=.live (.blk b)):Rep (gsub g ρ nl X) w (.pointer (some ⟨b,off,none⟩)) (.ifc (4*HMod) a):=by
 obtain⟨i,o,k,e,as,rfl,em,el,hi⟩:=jm hq;obtain⟨l',g1,b',cs',rfl,e1,e2,e3,e4⟩:=hm.blk h _ em;rw[hl] at g1;cases g1;have hlt:=(a9.1 el).1;have hc:cs'[off]?=some (cs'[off]' JQ):=JX;have hr:=e4 _ _ _ hc el;have hcell:w.cell? ⟨b,off,none⟩=some (cs'[off]' JQ):=by rw[aD e1];exact hc
 refine .frz (hs.seen (nl:=nl) hm hS (.root hl rfl)) hcell ?_;generalize cs'[off]' JQ=v at hr;cases hr with
 |ptrD q1 q2=>exact .ptrD ((cf hi).trans q1) q2
 |ptr q1=>exact .ptr ((cf hi).trans q1)
theorem ij:∀ {l l':List AV},cvL m ρ nl S l l'->l.length=l'.length/\∀(i:Nat)(a':AV),l'[i]?=some a'->∃a,l[i]?=some a/\cv m ρ nl S a a'
 |[],[],_=>⟨rfl,fun i a' h=>by simp at h⟩
 |a::l,a'::l',h=>by
  unfold cvL at h;obtain⟨h1,h2⟩:=ij h.2;refine⟨by simp[h1],fun i b hb=>?_⟩;cases i with
  |zero=>simp at hb;subst hb;exact⟨a,rfl,h.1⟩
  |succ i=>exact h2 i b (by simpa using hb)
 |[],_::_,h=>by unfold cvL at h;exact h.elim
 |_::_,[],h=>by unfold cvL at h;exact h.elim
theorem Bo{a a':AV}(h:cv m ρ nl S a a')(h1:a.one=true):a'.one=true:=by cases a<;>cases a'<;>first|rfl|(unfold cv at h;exact h.elim)|cases h1
theorem fF(hs:eB g w ρ S X)(hm:MSt g w m){x:Value}{a:AV}(hr:Rep g w x a):∀ {a':AV},cv m ρ nl S a a'->Rep (gsub g ρ nl X) w x a':=by
 have idx:∀ {i h:Nat} {q:HS},ρ[i]?=some h->g h=q->gsub g ρ nl X i=q:=fun hi hq=>(cf hi).trans hq;have cells:∀ {cs:Array Value} {l l':List AV},cs.size=l.length->(∀(i:Nat)(c:Value)(a:AV),cs[i]?=some c->l[i]?=some a->∀ {a':AV},cv m ρ nl S a a'->Rep (gsub g ρ nl X) w c a')->cvL m ρ nl S l l' ->
   cs.size=l'.length/\∀(i:Nat)(c:Value)(a:AV),cs[i]?=some c->l'[i]?=some a->Rep (gsub g ρ nl X) w c a:=fun h1 ih hc=>by
  obtain⟨e1,e2⟩:=ij hc;refine⟨h1.trans e1,fun i c a q1 q2=>?_⟩;obtain⟨b,e3,e4⟩:=e2 i a q2;exact ih i c b q1 e3 e4
 induction hr with
 |und=>
  intro a' hc;cases a'<;>first|exact .und|(unfold cv at hc;exact hc.elim)
 |tr h=>
  intro a' hc;cases a' with
  |tr t'=>
   unfold cv at hc;have h':=h.mono (ok':=okB (gsub g ρ nl X) w) (w':=w) fun b hb=>⟨hs.ok hb,rfl⟩;rcases hc with rfl|⟨rfl,n,B,rfl⟩
   ·exact .tr h'
   ·exact .tr (h'.nil n B)
  |sl i len=>
   unfold cv at hc;obtain⟨rfl,rfl,hn,hi⟩:=hc;cases h;exact .slN (by simp[gsub,hn,hi])
  |_=>unfold cv at hc;exact hc.elim
 |agg h1 h2 h3 ih=>
  intro a' hc;cases a' with
  |agg l'=>
   unfold cv at hc;obtain⟨e1,e2⟩:=cells h1 ih hc;obtain⟨q1,q2⟩:=ij hc;refine .agg e1 (fun a ha=>?_) e2;obtain⟨i,hi⟩:=Gv.1 ha;obtain⟨b,q3,q4⟩:=q2 i a hi;exact Bo q4 (h2 b (i3 q3))
  |_=>unfold cv at hc;exact hc.elim
 |tup h1 h3 ih=>
  intro a' hc;cases a' with
  |tup l'=>
   unfold cv at hc;obtain⟨e1,e2⟩:=cells h1 ih hc;exact .tup e1 e2
  |_=>unfold cv at hc;exact hc.elim
 |ptrD h1 h2=>
  intro a' hc;cases a' with
  |ept cs=>
   unfold cv at hc;obtain⟨hS,hsee⟩:=hc;unfold oP at hsee;split at hsee
   ·rename_i e as em;obtain⟨l,g1,_⟩:=hm.blk _ _ em;rw[h1] at g1;cases g1
   ·exact hsee.elim
  |ptr i off=>unfold cv at hc;exact .ptrD (idx hc.1 h1) h2
  |ifc t' b=>
   unfold cv at hc;obtain⟨e,as,em⟩:=pV hc.2.2;obtain⟨l,g1,_⟩:=hm.blk _ _ em;rw[h1] at g1;cases g1
  |_=>unfold cv at hc;exact hc.elim
 |ptr h1=>
  intro a' hc;cases a' with
  |ept cs=>
   unfold cv at hc;obtain⟨b,e1,e2⟩:=uE (nl:=nl) hs hm hc.1 hc.2 h1;cases e1;exact e2
  |ptr i off=>unfold cv at hc;obtain⟨e1,rfl⟩:=hc;exact .ptr (idx e1 h1)
  |ifc t' b=>
   unfold cv at hc;obtain⟨rfl,hS,hq⟩:=hc;exact xO (nl:=nl) hs hm hS hq h1
  |_=>unfold cv at hc;exact hc.elim
 |vptD h1 h2=>
  intro a' hc;cases a'<;>first|(unfold cv at hc;exact hc.elim)|(unfold cv at hc;exact .vptD (idx hc.1 h1) h2)
 |vpt h1=>
  intro a' hc;cases a'<;>first|(unfold cv at hc;exact hc.elim)|(unfold cv at hc;obtain⟨e1,rfl,rfl,rfl⟩:=hc;exact .vpt (idx e1 h1))
 |slD h1 h2=>
  intro a' hc;cases a' with
  |tr t'=>
   unfold cv at hc;obtain⟨hS,hsee⟩:=hc;unfold Az at hsee;split at hsee
   ·rename_i e n B rows em;obtain⟨l,g1,_⟩:=hm.blk _ _ em;rw[h1] at g1;cases g1
   ·rename_i n B rows em;obtain⟨l,g1,_⟩:=hm.blk _ _ em;rw[h1] at g1;cases g1
   ·exact hsee.elim
  |sl i len=>unfold cv at hc;exact .slD (idx hc.1 h1) h2
  |_=>unfold cv at hc;exact hc.elim
 |sl h1 h2=>
  intro a' hc;cases a' with
  |tr t'=>unfold cv at hc;exact .tr (mD hs hm hc.1 hc.2 (.sl h1 h2))
  |sl i len=>unfold cv at hc;obtain⟨e1,rfl⟩:=hc;exact .sl (idx e1 h1) h2
  |_=>unfold cv at hc;exact hc.elim
 |slN h1=>
  intro a' hc;cases a' with
  |tr t'=>unfold cv at hc;exact .tr (mD hs hm hc.1 hc.2 (.slN h1))
  |sl i len=>unfold cv at hc;obtain⟨e1,rfl⟩:=hc;exact .slN (idx e1 h1)
  |_=>unfold cv at hc;exact hc.elim
 |ept f h1 h2 h3=>
  intro a' hc;cases a' with
  |ept cs=>unfold cv at hc;subst hc;exact .ept f (hs.ok h1) h2 fun j t hj=>(h3 j t hj).mono fun b hb=>⟨hs.ok hb,rfl⟩
  |_=>unfold cv at hc;exact hc.elim
 |fn h1 h3 ih=>
  intro a' hc;cases a' with
  |fn f l'=>
   unfold cv at hc;obtain⟨rfl,hc⟩:=hc;obtain⟨e1,e2⟩:=cells h1 ih hc;exact .fn e1 e2
  |_=>unfold cv at hc;exact hc.elim
 |ifc ht h1 ih=>
  intro a' hc;cases a' with
  |tr t'=>
   rename_i t x a;cases a with
   |ptr q off=>unfold cv at hc;have:=nC hc;omega
   |_=>unfold cv at hc;exact hc.elim
  |ifc t' b=>unfold cv at hc;obtain⟨rfl,hc⟩:=hc;exact .ifc ht (ih hc)
  |_=>unfold cv at hc;exact hc.elim
 |bnd hf h1 ih=>
  intro a' hc;cases a' with
  |tr t'=>
   rename_i t x a;cases a with
   |ptr q off=>unfold cv at hc;have:=nC hc;omega
   |_=>unfold cv at hc;exact hc.elim
  |ifc t' b=>unfold cv at hc;obtain⟨rfl,hc⟩:=hc;exact .bnd hf (ih hc)
  |_=>unfold cv at hc;exact hc.elim
 |psl h1 ih=>
  intro a' hc;cases a' with
  |tr t'=>
   rename_i len b a;cases a with
   |ptr q off=>unfold cv at hc;exact .tr (wX hs hm h1 hc)
   |_=>unfold cv at hc;exact hc.elim
  |ifc t' b=>unfold cv at hc;obtain⟨rfl,hc⟩:=hc;exact .psl (ih hc)
  |_=>unfold cv at hc;exact hc.elim
 |frz h1 h2 h3 ih=>
  intro a' hc;cases a' with
  |ifc t' b=>
   unfold cv at hc;obtain⟨rfl,hc⟩:=hc;cases b with
   |fn f' l'=>
    unfold cv at hc;obtain⟨rfl,hc⟩:=hc
    match l',hc with
    |[a'],hc=>
     unfold cvL at hc;exact .frz (hs.ok h1) h2 (ih hc.1)
    |[],hc=>unfold cvL at hc;exact hc.elim
    |_::_::_,hc=>unfold cvL at hc;have:=hc.2;unfold cvL at this;exact this.elim
   |_=>unfold cv at hc;exact hc.elim
  |_=>unfold cv at hc;exact hc.elim
 |win h1 h2 h3 ih=>
  intro a' hc;cases a' with
  |ifc t' b=>
   unfold cv at hc;obtain⟨rfl,hc⟩:=hc;cases b with
   |vpt i' n' k' o'=>
    unfold cv at hc;obtain⟨c1,rfl,rfl,rfl⟩:=hc;exact .win (ih (a':=.vpt i' _ _ 0) (by unfold cv;exact⟨c1,rfl,rfl,rfl⟩)) h2 h3
   |_=>unfold cv at hc;exact hc.elim
  |_=>unfold cv at hc;exact hc.elim
 |mpD h1 h2=>
  intro a' hc;cases a'<;>first|(unfold cv at hc;exact hc.elim)|(unfold cv at hc;exact .mpD (idx hc h1) h2)
 |mp h1=>
  intro a' hc;cases a'<;>first|(unfold cv at hc;exact hc.elim)|(unfold cv at hc;exact .mp (idx hc h1))
 |ful h1 h2=>
  intro a' hc;cases a' with
  |ful n' B' rows'=>
   unfold cv at hc;obtain⟨rfl,rfl,rfl⟩:=hc;exact .ful (h1.mono fun b hb=>⟨hs.ok hb,rfl⟩) h2
  |_=>unfold cv at hc;exact hc.elim
def wY:Blk->Prop
 | .own n _ rows ln=>rows=[]/\ln=[]/\0<n
 | .fns _ _ _ l=>l=[]
 |b'=>∃e n B,b'=.vec e n B []/\0<n
theorem y3{g:Gh}{w:World}{F:Nat->Prop}{b:Blk}(h:wY b):fE g w .nil F b:=by
 unfold wY at h;split at h
 ·obtain⟨rfl,rfl,h⟩:=h;exact⟨JX,h,.inl JY⟩
 ·subst h;exact⟨JX,.inl JY⟩
 ·obtain⟨e,n,B,rfl,h⟩:=h;exact⟨JX,h,.inl JY⟩
def cvM(m m':Mem)(ρ nl:List Nat)(S:Nat->Bool):Prop:=
 ∀i b',m' i=some b'->(∃h b,ρ[i]?=some h/\m h=some b/\cvB m ρ nl S b b')\/(ρ[i]?=none/\has nl i=true/\wY b')
theorem wf:∀ {es es':List (MK×AV)},cvP m ρ nl S es es'->es.length=es'.length/\∀(i:Nat)(k:MK)(a':AV),es'[i]?=some (k,a')->∃a,es[i]?=some (k,a)/\cv m ρ nl S a a'
 |[],[],_=>⟨rfl,fun i k a h=>by simp at h⟩
 |p::l,p'::l',h=>by
  obtain⟨h1,h2,h3⟩:=h;obtain⟨q1,q2⟩:=wf h3;refine⟨by simp[q1],fun i k a' hi=>?_⟩;cases i with
  |zero=>
   cases hi;have h1:p.1=k:=h1;exact⟨p.2,by rw[List.getElem?_cons_zero,<-h1],h2⟩
  |succ i=>exact q2 i k a' hi
 |[],_::_,h=>h.elim
 |_::_,[],h=>h.elim
theorem DH(hs:eB g w ρ S X)(hm:MSt g w m){l:Loc}{F:Nat->Prop}{b b':Blk}(h:fE g w l F b)(hc:cvB m ρ nl S b b'):fE (gsub g ρ nl X) w l F b':=by
 cases b with
 |cells t as=>
  cases b' with
  |cells t' as'=>
   unfold cvB at hc;obtain⟨rfl,hc⟩:=hc;obtain⟨k,cs,rfl,e,h1,h2,h3⟩:=h;obtain⟨q1,q2⟩:=ij hc;refine⟨k,cs,rfl,e,h1.trans q1,fun a ha=>?_,fun i c a e1 e2=>?_⟩
   ·obtain⟨i,hi⟩:=Gv.1 ha;obtain⟨b,q3,q4⟩:=q2 i a hi;exact Bo q4 (h2 b (i3 q3))
   ·obtain⟨b,q3,q4⟩:=q2 i a e2;exact fF hs hm (h3 i c b e1 q3) q4
  |_=>unfold cvB at hc;exact hc.elim
 |map kd es=>
  cases b' with
  |map kd' es'=>
   unfold cvB at hc;obtain⟨rfl,rfl⟩:=hc;obtain⟨k,ents,clock,rfl,e1,e2,e3,e4⟩:=h;exact⟨k,ents,clock,rfl,e1,e2,e3,fun i q t hi=>by obtain⟨en,c1,c2,c3⟩:=e4 i q t hi;exact⟨en,c1,c2,c3.mono fun b hb=>⟨hs.ok hb,rfl⟩⟩⟩
  |_=>unfold cvB at hc;exact hc.elim
 |mpa kd es=>
  cases b' with
  |mpa kd' es'=>
   unfold cvB at hc;obtain⟨rfl,hc⟩:=hc;obtain⟨q1,q2⟩:=wf hc;obtain⟨k,ents,clock,rfl,e1,e2,e3,e4⟩:=h;refine⟨k,ents,clock,rfl,e1,by rw[<-q1];exact e2,fun p hp=>?_,fun i q t hi=>?_⟩
   ·obtain⟨i,hi⟩:=Gv.1 hp;obtain⟨a,h1,_⟩:=q2 i p.1 p.2 hi;exact e3 (p.1,a) (i3 h1)
   ·obtain⟨a,h1,h2⟩:=q2 i q t hi;obtain⟨en,c1,c2,c3⟩:=e4 i q a h1;exact⟨en,c1,c2,fF hs hm c3 h2⟩
  |_=>unfold cvB at hc;exact hc.elim
 |itr h0 n s=>
  cases b' with
  |itr h1 n1 s1=>
   unfold cvB at hc;obtain⟨q,rfl,rfl⟩:=hc;obtain⟨r,b,rfl,e1,e2⟩:=h;exact⟨r,b,rfl,e1,fF hs hm e2 (show cv m ρ nl S (.mp h0) (.mp h1) by unfold cv;exact q)⟩
  |_=>unfold cvB at hc;exact hc.elim
 |fns e B h0 fs=>
  cases b' with
  |fns e' B' h1 fs'=>
   unfold cvB at hc;obtain⟨rfl,rfl,q,rfl⟩:=hc;obtain⟨hB,hv⟩:=h;refine⟨hB,?_⟩;rcases hv with hv|⟨k,cap,cur,rfl,e1,e2,e3,e4,e5⟩
   ·exact .inl hv
   ·refine .inr ⟨k,cap,cur,rfl,e1,e2,e3,e4,fun i p hi=>?_⟩;obtain⟨c,c1,c2⟩:=e5 i p hi;refine⟨c,c1,fF hs hm c2 ?_⟩;unfold fnAV;unfold cv;refine⟨rfl,?_⟩;unfold cvL;refine⟨?_,?_⟩
    ·unfold cv;refine⟨rfl,?_⟩;unfold cv;refine⟨rfl,?_⟩;unfold cvL;refine⟨?_,by unfold cvL;trivial⟩;unfold cv;exact⟨q,rfl⟩
    ·unfold cvL;refine⟨?_,by unfold cvL;trivial⟩;unfold cv;rfl
  |_=>unfold cvB at hc;exact hc.elim
 |vec e n B rows=>
  cases b' with
  |cells t' as'=>unfold cvB at hc;exact hc.elim
  |map kd es=>unfold cvB at hc;exact hc.elim
  |mpa kd es=>unfold cvB at hc;exact hc.elim
  |itr h0 n s=>unfold cvB at hc;exact hc.elim
  |fns e0 B0 h0 fs=>unfold cvB at hc;exact hc.elim
  |own n' B' rows' ln'=>
   unfold cvB at hc;obtain⟨rfl,rfl,rfl,hlf,hno⟩:=hc;obtain⟨n1,n2⟩:=vV hno;obtain⟨hB,hn,hv⟩:=h;refine⟨by rw[<-n1];exact hB,hn,?_⟩;rcases hv with⟨hv,hr⟩|⟨k,cap,cur,rfl,e1,e2,e3,e4,e5,e6⟩
   ·refine .inl ⟨hv,?_⟩;rw[hr] at n1;exact GF n1.symm
   ·refine .inr ⟨k,cap,cur,e,fun _ _ _=>False,rfl,e1,JQ,e3,e4,fun row hrow=>?_,fun _ _ _ h=>h.elim,fun _ _ _ _ _ h=>h.elim,fun i j row t c q1 q2 q3=>⟨fun _=>?_,fun _ _ q=>by cases q⟩⟩
    ·obtain⟨i,hi⟩:=Gv.1 hrow;obtain⟨r0,q1,q2,_⟩:=n2 i row hi;rw[<-q2];exact e5 r0 (i3 q1)
    ·obtain⟨r0,q4,q5,q6⟩:=n2 i row q1;obtain⟨t0,q7,q8⟩:=q6 j t q2;obtain⟨c',c1,c2⟩:=fP e5 e6 q4 q7;rw[q3] at c1;cases c1;obtain⟨x,rfl⟩:=hlf r0 (i3 q4) t0 (i3 q7);cases c2 with
     |v hx=>exact(fw.v hx).nl q8
  |vec e' n' B' rows'=>
   unfold cvB at hc;obtain⟨rfl,rfl,rfl,rfl⟩:=hc;obtain⟨hB,hn,hv⟩:=h;refine⟨hB,hn,?_⟩;rcases hv with hv|⟨k,cap,cur,rfl,e1,e2,e3,e4,e5,e6⟩
   ·exact .inl hv
   ·exact .inr ⟨k,cap,cur,rfl,e1,e2,e3,e4,e5,fun i t hi=>by obtain⟨c,c1,c2⟩:=e6 i t hi;exact⟨c,c1,c2.mono fun b hb=>⟨hs.ok hb,rfl⟩⟩⟩
 |own n B rows ln=>
  cases b' with
  |own n' B' rows' ln'=>
   unfold cvB at hc;obtain⟨rfl,rfl,hlk,_,hno⟩:=hc;obtain⟨n1,n2⟩:=vV hno;obtain⟨hB,hn,hv⟩:=h;refine⟨by rw[<-n1];exact hB,hn,?_⟩;rcases hv with⟨hv,hr⟩|⟨k,cap,cur,e,Fs,rfl,e1,e2,e3,e4,e5,e6,e7,e8⟩
   ·refine .inl ⟨hv,?_⟩;rw[hr] at n1;exact GF n1.symm
   ·refine .inr ⟨k,cap,cur,e,Fs,rfl,e1,JQ,e3,e4,fun row hrow=>?_,e6,e7,fun i j row t c q1 q2 q3=>⟨fun hno=>?_,fun h' len q=>?_⟩⟩
    ·obtain⟨i,hi⟩:=Gv.1 hrow;obtain⟨r0,q1,q2,_⟩:=n2 i row hi;rw[<-q2];exact e5 r0 (i3 q1)
    ·obtain⟨r0,q4,q5,q6⟩:=n2 i row q1;obtain⟨t0,q7,q8⟩:=q6 j t q2;exact((e8 i j r0 t0 c q4 q7 q3).1 ((pd hlk i j).1 hno)).nl q8
    ·obtain⟨r0,q4,q5,q6⟩:=n2 i row q1;obtain⟨t0,q7,q8⟩:=q6 j t q2;obtain⟨h0,z1,z2⟩:=(pd hlk i j).2 h' len q;exact fF hs hm ((e8 i j r0 t0 c q4 q7 q3).2 h0 len z2) (by unfold cv;exact⟨z1,rfl⟩)
  |_=>unfold cvB at hc;exact hc.elim
theorem n9{l:List Nat}(h:l.Nodup){i j k:Nat}(hi:l[i]?=some k)(hj:l[j]?=some k):i=j:=by
 have h1:=(a9.1 hi);have h2:=(a9.1 hj);obtain⟨a1,a2⟩:=h1;obtain⟨b1,b2⟩:=h2;have hp:=Iy.1 h;rcases IS i j with q|q|q
 ·exact absurd (a2.trans b2.symm) (hp i j a1 b1 q)
 ·exact q
 ·exact absurd (b2.trans a2.symm) (hp j i b1 a1 q)
theorem ui(hs:eB g w ρ S X)(hm:MSt g w m)(hρ:ρ.Nodup)(hX:∀b,X b->b<w.heap.size)(hXl:∀(i h:Nat)(b:Nat),ρ[i]?=some h->cd g h b->¬ X b){m':Mem}(hc:cvM m m' ρ nl S):MSt (gsub g ρ nl X) w m':=by
 refine⟨fun i b' hb'=>?_,fun i j b e1 e2=>?_,fun i b e1=>?_,hX,fun i b e1=>?_,fun b Q hq=>⟨⟨(hm.gl b Q hq).1.1,fun i ho=>by obtain⟨h,_,e2⟩:=ci ho;exact(hm.gl b Q hq).1.2 h e2⟩,(hm.gl b Q hq).2⟩⟩
 ·rcases hc i b' hb' with⟨h,b,q1,q2,q3⟩|⟨q1,q2,q4⟩
  ·obtain⟨l,e1,e2⟩:=hm.blk h b q2;rw[EK q1];exact⟨l,(cf q1).trans e1,DH hs hm e2 q3⟩
  ·exact⟨.nil,by simp[gsub,q1,q2],y3 q4⟩
 ·obtain⟨h,q1,q2⟩:=ci e1;obtain⟨h',q3,q4⟩:=ci e2;have:=hm.inj h h' b q2 q4;subst this;exact n9 hρ q1 q3
 ·obtain⟨h,q1,q2⟩:=ci e1;exact hm.lt h b q2
 ·obtain⟨h,q1,q2⟩:=ci e1;exact hXl i h b q1 q2
end
inductive AE where
 |ret (a:AV)
 |pan (a:AV)
def AE.is(g:Gh)(w:World):AE->Ending->Prop
 | .ret a,.returned v=>Rep g w v a
 | .pan a,.panicked ch=>∃v,ch=[{ v,recovered:=false }]/\Rep g w v a
 |_,_=>False
def ofL(l:List Blk):Mem:=fun h=>l[h]?
def km(l:List (Option Blk)):Mem:=fun h=>(l[h]?).join
def iE(g:Gh)(k:Nat):Prop:=∀h,k<=h->∀l,g h≠.live l
def Callable(P:Program)(f:Nat):Prop:=∀(args:Array Value)(w:World),(callFunc f args).run P w=.ok (.enter f args) w
structure Ctr(P:Program)(f:Nat)(args:List AV)(bin:List Blk)(res:AE)(bout:List (Option Blk)):Prop where
 callable:Callable P f
 run:∀(g:Gh)(w:World)(vs:Array Value),(∀h,bin.length<=h->g h=.un)->MSt g w (ofL bin)->vs.size=args.length->(∀(i:Nat)(v:Value)(a:AV),vs[i]?=some v->args[i]?=some a->Rep g w v a) ->
  Calls P f vs w fun e w'=>∃g',Grow g w g' w'/\MSt g' w' (km bout)/\iE g' bout.length/\res.is g' w' e
abbrev QE:=AE->List (Option Blk)->Prop
structure cp(P:Program)(f:Nat)(args:List AV)(bin:List Blk)(QQ:QE):Prop where
 callable:Callable P f
 run:∀(g:Gh)(w:World)(vs:Array Value),(∀h,bin.length<=h->g h=.un)->MSt g w (ofL bin)->vs.size=args.length->(∀(i:Nat)(v:Value)(a:AV),vs[i]?=some v->args[i]?=some a->Rep g w v a) ->
  Calls P f vs w fun e w'=>∃res bout,QQ res bout/\∃g',Grow g w g' w'/\MSt g' w' (km bout)/\iE g' bout.length/\res.is g' w' e
theorem cp.one{P:Program}{f:Nat}{args:List AV}{bin:List Blk}{res:AE}{bout:List (Option Blk)}(h:cp P f args bin fun r b=>r=res/\b=bout):Ctr P f args bin res bout:=
 ⟨h.callable,fun g w vs h1 h2 h3 h4=>(h.run g w vs h1 h2 h3 h4).mono fun e w' ⟨_,_,⟨rfl,rfl⟩,q⟩=>q⟩
theorem Ctr.toE{P:Program}{f:Nat}{args:List AV}{bin:List Blk}{res:AE}{bout:List (Option Blk)}{QQ:QE}(h:Ctr P f args bin res bout)(hq:QQ res bout):cp P f args bin QQ:=
 ⟨h.callable,fun g w vs h1 h2 h3 h4=>(h.run g w vs h1 h2 h3 h4).mono fun e w' q=>⟨_,_,hq,q⟩⟩
theorem cp.mono{P:Program}{f:Nat}{args:List AV}{bin:List Blk}{QQ QQ':QE}(h:cp P f args bin QQ)(hq:∀r b,QQ r b->QQ' r b):cp P f args bin QQ':=
 ⟨h.callable,fun g w vs h1 h2 h3 h4=>(h.run g w vs h1 h2 h3 h4).mono fun e w' ⟨r,b,q0,q⟩=>⟨r,b,hq r b q0,q⟩⟩
def tJ(rows:List (List Tr))(i j:Nat)(t:Tr):List (List Tr):=rows.set i ((rows[i]?.getD []).set j t)
def D7(h:Nat)(m:Mem)(K:Mem->Prop):Prop:=match m h with
 |some (.own n B rows (((i,j),(c,len))::ln))=>match m c with
  |some (.own n2 B2 rows2 [])=>Nat.beq h c=false/\lnk ln i j=none/\len<=rows2.length/\K (bL m [(h,some (.own n B (tJ rows i j (.lst n2 B2 (rows2.take len))) ln)),(c,none)])
  |some (.vec _ n2 B2 rows2)=>Nat.beq h c=false/\lnk ln i j=none/\len<=rows2.length/\ll rows2/\K (bL m [(h,some (.own n B (tJ rows i j (.lst n2 B2 (rows2.take len))) ln)),(c,none)])
  |_=>False
 |_=>False
def gF:List Nat->Mem->(Mem->Prop)->Prop
 |[],m,K=>K m
 |h::r,m,K=>D7 h m fun m=>gF r m K
section
variable {g:Gh} {w:World} {m:Mem} {h c:Nat}
theorem tB{child:Blk}{n2 B2 len:Nat}{rows2:List (List Tr)}{v:Value}(hm:MSt g w m)(hc:m c=some child)(hch:child=.own n2 B2 rows2 []\/∃e,child=.vec e n2 B2 rows2/\ll rows2)(hle:len<=rows2.length)(hr:Rep g w v (.sl c len)):
  fw w (cd g c) v (.lst n2 B2 (rows2.take len)):=by
 obtain⟨l,g1,g2⟩:=hm.blk c child hc;have hrow:∀ {i:Nat} {row:List Tr},(rows2.take len)[i]?=some row->rows2[i]?=some row:=fun{i row} h=>by
  rw[Ba] at h;split at h;·exact h
  ·cases h
 have hnil:∀ {v},l=.nil->Rep g w v (.sl c len)->fw w (cd g c) v (.lst n2 B2 (rows2.take len)):=fun{v} e hr=>by
  subst e;rcases hr.sl_inv g1 with⟨b,cap,e0,_,_⟩|⟨_,rfl,rfl⟩
  ·cases e0
  ·exact .nil
 have hlen:(rows2.take len).length=len:=by rw[DK];omega
 rcases hch with rfl|⟨e0,rfl,hlf⟩
 ·obtain⟨hB,hn,⟨e,_⟩|⟨b,cap,cur,e,Fs,rfl,e1,e2,e3,e4,e5,e6,e7,e8⟩⟩:=g2;·exact hnil e hr
  rcases hr.sl_inv g1 with⟨b',cap',q0,q1,rfl⟩|⟨q0,_,_⟩
  ·cases q0;have:=fw.lst (w:=w) (F:=cd g c) (b:=b) (cap:=cap) (n:=n2) (B:=B2) (e:=e) (rows:=rows2.take len) (cur:=cur) Fs (by rw[hlen];exact GB (Eb _ hle) hB) hn e1 JQ e3 e4 (fun row hr=>e5 row (G2 hr)) (.root g1 rfl)
    (fun i j x q=>⟨⟨_,g1,.inr (e6 i j x q).1⟩,(e6 i j x q).2⟩) e7 (fun i j row t x q1 q2 q3=>(e8 i j row t x (hrow q1) q2 q3).1 rfl)
   rw[hlen] at this;exact this
  ·cases q0
 ·obtain⟨hB,hn,⟨e,_⟩|⟨b,cap,cur,rfl,e1,e2,e3,e4,e5,e6⟩⟩:=g2;·exact hnil e hr
  rcases hr.sl_inv g1 with⟨b',cap',q0,q1,rfl⟩|⟨q0,_,_⟩
  ·cases q0;have:=fw.lst (w:=w) (F:=cd g c) (b:=b) (cap:=cap) (n:=n2) (B:=B2) (e:=e0) (rows:=rows2.take len) (cur:=cur) (fun _ _ _=>False) (by rw[hlen];exact GB (Eb _ hle) hB) hn e1 JQ e3 e4 (fun row hr=>e5 row (G2 hr)) (.root g1 rfl)
    (fun i j x q=>q.elim) (fun _ _ _ _ _ q=>q.elim) (fun i j row t x q1 q2 q3=>by
     obtain⟨y,c1,c2⟩:=fP e5 e6 (hrow q1) q2;rw[q3] at c1;cases c1;obtain⟨z,rfl⟩:=hlf row (i3 (hrow q1)) t (i3 q2);cases c2 with
     |v hx=>exact .v hx)
   rw[hlen] at this;exact this
  ·cases q0
theorem zV{n B i j len n2 B2:Nat}{rows rows2:List (List Tr)}{ln:List ((Nat×Nat)×(Nat×Nat))}{child:Blk}(hm:MSt g w m)(hp:m h=some (.own n B rows (((i,j),(c,len))::ln)))(hc:m c=some child)
  (hch:child=.own n2 B2 rows2 []\/∃e,child=.vec e n2 B2 rows2/\ll rows2) (hne:h≠c) (hln:lnk ln i j=none) (hle:len<=rows2.length) :
  MSt (gpack g h c) w (bL m [(h,some (.own n B (tJ rows i j (.lst n2 B2 (rows2.take len))) ln)),(c,none)])/\Grow g w (gpack g h c) w:=by
 obtain⟨lc,gc,_⟩:=hm.blk c child hc;have hG:Grow g w (gpack g h c) w:=jj gc;refine⟨⟨fun k b hb=>?_,fun k k' b e1 e2=>?_,fun k b e1=>?_,hm.xlt,fun k b e1=>?_,hm.gl.grow hG⟩,hG⟩
 ·by_cases e:k=h
  ·subst e;have:b=.own n B (tJ rows i j (.lst n2 B2 (rows2.take len))) ln:=by simpa[bL,lk] using hb.symm
   subst this;obtain⟨l,g1,hB,hn,hv⟩:=hm.blk k _ hp;refine⟨l,(cU hne).trans g1,by simpa[tJ] using hB,hn,?_⟩;rcases hv with⟨e,hv⟩|⟨b,cap,cur,e,Fs,rfl,g3,g4,g5,g6,g7,g8,g9,g10⟩
   ·exact .inl ⟨e,by simp[tJ,hv]⟩
   refine .inr ⟨b,cap,cur,e,fun i' j' x=>if i'=i/\j'=j then cd g c x else Fs i' j' x,rfl,g3,by simpa[tJ] using g4,g5,g6,fun row hr=>?_,fun i' j' x q=>?_,fun a1 a2 a3 a4 x q1 q2=>?_,fun i' j' row t v q1 q2 q3=>?_⟩
   ·unfold tJ at hr;rcases HM hr with hr'|hr'
    ·exact g7 row hr'
    ·by_cases hi:i<rows.length;·rw[hr',G0,ab hi];exact g7 _ (List.getElem_mem hi)
     ·rw[List.set_eq_of_length_le JQ] at hr;exact g7 row hr
   ·by_cases hij:i'=i/\j'=j
    ·simp only[Gw hij] at q;exact⟨.inr ⟨rfl,q⟩,fun e=>hne (hm.inj k c x (by rw[e];exact .root g1 rfl) q)⟩
    ·simp only[GN hij] at q;exact⟨.inl (g8 i' j' x q).1,(g8 i' j' x q).2⟩
   ·have apart:∀ {a b},Fs a b x->¬ cd g c x:=fun{a b} q q'=>hne (hm.inj k c x ⟨_,g1,.inr (g8 a b x q).1⟩ q');by_cases h1:a1=i/\a2=j<;>by_cases h2:a3=i/\a4=j;·omega
    ·simp only[Gw h1] at q1;simp only[GN h2] at q2;exact absurd q1 (apart q2)
    ·simp only[GN h1] at q1;simp only[Gw h2] at q2;exact absurd q2 (apart q1)
    ·simp only[GN h1] at q1;simp only[GN h2] at q2;exact g9 a1 a2 a3 a4 x q1 q2
   ·have hold:∀ {row0 t0},rows[i']?=some row0->row0[j']?=some t0->¬ (i=i'/\j=j')->(lnk ln i' j'=none->fw w (if i'=i/\j'=j then cd g c else Fs i' j') v t0)/\∀h len,lnk ln i' j'=some (h,len)->Rep (gpack g k c) w v (.sl h len):=fun{row0 t0} a1 a2 a3=>by
     have:=g10 i' j' row0 t0 v a1 a2 q3;rw[bm,GN a3] at this;rw[GN JQ];exact⟨this.1,fun h len q=>(this.2 h len q).grow hG⟩
    have hF:(fun x=>if i'=i/\j'=j then cd g c x else Fs i' j' x)=if i'=i/\j'=j then cd g c else Fs i' j':=by funext x;split<;>rfl
    show(lnk ln i' j'=none->fw w (fun x=>if i'=i/\j'=j then cd g c x else Fs i' j' x) v t)/\_;rw[hF];unfold tJ at q1;by_cases hi:i'=i
    ·subst hi;have hlt:i'<rows.length:=by have:=(a9.1 q1).1;simpa using this
     rw[GD hlt,ab hlt] at q1;have q1:=vx q1;rw[Hs] at q1;subst q1;by_cases hj:j'=j
     ·subst hj;have hjl:j'<rows[i'].length:=by have:=(a9.1 q2).1;simpa using this
      rw[GD hjl] at q2;cases q2;rw[Gw ⟨rfl,rfl⟩,hln];refine⟨fun _=>?_,fun _ _ q=>(by cases q)⟩;have:=(g10 i' j' rows[i'] rows[i'][j'] v (ab hlt) (ab hjl) q3).2 c len (by rw[bm,Gw ⟨rfl,rfl⟩]);exact tB hm hc hch hle this
     ·rw[GW (fun q=>hj q.symm)] at q2;exact hold (ab hlt) q2 JQ
    ·rw[GW (fun q=>hi q.symm)] at q1;exact hold q1 q2 JQ
  ·have e':Nat.beq h k=false:=bA fun q=>e q.symm;by_cases e2:k=c;·subst e2;simp[bL,lk,e'] at hb
   ·have e3:Nat.beq c k=false:=bA fun q=>e2 q.symm;have hb':m k=some b:=by simpa[bL,lk,e',e3] using hb
    obtain⟨l1,q1,q2⟩:=hm.blk k b hb';exact⟨l1,(cU e2).trans q1,by rw[DI e];exact q2.grow hG fun _ _=>rfl⟩
 ·obtain⟨a1,a2⟩:=gpack_owns e1;obtain⟨b1,b2⟩:=gpack_owns e2;rcases a2 with a2|⟨rfl,a2⟩<;>rcases b2 with b2|⟨rfl,b2⟩
  ·exact hm.inj k k' b a2 b2
  ·exact absurd (hm.inj k c b a2 b2) a1
  ·exact absurd (hm.inj k' c b b2 a2) b1
  ·rfl
 ·rcases(gpack_owns e1).2 with q|⟨_,q⟩
  ·exact hm.lt k b q
  ·exact hm.lt c b q
 ·rcases(gpack_owns e1).2 with q|⟨_,q⟩
  ·exact hm.xl k b q
  ·exact hm.xl c b q
theorem uD{K:Mem->Prop}:∀ {hs:List Nat} {g:Gh} {m:Mem},gF hs m K->MSt g w m->∃g' m',K m'/\MSt g' w m'/\Grow g w g' w/\∀k,g k=.un->g' k=.un:=by
 intro hs;induction hs with
 |nil=>intro g m h hm;exact⟨g,m,h,hm,Grow.refl _ _,fun _ h=>h⟩
 |cons p r ih=>
  intro g m h hm;unfold gF D7 at h;have step:∀ {n B i j len n2 B2 c:Nat} {rows rows2:List (List Tr)} {ln:List ((Nat×Nat)×(Nat×Nat))} {child:Blk},m p=some (.own n B rows (((i,j),(c,len))::ln))->m c=some child->(child=.own n2 B2 rows2 []\/∃e,child=.vec e n2 B2 rows2/\ll rows2) ->
    Nat.beq p c=false->lnk ln i j=none->len<=rows2.length->gF r (bL m [(p,some (.own n B (tJ rows i j (.lst n2 B2 (rows2.take len))) ln)),(c,none)]) K->∃g' m',K m'/\MSt g' w m'/\Grow g w g' w/\∀k,g k=.un->g' k=.un:=by
   intro n B i j len n2 B2 c rows rows2 ln child e1 e2 e3 e4 e5 e6 e7;obtain⟨lc,gc,_⟩:=hm.blk c child e2;obtain⟨q1,q2⟩:=zV hm e1 e2 e3 (fun e=>by rw[e,HC] at e4;cases e4) e5 e6;obtain⟨g',m',r1,r2,r3,r4⟩:=ih e7 q1;refine⟨g',m',r1,r2,q2.trans r3,fun k hk=>r4 k ?_⟩;have:k≠c:=fun e=>by rw[e,gc] at hk;cases hk
   rw[cU this];exact hk
  split at h;case h_2=>exact h.elim
  rename_i n B rows i j c len ln e1;split at h;case h_3=>exact h.elim
  ·rename_i n2 B2 rows2 e2;obtain⟨a1,a2,a3,a4⟩:=h;exact step e1 e2 JZ a1 a2 a3 a4
  ·rename_i e0 n2 B2 rows2 e2;obtain⟨a1,a2,a3,a5,a4⟩:=h;exact step e1 e2 (.inr ⟨e0,rfl,a5⟩) a1 a2 a3 a4
end
def idx:List Nat->Nat->Option Nat
 |[],_=>none
 |k::r,h=>bif Nat.beq k h then some 0 else match idx r h with|some i=>some (i+1)|none=>none
theorem cP{h:Nat}:∀ {ρ:List Nat} {i:Nat},idx ρ h=some i->ρ[i]?=some h:=by
 intro ρ;induction ρ with
 |nil=>intro i e;cases e
 |cons k r ih=>
  intro i e;unfold idx at e;cases hb:Nat.beq k h with
  |true=>rw[hb] at e;cases e;rw[xx hb];rfl
  |false=>
   rw[hb,lh] at e;split at e;·rename_i j ej;cases e;exact ih ej
   ·cases e
theorem zq{h:Nat}:∀ {ρ:List Nat},idx ρ h=none->h∉ρ:=by
 intro ρ;induction ρ with
 |nil=>intro _;simp
 |cons k r ih=>
  intro e;unfold idx at e;cases hb:Nat.beq k h with
  |true=>rw[hb] at e;cases e
  |false=>
   rw[hb,lh] at e;split at e;·cases e
   ·rename_i ej;simp only[F5,not_or];exact⟨fun q=>by(rw[q,HC] at hb;cases hb),ih ej⟩
theorem qy{ρ:List Nat}(hn:ρ.Nodup){h i:Nat}(hi:ρ[i]?=some h):idx ρ h=some i:=by
 cases e:idx ρ h with
 |none=>exact absurd (i3 hi) (zq e)
 |some j=>rw[n9 hn (cP e) hi]
mutual
def AV.out(ρ:List Nat):AV->AV
 | .und=>.und
 | .tr t=>.tr t
 | .agg l=>.agg (pC ρ l)
 | .tup l=>.tup (pC ρ l)
 | .ptr h off=>.ptr (ρ.getD h 0) off
 | .vpt h n i off=>.vpt (ρ.getD h 0) n i off
 | .sl h len=>.sl (ρ.getD h 0) len
 | .ept cs=>.ept cs
 | .fn f l=>.fn f (pC ρ l)
 | .ifc t a=>.ifc t (a.out ρ)
 | .mp h=>.mp (ρ.getD h 0)
 | .ful n B rows=>.ful n B rows
def pC(ρ:List Nat):List AV->List AV
 |[]=>[]
 |a::l=>a.out ρ::pC ρ l
end
mutual
def AV.lowH(k:Nat):AV->Bool
 | .und|.tr _|.ept _|.ful _ _ _=>true
 | .agg l|.tup l|.fn _ l=>ep k l
 | .ptr h _|.vpt h _ _ _|.sl h _|.mp h=>Nat.blt h k
 | .ifc _ a=>a.lowH k
def ep(k:Nat):List AV->Bool
 |[]=>true
 |a::l=>a.lowH k&&ep k l
end
mutual
def AV.scal:AV->Bool
 | .und|.tr (.v _)=>true
 | .agg l|.tup l=>yU l
 | .ifc _ a=>a.scal
 |_=>false
def yU:List AV->Bool
 |[]=>true
 |a::l=>a.scal&&yU l
end
mutual
def AV.nof:AV->Bool
 | .und|.tr (.v _)|.ptr _ _|.vpt _ _ _ _|.sl _ _|.mp _=>true
 | .agg l|.tup l=>DQ l
 | .ifc _ a=>a.nof
 |_=>false
def DQ:List AV->Bool
 |[]=>true
 |a::l=>a.nof&&DQ l
end
def J1:Option Blk->Bool
 |some (.cells _ l)=>DQ l
 |some (.own _ _ _ _)=>true
 |none=>true
 |_=>false
def u6(ρ:List Nat)(ln:List ((Nat×Nat)×(Nat×Nat))):List ((Nat×Nat)×(Nat×Nat)):=ln.map fun p=>(p.1,(ρ.getD p.2.1 0,p.2.2))
theorem kF{ρ:List Nat}{ln:List ((Nat×Nat)×(Nat×Nat))}{i j:Nat}(h:lnk (u6 ρ ln) i j=none):lnk ln i j=none:=by
 induction ln with
 |nil=>rfl
 |cons p r ih=>
  obtain⟨⟨a,b⟩,x,l⟩:=p;change(bif Nat.beq b j&&Nat.beq a i then some (ρ.getD x 0,l) else lnk (u6 ρ r) i j)=none at h;show(bif Nat.beq b j&&Nat.beq a i then some (x,l) else lnk r i j)=none;cases hc:(Nat.beq b j&&Nat.beq a i) with
  |true=>rw[hc] at h;cases h
  |false=>rw[hc] at h;exact ih h
theorem lj{ρ:List Nat}{k:Nat}{ln:List ((Nat×Nat)×(Nat×Nat))}{i j h len:Nat}(hl:(ln.all fun p=>Nat.blt p.2.1 k)=true)(hq:lnk (u6 ρ ln) i j=some (h,len)):∃h0,lnk ln i j=some (h0,len)/\h=ρ.getD h0 0/\Nat.blt h0 k=true:=by
 induction ln with
 |nil=>cases hq
 |cons p r ih=>
  obtain⟨⟨a,b⟩,x,l⟩:=p;rw[Ik,t4] at hl;change(bif Nat.beq b j&&Nat.beq a i then some (ρ.getD x 0,l) else lnk (u6 ρ r) i j)=some (h,len) at hq;show∃h0,(bif Nat.beq b j&&Nat.beq a i then some (x,l) else lnk r i j)=some (h0,len)/\_;cases hc:(Nat.beq b j&&Nat.beq a i) with
  |true=>rw[hc] at hq;cases hq;exact⟨x,rfl,rfl,hl.1⟩
  |false=>rw[hc] at hq;exact ih hl.2 hq
def x4(ρ:List Nat)(es:List (MK×AV)):List (MK×AV):=es.map fun p=>(p.1,p.2.out ρ)
def Blk.out(ρ:List Nat):Blk->Blk
 | .mpa kd es=>.mpa kd (x4 ρ es)
 | .cells t l=>.cells t (pC ρ l)
 | .own n B rows ln=>.own n B rows (u6 ρ ln)
 | .itr h n s=>.itr (ρ.getD h 0) n s
 | .fns e B h l=>.fns e B (ρ.getD h 0) l
 |b=>b
def Blk.lowH(k:Nat):Blk->Bool
 | .cells _ l=>ep k l
 | .vec .. | .map .. =>true
 | .mpa _ es=>es.all fun p=>p.2.lowH k
 | .own _ _ _ ln=>ln.all fun p=>Nat.blt p.2.1 k
 | .itr h _ _=>Nat.blt h k
 | .fns _ _ h _=>Nat.blt h k
def cF(k:Nat):List (Option Blk)->Bool
 |[]=>true
 |none::r=>cF k r
 |some b::r=>b.lowH k&&cF k r
def upOf(ρ:List Nat):List Nat->List (Option Blk)->List (Nat×Option Blk)
 |h::hs,b::bs=>(h,match b with|some b=>some (b.out ρ)|none=>none)::upOf ρ hs bs
 |_,_=>[]
def sU(sn:List Nat):List (Nat×Option Blk):=sn.map fun h=>(h,none)
def rdOf(m:Mem):List Nat->List (Nat×Blk)
 |[]=>[]
 |h::r=>match m h with|some b=>(h,b)::rdOf m r|none=>rdOf m r
def dA(ρ sn:List Nat)(h:Nat):Bool:=has sn h && !has ρ h
theorem outL_length(ρ:List Nat):∀l,(pC ρ l).length=l.length
 |[]=>rfl
 |a::l=>by unfold pC;simp[outL_length ρ l]
theorem bP(ρ:List Nat):∀(l:List AV)(i:Nat),(pC ρ l)[i]?=(l[i]?).map (AV.out ρ)
 |[],i=>by simp[pC]
 |a::l,0=>by simp[pC]
 |a::l,i+1=>by simpa[pC] using bP ρ l i
theorem belowL_get{k:Nat}:∀ {l:List AV},ep k l=true->∀ {i:Nat} {a:AV},l[i]?=some a->a.lowH k=true
 |[],_,i,a,hi=>by simp at hi
 |b::l,h,i,a,hi=>by
  unfold ep at h;simp only[t4] at h;cases i with
  |zero=>simp at hi;subst hi;exact h.1
  |succ i=>exact belowL_get h.2 (by simpa using hi)
theorem jx:∀ {l:List AV},yU l=true->∀ {i:Nat} {a:AV},l[i]?=some a->a.scal=true
 |[],_,i,a,hi=>by simp at hi
 |b::l,h,i,a,hi=>by
  unfold yU at h;simp only[t4] at h;cases i with
  |zero=>simp at hi;subst hi;exact h.1
  |succ i=>exact jx h.2 (by simpa using hi)
theorem mG:∀ {l:List AV},DQ l=true->∀ {i:Nat} {a:AV},l[i]?=some a->a.nof=true
 |[],_,i,a,hi=>by simp at hi
 |b::l,h,i,a,hi=>by
  unfold DQ at h;simp only[t4] at h;cases i with
  |zero=>simp at hi;subst hi;exact h.1
  |succ i=>exact mG h.2 (by simpa using hi)
theorem qG{k h:Nat}{p:Nat×List Tr}(hb:Nat.blt h k=true):(fnAV h p).lowH k=true:=by unfold fnAV;simp only[AV.lowH,ep,hb,Bool.and_self]
theorem iY(ρ:List Nat)(a:AV):(a.out ρ).one=a.one:=by cases a<;>rfl
section
variable {g gn g':Gh} {w w':World} {ρ:List Nat} {k:Nat}
theorem Rep.out(hk:k=ρ.length)(hok:∀b,okB g' w' b->okB gn w' b)(hh:∀i h,ρ[i]?=some h->gn h=g' i){x:Value}{a:AV}(hr:Rep g' w' x a):a.lowH k=true->Rep gn w' x (a.out ρ):=by
 have hdl:∀ {i:Nat} {q:HS},Nat.blt i k=true->g' i=q->gn (ρ.getD i 0)=q:=fun{i q} hb hq=>by
  have hlt:i<ρ.length:=by have:=oo hb;omega
  rw[<-hq];refine hh i _ ?_;simp[hlt]
 have cells:∀ {cs:Array Value} {l:List AV},(∀(i:Nat)(c:Value)(a:AV),cs[i]?=some c->l[i]?=some a->a.lowH k=true->Rep gn w' c (a.out ρ))->ep k l=true ->
   ∀(i:Nat)(c:Value)(a:AV),cs[i]?=some c->(pC ρ l)[i]?=some a->Rep gn w' c a:=fun ih hb i c a e1 e2=>by
  rw[bP,z9] at e2;obtain⟨b,q1,rfl⟩:=e2;exact ih i c b e1 q1 (belowL_get hb q1)
 induction hr with
 |und=>intro _;exact .und
 |tr h=>intro _;exact .tr (h.mono fun b hb=>⟨hok b hb,rfl⟩)
 |agg h1 h2 h3 ih=>
  intro hb;refine .agg (by rw[outL_length];exact h1) (fun a ha=>?_) (cells ih hb);obtain⟨i,hi⟩:=Gv.1 ha;rw[bP,z9] at hi;obtain⟨b,q1,rfl⟩:=hi;rw[iY];exact h2 b (i3 q1)
 |tup h1 h3 ih=>intro hb;exact .tup (by rw[outL_length];exact h1) (cells ih hb)
 |ptrD h1 h2=>intro hb;exact .ptrD (hdl hb h1) h2
 |ptr h1=>intro hb;exact .ptr (hdl hb h1)
 |vptD h1 h2=>intro hb;exact .vptD (hdl hb h1) h2
 |vpt h1=>intro hb;exact .vpt (hdl hb h1)
 |slD h1 h2=>intro hb;exact .slD (hdl hb h1) h2
 |sl h1 h2=>intro hb;exact .sl (hdl hb h1) h2
 |slN h1=>intro hb;exact .slN (hdl hb h1)
 |ept f h1 h2 h3=>intro _;exact .ept f (hok _ h1) h2 fun j t hj=>(h3 j t hj).mono fun b hb=>⟨hok b hb,rfl⟩
 |ful h1 h2=>intro _;exact .ful (h1.mono fun b hb=>⟨hok b hb,rfl⟩) h2
 |fn h1 h3 ih=>intro hb;exact .fn (by rw[outL_length];exact h1) (cells ih hb)
 |ifc ht h1 ih=>intro hb;exact .ifc ht (ih hb)
 |bnd hf h1 ih=>intro hb;exact .bnd hf (ih hb)
 |psl h1 ih=>intro hb;exact .psl (ih hb)
 |frz h1 h2 _ ih=>intro hb;exact .frz (hok _ h1) h2 (ih (belowL_get (l:=[_]) (i:=0) hb rfl))
 |win h1 h2 h3 ih=>intro hb;exact .win (ih hb) h2 h3
 |mpD h1 h2=>intro hb;exact .mpD (hdl hb h1) h2
 |mp h1=>intro hb;exact .mp (hdl hb h1)
theorem Rep.scal{x:Value}{a:AV}(hr:Rep g' w' x a):a.scal=true->Rep gn w x (a.out ρ):=by
 induction hr with
 |und=>intro _;exact .und
 |tr h=>
  intro hs;rename_i t;cases t with
  |v y=>cases h with|v hg=>exact .tr (.v hg)
  |lst=>cases hs
 |agg h1 h2 h3 ih=>
  intro hs;refine .agg (by rw[outL_length];exact h1) (fun a ha=>?_) fun i c a e1 e2=>?_
  ·obtain⟨i,hi⟩:=Gv.1 ha;rw[bP,z9] at hi;obtain⟨b,q1,rfl⟩:=hi;rw[iY];exact h2 b (i3 q1)
  ·rw[bP,z9] at e2;obtain⟨b,q1,rfl⟩:=e2;exact ih i c b e1 q1 (jx hs q1)
 |tup h1 h3 ih=>
  intro hs;refine .tup (by rw[outL_length];exact h1) fun i c a e1 e2=>?_;rw[bP,z9] at e2;obtain⟨b,q1,rfl⟩:=e2;exact ih i c b e1 q1 (jx hs q1)
 |ifc ht h1 ih=>intro hs;exact .ifc ht (ih hs)
 |bnd hf h1 ih=>intro hs;exact .bnd hf (ih hs)
 |psl h1 ih=>intro hs;exact .psl (ih hs)
 |win h1 h2 h3 ih=>intro hs;exact .win (ih hs) h2 h3
 |_=>intro hs;cases hs
theorem Rep.outF(hk:k=ρ.length)(hh:∀i h,ρ[i]?=some h->gn h=g' i){x:Value}{a:AV}(hr:Rep g' w' x a):a.lowH k=true->a.nof=true->Rep gn w' x (a.out ρ):=by
 have hdl:∀ {i:Nat} {q:HS},Nat.blt i k=true->g' i=q->gn (ρ.getD i 0)=q:=fun{i q} hb hq=>by
  have hlt:i<ρ.length:=by have:=oo hb;omega
  rw[<-hq];refine hh i _ ?_;simp[hlt]
 have cells:∀ {cs:Array Value} {l:List AV},(∀(i:Nat)(c:Value)(a:AV),cs[i]?=some c->l[i]?=some a->a.lowH k=true->a.nof=true->Rep gn w' c (a.out ρ))->ep k l=true->DQ l=true ->
   ∀(i:Nat)(c:Value)(a:AV),cs[i]?=some c->(pC ρ l)[i]?=some a->Rep gn w' c a:=fun ih hb hf i c a e1 e2=>by
  rw[bP,z9] at e2;obtain⟨b,q1,rfl⟩:=e2;exact ih i c b e1 q1 (belowL_get hb q1) (mG hf q1)
 induction hr with
 |und=>intro _ _;exact .und
 |tr h=>
  intro hb hf;rename_i t;cases t with
  |v y=>cases h with|v hg=>exact .tr (.v hg)
  |lst=>cases hf
 |agg h1 h2 h3 ih=>
  intro hb hf;refine .agg (by rw[outL_length];exact h1) (fun a ha=>?_) (cells ih hb hf);obtain⟨i,hi⟩:=Gv.1 ha;rw[bP,z9] at hi;obtain⟨b,q1,rfl⟩:=hi;rw[iY];exact h2 b (i3 q1)
 |tup h1 h3 ih=>intro hb hf;exact .tup (by rw[outL_length];exact h1) (cells ih hb hf)
 |ptrD h1 h2=>intro hb _;exact .ptrD (hdl hb h1) h2
 |ptr h1=>intro hb _;exact .ptr (hdl hb h1)
 |vptD h1 h2=>intro hb _;exact .vptD (hdl hb h1) h2
 |vpt h1=>intro hb _;exact .vpt (hdl hb h1)
 |slD h1 h2=>intro hb _;exact .slD (hdl hb h1) h2
 |sl h1 h2=>intro hb _;exact .sl (hdl hb h1) h2
 |slN h1=>intro hb _;exact .slN (hdl hb h1)
 |ept f h1 h2 h3=>intro _ hf;cases hf
 |ful h1 h2=>intro _ hf;cases hf
 |fn h1 h3 ih=>intro _ hf;cases hf
 |ifc ht h1 ih=>intro hb hf;exact .ifc ht (ih hb hf)
 |bnd hf h1 ih=>intro hb hq;exact .bnd hf (ih hb hq)
 |psl h1 ih=>intro hb hf;exact .psl (ih hb hf)
 |frz h1 h2 _ ih=>intro _ hf;cases hf
 |win h1 h2 h3 ih=>intro hb hf;exact .win (ih hb hf) h2 h3
 |mpD h1 h2=>intro hb _;exact .mpD (hdl hb h1) h2
 |mp h1=>intro hb _;exact .mp (hdl hb h1)
theorem fE.outF(hk:k=ρ.length)(hh:∀i h,ρ[i]?=some h->gn h=g' i){l:Loc}{F:Nat->Prop}{b:Blk}(hr:fE g' w' l F b)(hb:b.lowH k=true)(hf:J1 (some b)=true):fE gn w' l F (b.out ρ):=by
 cases b with
 |cells t as=>
  obtain⟨j,cs,rfl,e,h1,h2,h3⟩:=hr;refine⟨j,cs,rfl,e,by rw[outL_length];exact h1,fun a ha=>?_,fun i c a e1 e2=>?_⟩
  ·obtain⟨i,hi⟩:=Gv.1 ha;rw[bP,z9] at hi;obtain⟨b,q1,rfl⟩:=hi;rw[iY];exact h2 b (i3 q1)
  ·rw[bP,z9] at e2;obtain⟨b,q1,rfl⟩:=e2;exact(h3 i c b e1 q1).outF hk hh (belowL_get hb q1) (mG hf q1)
 |vec e n B rows=>cases hf
 |map kd es=>cases hf
 |mpa kd es=>cases hf
 |itr h0 n s=>cases hf
 |fns e B h0 fs=>cases hf
 |own n B rows ln=>
  obtain⟨hB,hn,hv⟩:=hr;refine⟨hB,hn,?_⟩;rcases hv with hv|⟨j,cap,cur,e,Fs,rfl,e1,e2,e3,e4,e5,e6,e7,e8⟩
  ·exact .inl hv
  ·exact .inr ⟨j,cap,cur,e,Fs,rfl,e1,e2,e3,e4,e5,e6,e7,fun i j row t c q1 q2 q3=>⟨fun q=>(e8 i j row t c q1 q2 q3).1 (kF q),fun h' len q=>by obtain⟨h0,q4,rfl,q5⟩:=lj hb q;exact((e8 i j row t c q1 q2 q3).2 h0 len q4).outF hk hh q5 rfl⟩⟩
theorem fE.out(hk:k=ρ.length)(hok:∀b,okB g' w' b->okB gn w' b)(hh:∀i h,ρ[i]?=some h->gn h=g' i){l:Loc}{F:Nat->Prop}{b:Blk}(hr:fE g' w' l F b)(hb:b.lowH k=true):fE gn w' l F (b.out ρ):=by
 cases b with
 |cells t as=>
  obtain⟨j,cs,rfl,e,h1,h2,h3⟩:=hr;refine⟨j,cs,rfl,e,by rw[outL_length];exact h1,fun a ha=>?_,fun i c a e1 e2=>?_⟩
  ·obtain⟨i,hi⟩:=Gv.1 ha;rw[bP,z9] at hi;obtain⟨b,q1,rfl⟩:=hi;rw[iY];exact h2 b (i3 q1)
  ·rw[bP,z9] at e2;obtain⟨b,q1,rfl⟩:=e2;exact(h3 i c b e1 q1).out hk hok hh (belowL_get hb q1)
 |vec e n B rows=>
  obtain⟨hB,hn,hv⟩:=hr;refine⟨hB,hn,?_⟩;rcases hv with hv|⟨j,cap,cur,rfl,e1,e2,e3,e4,e5,e6⟩
  ·exact .inl hv
  ·exact .inr ⟨j,cap,cur,rfl,e1,e2,e3,e4,e5,fun i t hi=>by obtain⟨c,c1,c2⟩:=e6 i t hi;exact⟨c,c1,c2.mono fun b hb=>⟨hok b hb,rfl⟩⟩⟩
 |map kd es=>
  obtain⟨j,ents,clock,rfl,e1,e2,e3,e4⟩:=hr;exact⟨j,ents,clock,rfl,e1,e2,e3,fun i q t hi=>by obtain⟨en,c1,c2,c3⟩:=e4 i q t hi;exact⟨en,c1,c2,c3.mono fun b hb=>⟨hok b hb,rfl⟩⟩⟩
 |mpa kd es=>
  obtain⟨j,ents,clock,rfl,e1,e2,e3,e4⟩:=hr;refine⟨j,ents,clock,rfl,e1,by rw[x4,ad];exact e2,fun p hp=>?_,fun i q t hi=>?_⟩
  ·obtain⟨p',h1,rfl⟩:=GM.1 hp;exact e3 p' h1
  ·rw[x4,z5,z9] at hi;obtain⟨⟨q',a⟩,h1,h2⟩:=hi;cases h2;obtain⟨en,c1,c2,c3⟩:=e4 i q' a h1;exact⟨en,c1,c2,c3.out hk hok hh (GQ.1 hb (q',a) (i3 h1))⟩
 |itr h0 n s=>
  obtain⟨r,b,rfl,e1,e2⟩:=hr;exact⟨r,b,rfl,e1,e2.out hk hok hh (show(AV.mp h0).lowH k=true from hb)⟩
 |fns e B h0 fs=>
  obtain⟨hB,hv⟩:=hr;refine⟨hB,?_⟩;rcases hv with hv|⟨j,cap,cur,rfl,e1,e2,e3,e4,e5⟩
  ·exact .inl hv
  ·exact .inr ⟨j,cap,cur,rfl,e1,e2,e3,e4,fun i p hi=>by obtain⟨c,c1,c2⟩:=e5 i p hi;exact⟨c,c1,c2.out hk hok hh (qG hb)⟩⟩
 |own n B rows ln=>
  obtain⟨hB,hn,hv⟩:=hr;refine⟨hB,hn,?_⟩;rcases hv with hv|⟨j,cap,cur,e,Fs,rfl,e1,e2,e3,e4,e5,e6,e7,e8⟩
  ·exact .inl hv
  ·exact .inr ⟨j,cap,cur,e,Fs,rfl,e1,e2,e3,e4,e5,e6,e7,fun i j row t c q1 q2 q3=>⟨fun q=>(e8 i j row t c q1 q2 q3).1 (kF q),fun h' len q=>by obtain⟨h0,q4,rfl,q5⟩:=lj hb q;exact((e8 i j row t c q1 q2 q3).2 h0 len q4).out hk hok hh q5⟩⟩
end
theorem Di{ρ0:List Nat}{h:Nat}:∀ {ρ:List Nat} {bout:List (Option Blk)} (_:ρ.length=bout.length) {i:Nat},idx ρ h=some i->lk (upOf ρ0 ρ bout) h=some ((bout[i]?).join.map (Blk.out ρ0)):=by
 intro ρ;induction ρ with
 |nil=>intro bout _ i e;cases e
 |cons k r ih=>
  intro bout hl i e;cases bout with
  |nil=>simp at hl
  |cons b bs=>
   unfold idx at e;unfold upOf lk;cases hb:Nat.beq k h with
   |true=>rw[hb] at e;cases e;cases b<;>rfl
   |false=>
    rw[hb,lh] at e;split at e
    ·rename_i j ej;cases e;rw[lh,ih (by simpa using hl) ej];simp
    ·cases e
theorem CV{ρ0:List Nat}{h:Nat}:∀ {ρ:List Nat} {bout:List (Option Blk)},idx ρ h=none->lk (upOf ρ0 ρ bout) h=none:=by
 intro ρ;induction ρ with
 |nil=>intro bout _;unfold upOf;rfl
 |cons k r ih=>
  intro bout e;cases bout with
  |nil=>unfold upOf;rfl
  |cons b bs=>
   unfold idx at e;unfold upOf lk;cases hb:Nat.beq k h with
   |true=>rw[hb] at e;cases e
   |false=>
    rw[hb,lh] at e;split at e;·cases e
    ·rename_i ej;rw[lh];exact ih ej
theorem bZ{α:Type}(k:Nat)(x:α)(r:List (Nat×α))(h:Nat):lk ((k,x)::r) h=bif Nat.beq k h then some x else lk r h:=rfl
theorem ol{α:Type}(b:List (Nat×α))(h:Nat):∀(a:List (Nat×α)),lk (a++b) h=match lk a h with|some x=>some x|none=>lk b h:=by
 intro a;induction a with
 |nil=>rfl
 |cons p a ih=>
  obtain⟨k,x⟩:=p;rw[H8,bZ,bZ];cases Nat.beq k h with
  |true=>rfl
  |false=>exact ih
theorem yg(h:Nat):∀(sn:List Nat),lk (sU sn) h=if has sn h=true then some none else none:=by
 intro sn;induction sn with
 |nil=>rfl
 |cons k sn ih=>
  rw[show sU (k::sn)=(k,none)::sU sn from rfl,bZ,show has (k::sn) h=(Nat.beq k h||has sn h) from rfl];cases hb:Nat.beq k h with
  |true=>simp
  |false=>rw[lh,GU];exact ih
def AE.out(ρ:List Nat):AE->AE|.ret a=>.ret (a.out ρ)|.pan a=>.pan (a.out ρ)
def AE.lowH(k:Nat):AE->Bool|.ret a=>a.lowH k|.pan a=>a.lowH k
def AE.scal:AE->Bool|.ret a=>a.scal|.pan a=>a.scal
def AOk(a:AV):Prop:=∃g w v,Rep g w v a
abbrev EE:=AE->List (Nat×Blk)->List (Nat×Option Blk)->Prop
def AE.nof:AE->Bool|.ret a=>a.nof|.pan a=>a.nof
def keepS(ρ:List Nat)(res:AE)(bout:List (Option Blk)):Bool:=bif ρ.isEmpty&&res.scal then true else bout.all J1&&res.nof
def callUp(ρ sn:List Nat)(res:AE)(bout:List (Option Blk)):List (Nat×Option Blk):=upOf ρ ρ bout++match sn with
 |[]=>[]
 |k::sn=>bif keepS ρ res bout then[] else sU (k::sn)
theorem jD(ρ sn:List Nat)(res:AE)(bout:List (Option Blk)):callUp ρ sn res bout=upOf ρ ρ bout++bif keepS ρ res bout then[] else sU sn:=by
 unfold callUp;cases sn with
 |nil=>cases keepS ρ res bout<;>rfl
 |cons=>rfl
def dt:Nat->Nat->List Nat
 |_,0=>[]
 |nh,n+1=>nh::dt (nh+HMod) n
theorem eC:∀ {n a k:Nat},k∈dt a n->a<=k/\k % HMod=a % HMod
 |0,_,_,h=>by simp[dt] at h
 |n+1,a,k,h=>by
  simp only[dt,F5] at h;rcases h with rfl|h
  ·exact⟨t9 _,rfl⟩
  ·obtain⟨h1,h2⟩:=eC h;exact⟨JQ,by rw[h2,Nat.add_mod_right]⟩
theorem jp:∀(n a:Nat),(dt a n).length=n
 |0,_=>rfl
 |n+1,a=>by simp only[dt,E0,jp n]
theorem kl:∀(n a:Nat),(dt a n).Nodup
 |0,_=>by simp[dt]
 |n+1,a=>by simp only[dt,II];exact⟨fun h=>by have:=(eC h).1;unfold HMod at this;omega,kl n _⟩
structure rL(P:Program)(m:Mem)(nh:Nat)(f:Nat)(xs:List AV)(ρ ro sn:List Nat)(as:List AV)(bin:List Blk)(res:AE)(bout:List (Option Blk)):Prop where
 ctr:Ctr P f as bin res bout
 nodup:ρ.Nodup
 len:ρ.length=bin.length
 ext:ro=ρ++dt nh (ro.length - ρ.length)
 olen:bout.length=ro.length
 bok:cF ro.length bout=true
 args:cvL m ρ [] (dA ρ sn) xs as
 mem:cvM m (ofL bin) ρ [] (dA ρ sn)
 there:∀h∈ρ++sn,∃b,m h=some b
 low:res.lowH ro.length=true
structure dc(m:Mem)(nh:Nat)(xs:List AV)(ρ ro sn:List Nat)(as:List AV)(bin:List Blk)(res:AE)(bout:List (Option Blk)):Prop where
 nodup:ρ.Nodup
 len:ρ.length=bin.length
 ext:ro=ρ++dt nh (ro.length - ρ.length)
 olen:bout.length=ro.length
 bok:cF ro.length bout=true
 args:cvL m ρ [] (dA ρ sn) xs as
 mem:cvM m (ofL bin) ρ [] (dA ρ sn)
 there:∀h∈ρ++sn,∃b,m h=some b
 low:res.lowH ro.length=true
theorem rL.fit{P:Program}{m:Mem}{nh f:Nat}{xs:List AV}{ρ ro sn:List Nat}{as:List AV}{bin:List Blk}{res:AE}{bout:List (Option Blk)}(h:rL P m nh f xs ρ ro sn as bin res bout):dc m nh xs ρ ro sn as bin res bout:=
 ⟨h.nodup,h.len,h.ext,h.olen,h.bok,h.args,h.mem,h.there,h.low⟩
def aa(P:Program)(m:Mem)(nh:Nat)(f:Nat)(xs:List AV)(K:EE):Prop:=
 ∃(ρ ro sn:List Nat)(as:List AV)(bin:List Blk)(res:AE)(bout:List (Option Blk)),rL P m nh f xs ρ ro sn as bin res bout/\K (res.out ro) (rdOf m (ρ++sn)) (callUp ro sn res bout)
section
variable {P:Program} {m m':Mem} {ρ nl:List Nat} {S:Nat->Bool}
theorem fY:∀ {l:List Nat} {h:Nat} {b:Blk},h∈l->m h=some b->(h,b)∈rdOf m l:=by
 intro l;induction l with
 |nil=>intro h b hh;simp at hh
 |cons k r ih=>
  intro h b hh hb;unfold rdOf;simp only[F5] at hh;rcases hh with rfl|hh
  ·rw[hb];simp
  ·split;·exact JK _ (ih hh hb)
   ·exact ih hh hb
theorem o7:∀ {l:List Nat},∀p∈rdOf m l,m p.1=some p.2/\p.1∈l:=by
 intro l;induction l with
 |nil=>intro p hp;simp[rdOf] at hp
 |cons k r ih=>
  intro p hp;unfold rdOf at hp;split at hp
  ·rename_i b e;simp only[F5] at hp;rcases hp with rfl|hp
   ·exact⟨e,JX⟩
   ·exact⟨(ih p hp).1,by simp[(ih p hp).2]⟩
  ·exact⟨(ih p hp).1,by simp[(ih p hp).2]⟩
theorem la(hm:∀h,S h=true->∀b,m h=some b->m' h=some b){h len:Nat}{t:Tr}(hS:S h=true)(hs:Az m h len t):Az m' h len t:=by
 unfold Az at hs |-
 split at hs
 ·rename_i e n B rows em;rw[hm h hS _ em];exact hs
 ·rename_i n B rows em;rw[hm h hS _ em];exact hs
 ·exact hs.elim
theorem qf(hm:∀h,S h=true->∀b,m h=some b->m' h=some b){h off:Nat}{cs:List Tr}(hS:S h=true)(hs:oP m h off cs):oP m' h off cs:=by
 unfold oP at hs |-
 split at hs
 ·rename_i e as em;rw[hm h hS _ em];exact hs
 ·exact hs.elim
theorem pE(hm:∀h,S h=true->∀b,m h=some b->m' h=some b){h off:Nat}{a:AV}(hS:S h=true)(hs:ni m ρ h off a):ni m' ρ h off a:=by obtain⟨i,o,k,e,as,rfl,em,el,hi⟩:=jm hs;unfold ni;rw[hm h hS _ em];simp only[el];exact⟨J0,hi,J0⟩
theorem oN(hm:∀h,S h=true->∀b,m h=some b->m' h=some b){a:AV}{t:Tr}(h:pX m S a t):pX m' S a t:=by
 unfold pX at h |-
 split at h;case h_4=>exact h.elim
 ·exact h
 ·exact⟨h.1,la hm h.1 h.2⟩
 ·refine⟨h.1,h.2.1,?_⟩;have h3:=h.2.2;unfold x8 at h3 |-
  split at h3
  ·rename_i n' B rows em;rw[hm _ h.2.1 _ em];exact h3
  ·exact h3.elim
theorem jw(hm:∀h,S h=true->∀b,m h=some b->m' h=some b):∀ {as:List AV} {rows:List (List Tr)},vK m S as rows->vK m' S as rows
 |[],[],h=>h
 |a::l,row::r,h=>by
  refine⟨?_,jw hm h.2⟩;have h1:=h.1
  match row,h1 with
  |[t],h1=>exact oN hm h1
 |[],_::_,h=>h.elim
 |_::_,[],h=>h.elim
theorem oZ(hm:∀h,S h=true->∀b,m h=some b->m' h=some b){t q off:Nat}{u:Tr}(h:nR m S t q off u):nR m' S t q off u:=by
 unfold nR at h |-
 split at h;case h_2=>exact h.elim
 rename_i n B rows;split at h;case h_2=>exact h.elim
 rename_i e as em;obtain⟨h1,h2,h3,h4,h5,h6,h7⟩:=h;rw[hm _ h3 _ em];exact⟨h1,h2,h3,h4,h5,h6,jw hm h7⟩
mutual
theorem lV(hm:∀h,S h=true->∀b,m h=some b->m' h=some b):∀(a a':AV),cv m ρ nl S a a'->cv m' ρ nl S a a'
 | .tr _,.tr _,h=>by unfold cv at h |-;exact h
 | .sl _ _,.tr _,h=>by unfold cv at h |-;exact⟨h.1,la hm h.1 h.2⟩
 | .tr _,.sl _ _,h=>by unfold cv at h |-;exact h
 | .sl _ _,.sl _ _,h=>by unfold cv at h |-;exact h
 | .und,.und,_=>by unfold cv;trivial
 | .agg l,.agg l',h=>by unfold cv at h |-;exact cvL_congr hm l l' h
 | .tup l,.tup l',h=>by unfold cv at h |-;exact cvL_congr hm l l' h
 | .ptr _ _,.ptr _ _,h=>by unfold cv at h |-;exact h
 | .vpt _ _ _ _,.vpt _ _ _ _,h=>by unfold cv at h |-;exact h
 | .ptr _ _,.ept _,h=>by unfold cv at h |-;exact⟨h.1,qf hm h.1 h.2⟩
 | .ptr _ _,.ifc _ _,h=>by unfold cv at h |-;exact⟨h.1,h.2.1,pE hm h.2.1 h.2.2⟩
 | .ept _,.ept _,h=>by unfold cv at h |-;exact h
 | .fn _ l,.fn _ l',h=>by unfold cv at h |-;exact⟨h.1,cvL_congr hm l l' h.2⟩
 | .ifc _ a,.ifc _ a',h=>by unfold cv at h |-;exact⟨h.1,lV hm a a' h.2⟩
 | .ifc _ a,.tr _,h=>by
  cases a with
  |ptr q off=>unfold cv at h |-;exact oZ hm h
  |_=>unfold cv at h;exact h.elim
 | .und,.ful _ _ _,h|.und,.tr _,h|.und,.agg _,h|.und,.tup _,h|.und,.ptr _ _,h|.und,.vpt _ _ _ _,h|.und,.sl _ _,h|.und,.ept _,h|.und,.fn _ _,h|.und,.ifc _ _,h|.und,.mp _,h=>by unfold cv at h;exact h.elim
 | .tr _,.ful _ _ _,h|.tr _,.und,h|.tr _,.agg _,h|.tr _,.tup _,h|.tr _,.ptr _ _,h|.tr _,.vpt _ _ _ _,h|.tr _,.ept _,h|.tr _,.fn _ _,h|.tr _,.ifc _ _,h|.tr _,.mp _,h=>by unfold cv at h;exact h.elim
 | .agg _,.ful _ _ _,h|.agg _,.und,h|.agg _,.tr _,h|.agg _,.tup _,h|.agg _,.ptr _ _,h|.agg _,.vpt _ _ _ _,h|.agg _,.sl _ _,h|.agg _,.ept _,h|.agg _,.fn _ _,h|.agg _,.ifc _ _,h|.agg _,.mp _,h=>by unfold cv at h;exact h.elim
 | .tup _,.ful _ _ _,h|.tup _,.und,h|.tup _,.tr _,h|.tup _,.agg _,h|.tup _,.ptr _ _,h|.tup _,.vpt _ _ _ _,h|.tup _,.sl _ _,h|.tup _,.ept _,h|.tup _,.fn _ _,h|.tup _,.ifc _ _,h|.tup _,.mp _,h=>by unfold cv at h;exact h.elim
 | .ptr _ _,.ful _ _ _,h|.ptr _ _,.und,h|.ptr _ _,.tr _,h|.ptr _ _,.agg _,h|.ptr _ _,.tup _,h|.ptr _ _,.vpt _ _ _ _,h|.ptr _ _,.sl _ _,h|.ptr _ _,.fn _ _,h|.ptr _ _,.mp _,h=>by unfold cv at h;exact h.elim
 | .vpt _ _ _ _,.ful _ _ _,h|.vpt _ _ _ _,.und,h|.vpt _ _ _ _,.tr _,h|.vpt _ _ _ _,.agg _,h|.vpt _ _ _ _,.tup _,h|.vpt _ _ _ _,.ptr _ _,h|.vpt _ _ _ _,.sl _ _,h|.vpt _ _ _ _,.ept _,h|.vpt _ _ _ _,.fn _ _,h|.vpt _ _ _ _,.ifc _ _,h|.vpt _ _ _ _,.mp _,h=>by unfold cv at h;exact h.elim
 | .sl _ _,.ful _ _ _,h|.sl _ _,.und,h|.sl _ _,.agg _,h|.sl _ _,.tup _,h|.sl _ _,.ptr _ _,h|.sl _ _,.vpt _ _ _ _,h|.sl _ _,.ept _,h|.sl _ _,.fn _ _,h|.sl _ _,.ifc _ _,h|.sl _ _,.mp _,h=>by unfold cv at h;exact h.elim
 | .ept _,.ful _ _ _,h|.ept _,.und,h|.ept _,.tr _,h|.ept _,.agg _,h|.ept _,.tup _,h|.ept _,.ptr _ _,h|.ept _,.vpt _ _ _ _,h|.ept _,.sl _ _,h|.ept _,.fn _ _,h|.ept _,.ifc _ _,h|.ept _,.mp _,h=>by unfold cv at h;exact h.elim
 | .fn _ _,.ful _ _ _,h|.fn _ _,.und,h|.fn _ _,.tr _,h|.fn _ _,.agg _,h|.fn _ _,.tup _,h|.fn _ _,.ptr _ _,h|.fn _ _,.vpt _ _ _ _,h|.fn _ _,.sl _ _,h|.fn _ _,.ept _,h|.fn _ _,.ifc _ _,h|.fn _ _,.mp _,h=>by unfold cv at h;exact h.elim
 | .ifc _ _,.ful _ _ _,h|.ifc _ _,.und,h|.ifc _ _,.agg _,h|.ifc _ _,.tup _,h|.ifc _ _,.ptr _ _,h|.ifc _ _,.vpt _ _ _ _,h|.ifc _ _,.sl _ _,h|.ifc _ _,.ept _,h|.ifc _ _,.fn _ _,h|.ifc _ _,.mp _,h=>by unfold cv at h;exact h.elim
 | .mp _,.mp _,h=>by unfold cv at h |-;exact h
 | .mp _,.ful _ _ _,h|.mp _,.und,h|.mp _,.tr _,h|.mp _,.agg _,h|.mp _,.tup _,h|.mp _,.ptr _ _,h|.mp _,.vpt _ _ _ _,h|.mp _,.sl _ _,h|.mp _,.ept _,h|.mp _,.fn _ _,h|.mp _,.ifc _ _,h=>by unfold cv at h;exact h.elim
 | .ful _ _ _,.ful _ _ _,h=>by unfold cv at h |-;exact h
 | .ful _ _ _,.und,h|.ful _ _ _,.tr _,h|.ful _ _ _,.agg _,h|.ful _ _ _,.tup _,h|.ful _ _ _,.ptr _ _,h|.ful _ _ _,.vpt _ _ _ _,h|.ful _ _ _,.sl _ _,h|.ful _ _ _,.ept _,h|.ful _ _ _,.fn _ _,h|.ful _ _ _,.ifc _ _,h|.ful _ _ _,.mp _,h=>by unfold cv at h;exact h.elim
theorem cvL_congr(hm:∀h,S h=true->∀b,m h=some b->m' h=some b):∀(l l':List AV),cvL m ρ nl S l l'->cvL m' ρ nl S l l'
 |[],[],_=>by unfold cvL;trivial
 |a::l,a'::l',h=>by unfold cvL at h |-;exact⟨lV hm a a' h.1,cvL_congr hm l l' h.2⟩
 |[],_::_,h=>by unfold cvL at h;exact h.elim
 |_::_,[],h=>by unfold cvL at h;exact h.elim
end
theorem cvP_congr(hm:∀h,S h=true->∀b,m h=some b->m' h=some b):∀ {es es':List (MK×AV)},cvP m ρ nl S es es'->cvP m' ρ nl S es es'
 |[],[],_=>trivial
 |p::l,p'::l',h=>⟨h.1,lV hm _ _ h.2.1,cvP_congr hm h.2.2⟩
 |[],_::_,h=>h.elim
 |_::_,[],h=>h.elim
theorem xy(hm:∀h,S h=true->∀b,m h=some b->m' h=some b)(b b':Blk)(h:cvB m ρ nl S b b'):cvB m' ρ nl S b b':=by cases b<;>cases b'<;>first|(unfold cvB at h;exact h.elim)|(unfold cvB at h |-;exact h)|(unfold cvB at h |-;exact⟨h.1,cvL_congr hm _ _ h.2⟩)|(unfold cvB at h |-;exact⟨h.1,cvP_congr hm h.2⟩)
def calleeX(g:Gh)(ρ sn:List Nat)(b:Nat):Prop:=g.X b\/∃h,cd g h b/\h∉ρ/\has sn h=false
def back(g g':Gh)(ro sn:List Nat)(kill:Bool):Gh:=⟨fun h=>match idx ro h with|some i=>g' i|none=>if kill&&has sn h then(match g h with|.un=>.un|_=>.dead) else g h,g.X,[],fun h b=>match idx ro h with|some i=>g'.F i b|none=>g.F h b⟩
theorem fj{xs as:List AV}{sn:List Nat}{bin:List Blk}{res:AE}{bout:List (Option Blk)}{ro:List Nat}{nh:Nat}(h:dc m nh xs ρ ro sn as bin res bout){Run:(Ending->World->Prop)->Prop}(hmono:∀R R',Run R->(∀e w,R e w->R' e w)->Run R')(g:Gh)(w:World)(m':Mem)(vs:Array Value)
  (hrun:(∀h,bin.length<=h->(gsub g ρ [] (calleeX g ρ sn)) h=.un)->MSt (gsub g ρ [] (calleeX g ρ sn)) w (ofL bin)->vs.size=as.length->(∀(i:Nat)(v:Value)(a:AV),vs[i]?=some v->as[i]?=some a->Rep (gsub g ρ [] (calleeX g ρ sn)) w v a)->Run fun e w'=>∃g',Grow (gsub g ρ [] (calleeX g ρ sn)) w g' w'/\MSt g' w' (km bout)/\iE g' bout.length/\res.is g' w' e)
  (hm:MSt g w m') (hnb:nh<HMod) (hnh:∀k,k % HMod=nh->g k=.un) (hrd:∀p∈rdOf m (ρ++sn),m' p.1=some p.2) (hsz:vs.size=xs.length) (hvs:∀(i:Nat)(v:Value)(a:AV),vs[i]?=some v->xs[i]?=some a->Rep g w v a) :
  Run fun e w'=>∃gn,(res.out ro).is gn w' e/\MSt gn w' (bL m' (callUp ro sn res bout))/\Grow g w gn w'/\∀k,k % HMod≠nh->g k=.un->gn k=.un:=by
 have hin:∀k,k∈ρ++sn->∀b,m k=some b->m' k=some b:=fun k hk b hb=>hrd (k,b) (fY hk hb);have hS:∀k,dA ρ sn k=true->has sn k=true/\k∉ρ:=fun k hk=>by unfold dA at hk;simp only[t4,Ha] at hk;refine⟨hk.1,fun hmem=>?_⟩;rw[c8.2 hmem] at hk;cases hk.2
 have hSm:∀k,dA ρ sn k=true->∀b,m k=some b->m' k=some b:=fun k hk=>hin k (by simp[c8.1 (hS k hk).1]);have hsub:eB g w ρ (dA ρ sn) (calleeX g ρ sn):=by
  refine⟨fun b hb hX=>?_,fun k b h1 h2 hX=>?_,fun k hk=>(hS k hk).2⟩
  ·rcases hX with hX|⟨k,e1,_,_⟩
   ·exact hb.2.1 hX
   ·exact hb.2.2 k e1
  ·rcases hX with hX|⟨k',e1,e3,e4⟩
   ·exact hm.xl k b h2 hX
   ·have:=hm.inj k k' b h2 e1;subst this;rw[(hS k h1).1] at e4;cases e4
 have hmc:MSt (gsub g ρ [] (calleeX g ρ sn)) w (ofL bin):=by
  refine ui hsub hm h.nodup (fun b hX=>?_) (fun i k b e1 e2 hX=>?_) ?_
  ·rcases hX with hX|⟨k,e1,_,_⟩
   ·exact hm.xlt b hX
   ·exact hm.lt k b e1
  ·rcases hX with hX|⟨k',e4,e6,_⟩
   ·exact hm.xl k b e2 hX
   ·have:=hm.inj k k' b e2 e4;subst this;exact e6 (i3 e1)
  ·intro i b' hb';rcases h.mem i b' hb' with⟨k,b,q1,q2,q3⟩|⟨_,q2,_⟩
   ·exact .inl ⟨k,b,q1,hin k (by simp[i3 q1]) b q2,xy hSm _ _ q3⟩
   ·simp[has] at q2
 have hargs:=ij (cvL_congr hSm _ _ h.args);refine hmono _ _ (hrun (fun k hk=>?_) hmc (hsz.trans hargs.1) (fun i v a e1 e2=>?_)) ?_
 ·have:ρ[k]?=none:=yB (by rw[h.len];exact hk);simp[gsub,this,has]
 ·obtain⟨b,q1,q2⟩:=hargs.2 i a e2;exact fF hsub hm (hvs i v b e1 q1) q2
 rintro e w' ⟨g',hG,hM,hU,hR⟩;generalize hkill:(!keepS ro res bout)=kill;have hlen:ro.length=bout.length:=h.olen.symm;have hlive:∀(i k:Nat),ρ[i]?=some k->∃l,g k=.live l:=fun i k hi=>by obtain⟨b,hb⟩:=h.there k (by simp[i3 hi]);obtain⟨l,e1,_⟩:=hm.blk k b (hin k (by simp[i3 hi]) b hb);exact⟨l,e1⟩
 have hnρ:∀k,k∈ρ->k % HMod≠nh:=fun k hmem e=>by obtain⟨i,hi⟩:=Gv.1 hmem;obtain⟨l,hl⟩:=hlive i k hi;rw[hnh k e] at hl;cases hl
 have hfr:∀ {n k},k∈dt nh n->k % HMod=nh:=fun h=>(eC h).2.trans (Ht hnb);have hnod:ro.Nodup:=by rw[h.ext];exact HW.2 ⟨h.nodup,kl _ _,fun a ha b hb e=>hnρ a ha (by rw[e];exact hfr hb)⟩
 have hin2:∀k,k∈ρ->k∈ro:=fun k hk=>by rw[h.ext];simp[hk]
 have hro:∀i k:Nat,ro[i]?=some k->ρ[i]?=some k\/(ρ[i]?=none/\k % HMod=nh):=fun i k hi=>by
  rw[h.ext] at hi
  ·by_cases hlt:i<ρ.length;·rw[v9 hlt] at hi;exact .inl hi
   ·rw[wS JQ] at hi;exact .inr ⟨yB JQ,hfr (i3 hi)⟩
 have hgi:∀(i k:Nat),ro[i]?=some k->back g g' ro sn kill k=g' i:=fun i k hi=>by show(match idx ro k with|some i=>g' i|none=>_)=_;rw[qy hnod hi]
 have hgn:∀k,k∉ro->back g g' ro sn kill k=if kill&&has sn k then(match g k with|.un=>.un|_=>.dead) else g k:=fun k hk=>by
  show(match idx ro k with|some i=>g' i|none=>_)=_;cases e:idx ro k with
  |none=>rfl
  |some i=>exact absurd (i3 (cP e)) hk
 have hcase:∀k l,back g g' ro sn kill k=.live l->(∃i,ro[i]?=some k/\g' i=.live l)\/(k∉ro/\g k=.live l/\(kill=true->has sn k=false)):=fun k l e1=>by
  by_cases hk:k∈ro
  ·obtain⟨i,hi⟩:=Gv.1 hk;exact .inl ⟨i,hi,(hgi i k hi).symm.trans e1⟩
  ·rw[hgn k hk] at e1;split at e1;·split at e1<;>cases e1
   ·rename_i hc;refine .inr ⟨hk,e1,fun hkl=>?_⟩;rw[hkl] at hc;cases hh:has sn k with
    |false=>rfl
    |true=>rw[hh] at hc;exact absurd rfl hc
 have hgF:∀(i k:Nat),ro[i]?=some k->(back g g' ro sn kill).F k=g'.F i:=fun i k hi=>by funext b;show(match idx ro k with|some i=>g'.F i b|none=>_)=_;rw[qy hnod hi]
 have hgFn:∀k,k∉ro->(back g g' ro sn kill).F k=g.F k:=fun k hk=>by
  funext b;show(match idx ro k with|some i=>g'.F i b|none=>_)=_;cases e:idx ro k with
  |none=>rfl
  |some i=>exact absurd (i3 (cP e)) hk
 have hown:∀k b,cd (back g g' ro sn kill) k b->(∃i,ro[i]?=some k/\cd g' i b)\/(k∉ro/\cd g k b/\(kill=true->has sn k=false)):=fun k b ⟨l,e1,e2⟩=>by
  rcases hcase k l e1 with⟨i,q1,q2⟩|⟨q1,q2,q3⟩
  ·exact .inl ⟨i,q1,l,q2,e2.imp id fun e2=>by rw[<-hgF i k q1];exact e2⟩
  ·exact .inr ⟨q1,⟨l,q2,e2.imp id fun e2=>by rw[<-hgFn k q1];exact e2⟩,q3⟩
 have hgs:∀ {i b},cd (gsub g ρ [] (calleeX g ρ sn)) i b->∃k,ρ[i]?=some k/\cd g k b:=fun h=>ci h;have hok:kill=true->∀b,okB g' w' b->okB (back g g' ro sn kill) w' b:=fun hkl b hb=>by
  refine⟨hb.1,fun hX=>hb.2.1 (by rw[hG.X];exact .inl hX),fun k e1=>?_⟩;rcases hown k b e1 with⟨i,_,q2⟩|⟨q1,q2,q3⟩
  ·exact hb.2.2 i q2
  ·exact hb.2.1 (by rw[hG.X];exact .inr ⟨k,q2,fun hk=>q1 (hin2 k hk),q3 hkl⟩)
 have hsame:∀b,b<w.heap.size->(∀i,¬ cd (gsub g ρ [] (calleeX g ρ sn)) i b)->w'.heap[b]?=w.heap[b]? :=fun b hb hn=>by
  by_cases hX:calleeX g ρ sn b;·exact hG.xb b hX
  ·exact hG.block b ⟨hb,hX,hn⟩
 have hother:∀k b,k∉ρ->cd g k b->w'.heap[b]?=w.heap[b]? :=fun k b hk e1=>hsame b (hm.lt k b e1) fun i e3=>by obtain⟨k',hk',e4⟩:=hgs e3;have:=hm.inj k k' b e1 e4;exact hk (this ▸ i3 hk')
 have hgrow:Grow g w (back g g' ro sn kill) w':=by
  refine⟨hG.os,hG.tape,hG.output,hG.size,fun b hb=>hsame b hb.1 fun i e1=>?_,fun b hb=>hG.xb b (.inl hb),rfl,fun k hk=>?_,fun k l e1=>?_,fun k b e1=>?_⟩
  ·obtain⟨k',_,e4⟩:=hgs e1;exact hb.2.2 k' e4
  ·by_cases hkρ:k∈ro
   ·obtain⟨i,hi⟩:=Gv.1 hkρ;rw[hgi i k hi];rcases hro i k hi with hi'|⟨_,hkn⟩
    ·exact hG.un i (by rw[cf hi'];exact hk)
    ·exact absurd (hnh k hkn) hk
   ·rw[hgn k hkρ];split
    ·split;·rename_i e;exact absurd e hk
     ·simp
    ·exact hk
  ·rcases hcase k l e1 with⟨i,q1,q2⟩|⟨q1,q2,_⟩
   ·rcases hro i k q1 with q1|⟨_,hkn⟩
    ·rcases hG.live i l q2 with q3|q3
     ·rw[cf q1] at q3;exact .inl q3
     ·rw[cf q1] at q3;exact .inr q3
    ·exact .inr (hnh k hkn)
   ·exact .inl q2
  ·rcases hown k b e1 with⟨i,q1,q2⟩|⟨q1,q2,_⟩
   ·rcases hG.new i b q2 with⟨i2,q3⟩|q3
    ·obtain⟨k2,_,q4⟩:=hgs q3;exact .inl ⟨k2,q4⟩
    ·exact .inr q3
   ·exact .inl ⟨k,q2⟩
 refine⟨back g g' ro sn kill,?_,?_,hgrow,fun k hkn hk=>?_⟩
 ·
  cases hk:kill with
  |true=>
   have hok':=hok hk;rw[hk] at hok' hgi;cases res with
   |ret a=>cases e with
    |returned v=>exact Rep.out (ρ:=ro) (k:=ro.length) rfl hok' (fun i k hi=>hgi i k hi) hR h.low
    |_=>exact hR.elim
   |pan a=>cases e with
    |panicked ch=>obtain⟨v,q1,q2⟩:=hR;exact⟨v,q1,Rep.out (ρ:=ro) (k:=ro.length) rfl hok' (fun i k hi=>hgi i k hi) q2 h.low⟩
    |_=>exact hR.elim
  |false=>
   rw[hk] at hkill hgi;cases hre:(ro.isEmpty&&res.scal) with
   |true=>
    have hsc:res.scal=true:=by simp only[t4] at hre;exact hre.2
    cases res with
    |ret a=>cases e with
     |returned v=>exact hR.scal hsc
     |_=>exact hR.elim
    |pan a=>cases e with
     |panicked ch=>obtain⟨v,q1,q2⟩:=hR;exact⟨v,q1,q2.scal hsc⟩
     |_=>exact hR.elim
   |false=>
    have hnf:res.nof=true:=by unfold keepS at hkill;rw[hre] at hkill;simp only[lh,IK,t4] at hkill;exact hkill.2
    cases res with
    |ret a=>cases e with
     |returned v=>exact Rep.outF (ρ:=ro) (k:=ro.length) rfl (fun i k hi=>hgi i k hi) hR h.low hnf
     |_=>exact hR.elim
    |pan a=>cases e with
     |panicked ch=>obtain⟨v,q1,q2⟩:=hR;exact⟨v,q1,Rep.outF (ρ:=ro) (k:=ro.length) rfl (fun i k hi=>hgi i k hi) q2 h.low hnf⟩
     |_=>exact hR.elim
 ·
  have hkρ:∀k,k∈ro->kill=true\/∀x∈bout,J1 x=true:=fun k hk=>by
   cases hq:kill with
   |true=>exact .inl rfl
   |false=>
    right;rw[hq] at hkill;have hne:ro.isEmpty=false:=by
     cases hs:ro.isEmpty with
     |false=>rfl
     |true=>rw[List.isEmpty_iff.1 hs] at hk;simp at hk
    unfold keepS at hkill;rw[hne] at hkill;simp only[G9,lh,IK,t4,GQ] at hkill;exact hkill.1
  have hup:∀k,k∉ro->bL m' (callUp ro sn res bout) k=if kill&&has sn k then none else m' k:=fun k hk=>by
   have e1:idx ro k=none:=by
    cases e:idx ro k with
    |none=>rfl
    |some i=>exact absurd (i3 (cP e)) hk
   unfold bL;rw[jD,ol,CV e1];rw[<-hkill];cases hs:keepS ro res bout with
   |true=>simp[lk]
   |false=>
    simp only[lh,Iv,GS];rw[yg];cases has sn k<;>simp
  have hup2:∀(i k:Nat),ro[i]?=some k->bL m' (callUp ro sn res bout) k=((bout[i]?).join.map (Blk.out ro)):=fun i k hi=>by unfold bL;rw[jD,ol,Di hlen (qy hnod hi)]
  have hbo:∀(i:Nat)(b:Blk),(bout[i]?).join=some b->b.lowH ro.length=true:=by
   intro i b hb;have:∀(l:List (Option Blk)),cF ro.length l=true->∀i:Nat,(l[i]?).join=some b->b.lowH ro.length=true:=by
    intro l;induction l with
    |nil=>intro _ i hi;simp at hi
    |cons x l ih=>
     intro hl i hi;cases i with
     |zero=>
      simp at hi;subst hi;unfold cF at hl;simp only[t4] at hl;exact hl.1
     |succ i=>
      refine ih ?_ i (by simpa using hi);cases x with
      |none=>unfold cF at hl;exact hl
      |some y=>unfold cF at hl;simp only[t4] at hl;exact hl.2
   exact this bout h.bok i hb
  refine⟨fun k b hb=>?_,fun k k' b e1 e2=>?_,fun k b e1=>?_,fun b hb=>Hb (hm.xlt b hb) hG.size,fun k b e1 hX=>?_,hm.gl.grow hgrow⟩
  ·by_cases hk:k∈ro
   ·obtain⟨i,hi⟩:=Gv.1 hk;rw[hup2 i k hi,z9] at hb;obtain⟨b0,q1,rfl⟩:=hb;obtain⟨l,q2,q3⟩:=hM.blk i b0 q1;rw[hgF i k hi];refine⟨l,(hgi i k hi).trans q2,?_⟩;rcases hkρ k hk with hq|hq
    ·exact q3.out (ρ:=ro) (k:=ro.length) rfl (hok hq) (fun i k hi=>hgi i k hi) (hbo i b0 q1)
    ·have hb0:some b0∈bout:=by
      cases e:bout[i]? with
      |none=>rw[e] at q1;cases q1
      |some x=>
       rw[e] at q1;have q1:x=some b0:=q1;exact i3 (q1 ▸ e)
     exact q3.outF (ρ:=ro) (k:=ro.length) rfl (fun i k hi=>hgi i k hi) (hbo i b0 q1) (hq _ hb0)
   ·rw[hup k hk] at hb;split at hb;·cases hb
    ·rename_i hc;obtain⟨l,q1,q2⟩:=hm.blk k b hb;rw[hgFn k hk];refine⟨l,?_,q2.grow hgrow fun j hj=>hother k j (fun hm'=>hk (hin2 k hm')) ⟨l,q1,hj⟩⟩;rw[hgn k hk,GN hc];exact q1
  ·
   have apart:∀ {k i b},k∉ro->cd g k b->¬ cd g' i b:=fun{k i b} q1 q2 q3=>by
    have hlt:=hm.lt k b q2;rcases hG.new i b q3 with⟨i2,q4⟩|q4
    ·obtain⟨k2,hk2,q5⟩:=hgs q4;have:=hm.inj k k2 b q2 q5;exact q1 (hin2 _ (this ▸ i3 hk2))
    ·omega
   rcases hown k b e1 with⟨i,q1,q2⟩|⟨q1,q2,_⟩<;>rcases hown k' b e2 with⟨i',q1',q2'⟩|⟨q1',q2',_⟩
   ·have:=hM.inj i i' b q2 q2';subst this;rw[q1] at q1';cases q1';rfl
   ·exact absurd q2 (apart q1' q2')
   ·exact absurd q2' (apart q1 q2)
   ·exact hm.inj k k' b q2 q2'
  ·rcases hown k b e1 with⟨i,q1,q2⟩|⟨q1,q2,_⟩
   ·exact hM.lt i b q2
   ·exact Hb (hm.lt k b q2) hG.size
  ·rcases hown k b e1 with⟨i,q1,q2⟩|⟨q1,q2,_⟩
   ·exact hM.xl i b q2 (by rw[hG.X];exact .inl hX)
   ·exact hm.xl k b q2 hX
 ·have hk':k∉ro:=fun hmem=>by
   obtain⟨i,hi⟩:=Gv.1 hmem;rcases hro i k hi with hi|⟨_,e⟩
   ·obtain⟨l,hl⟩:=hlive i k hi;rw[hk] at hl;cases hl
   ·exact hkn e
  rw[hgn k hk',hk];split<;>rfl
theorem wc{f:Nat}{xs as:List AV}{sn:List Nat}{bin:List Blk}{res:AE}{bout:List (Option Blk)}{ro:List Nat}{nh:Nat}(h:rL P m nh f xs ρ ro sn as bin res bout)(g:Gh)(w:World)(m':Mem)(vs:Array Value)
  (hm:MSt g w m') (hnb:nh<HMod) (hnh:∀k,k % HMod=nh->g k=.un) (hrd:∀p∈rdOf m (ρ++sn),m' p.1=some p.2) (hsz:vs.size=xs.length) (hvs:∀(i:Nat)(v:Value)(a:AV),vs[i]?=some v->xs[i]?=some a->Rep g w v a) :
  Calls P f vs w fun e w'=>∃gn,(res.out ro).is gn w' e/\MSt gn w' (bL m' (callUp ro sn res bout))/\Grow g w gn w'/\∀k,k % HMod≠nh->g k=.un->gn k=.un:=
 fj h.fit (Run:=fun R=>Calls P f vs w R) (fun _ _ h1 h2=>h1.mono h2) g w m' vs (fun hun hmc hl hv=>h.ctr.run _ w vs hun hmc hl hv) hm hnb hnh hrd hsz hvs
end
structure AS where
 t:Nat->Option AV
 m:Mem
 nx:Nat
def evA(t:Nat->Option AV):Operand->Option AV
 | .tmp i=>t i
 | .const (.agg cs)=>bif cs.toList.all goodB then some (.agg (cs.toList.map fun v=>.tr (.v v))) else none
 | .const v=>bif goodB v then some (.tr (.v v)) else none
 | .func f=>some (.fn f [])
 | .global _=>none
def putA(t:Nat->Option AV)(dst:Option Nat)(a:AV):Nat->Option AV:=match dst with|some d=>fun i=>bif Nat.beq i d then some a else t i|none=>t
def AS.put(s:AS)(dst:Option Nat)(a:AV)(up:List (Nat×Option Blk)):AS:={ s with t:=putA s.t dst a,m:=bL s.m up }
def gr:AV->Option (Nat×List AV)
 | .fn f l=>some (f,l)
 | .tr (.v (.func (.func f) _ _))=>some (f,[])
 |_=>none
def EE.of(fac:Bool)(K Pn:KK):EE:=fun res rd up=>match res with|.ret a=>cond fac (AOk a->K a rd up) (K a rd up)|.pan a=>cond fac (AOk a->Pn a rd up) (Pn a rd up)
def fU(P:Program)(T:Ty)(fac:Bool)(o:Oper)(nh:Nat)(ev:Operand->Option AV)(m:Mem)(K Pn:KK):Prop:=
 match o.op with
 | .call { callee:=.value x,args,.. }=>match ev x with
  |some c=>match gr c,evs ev args.toList with
   |some (f,caps),some xs=>aa P m nh f (xs++caps) (EE.of fac K Pn)
   |none,some xs=>match c with
    | .ifc t a=>bif Nat.ble HMod t&&Nat.blt t (2*HMod) then aa P m nh (t-HMod) (a::xs) (EE.of fac K Pn) else False
    |_=>False
   |_,_=>False
  |none=>False
 | .call { callee:=.invoke x name,args,.. }=>match ev x,evs ev args.toList with
  |some (.ifc t a),some xs=>bif Nat.blt t HMod then∃f,(∀v vs w,(callMethod (.iface t v) name vs).run P w=(callFunc f (#[v]++vs)).run P w)/\aa P m nh f (a::xs) (EE.of fac K Pn) else False
  |_,_=>False
 | .call { callee:=.builtin .panic,args:=⟨[x]⟩,.. }=>match ev x with
  |some (.ifc t a)=>bif Nat.blt t HMod then Pn (.ifc t a) [] [] else False
  |_=>False
 | .panic x=>match ev x with
  |some (.ifc t a)=>bif Nat.blt t HMod then Pn (.ifc t a) [] [] else False
  |_=>False
 |op=>aop T m nh ev K op
def dstOk(N:Nat):Option Nat->Bool|some d=>Nat.blt d N|none=>true
inductive AX where
 |normal|exit (id:Nat)|ret|pan (a:AV)
def tI(ops:Array Oper)(t:Nat->Option AV)(j:Nat):Option AV:=match ops[j]? with|some o=>(match o.dst with|some d=>t d|none=>none)|none=>none
def yj(ops:Array Oper)(t:Nat->Option AV)(j:Nat)(b:Bool):Nat->Option AV:=match ops[j]? with|some o=>(match o.dst with|some d=>putA t (some d) (.tr (.v (.bool b)))|none=>t)|none=>t
def gdo(b:Bool)(A B:Prop):Prop:=match b with|true=>A|false=>B
section
variable {P:Program} {T:Ty} {o:Oper} {m:Mem} {nh:Nat} {ev:Operand->Option AV} {K Pn:KK}
def gA(P:Program)(o:Oper)(nh:Nat)(ev:Operand->Option AV)(rd:List (Nat×Blk))(up:List (Nat×Option Blk))(a:AV)(pan:Bool):Prop:=
 ∀(g:Gh)(w:World)(m:Mem)(act:Act)(Kc:Act->World->Prop)(Q:Exit->Act->World->Prop),MSt g w m->(∀k,k % HMod=nh->g k=.un)->(∀p∈rd,m p.1=some p.2)->(∀x b,ev x=some b->Rep g w (act.eval x) b) ->
  (pan=false->∀v w' g',Rep g' w' v a->MSt g' w' (bL m up)->Grow g w g' w'->(∀h,h % HMod≠nh->g h=.un->g' h=.un)->Kc (act.put o.dst v) w') ->
  (pan=true->∀v w' g',Rep g' w' v a->MSt g' w' (bL m up)->Grow g w g' w'->(∀h,h % HMod≠nh->g h=.un->g' h=.un)->Q (.panic [{ v,recovered:=false }]) act w')->o.wp P act w Kc Q
def mN(m:Mem)(nh:Nat)(rd:List (Nat×Blk))(up:List (Nat×Option Blk)):Prop:=(∀p∈rd,m p.1=some p.2)/\∀p∈up,p.1 % HMod=nh\/∃q∈rd,q.1=p.1
def WOk(P:Program)(fac:Bool)(o:Oper)(m:Mem)(nh:Nat)(ev:Operand->Option AV)(K Pn:KK):Prop:=
 (∃a rd up,((fac=true->AOk a)->K a rd up)/\mN m nh rd up/\gA P o nh ev rd up a false)\/∃a rd up,((fac=true->AOk a)->Pn a rd up)/\mN m nh rd up/\gA P o nh ev rd up a true
theorem WOk.of_L{fac:Bool}(hnb:nh<HMod)(h:LOk P o m nh ev K):WOk P fac o m nh ev K Pn:=by
 obtain⟨a,rd,up,hK,h1,h2,h3⟩:=h;refine .inl ⟨a,rd,up,fun _=>hK,⟨h1,fun p hp=>(h2 p hp).imp (fun e=>by rw[e];exact Ht hnb) id⟩,fun g w m' act Kc Q hm hn hrd hev hk _=>?_⟩;obtain⟨g',w',hr,e1,e2,e3⟩:=h3 g w m' act.eval hm (hn nh (Ht hnb)) hrd hev;have e3:∀h,h % HMod≠nh->g h=.un->g' h=.un:=fun h q=>e3 h fun e=>q (by rw[e];exact Ht hnb);unfold Oper.wp;rcases hr with⟨v,hr,hv⟩|⟨hr,rfl⟩
 ·rw[hr];exact hk rfl v w' g' hv e1 e2 e3
 ·rw[hr];exact hk rfl undef w' g' .und e1 e2 e3
theorem callUp_in{ρ sn:List Nat}{res:AE}{bout:List (Option Blk)}:∀p∈callUp ρ sn res bout,p.1∈ρ\/p.1∈sn:=by
 intro p hp;rw[jD] at hp;rcases FK.1 hp with hp|hp
 ·left;have:∀(l:List Nat)(bs:List (Option Blk)),p∈upOf ρ l bs->p.1∈l:=by
   intro l;induction l with
   |nil=>intro bs h;simp[upOf] at h
   |cons k r ih=>
    intro bs h;cases bs with
    |nil=>simp[upOf] at h
    |cons b bs=>
     unfold upOf at h;simp only[F5] at h |-
     rcases h with rfl|h
     ·exact .inl rfl
     ·exact .inr (ih bs h)
  exact this ρ bout hp
 ·right;cases hc:keepS ρ res bout with
  |true=>rw[hc] at hp;simp at hp
  |false=>
   rw[hc] at hp;simp only[lh,sU,GM] at hp;obtain⟨h,hh,rfl⟩:=hp;exact hh
theorem lM(hnb:nh<HMod){fac:Bool}{f:Nat}{ys:List AV}(hcall:∀(g:Gh)(w:World)(act:Act),Callable P f->(∀x b,ev x=some b->Rep g w (act.eval x) b)->∃vs:Array Value,(execOp act.eval o).run P w=.ok (.enter f vs) w/\vs.size=ys.length/\∀(i:Nat)(v:Value)(a:AV),vs[i]?=some v->ys[i]?=some a->Rep g w v a)
  (h:aa P m nh f ys (EE.of fac K Pn)):WOk P fac o m nh ev K Pn:=by
 obtain⟨ρ,ro,sn,as,bin,res,bout,hok,hK⟩:=h;have hrdup:mN m nh (rdOf m (ρ++sn)) (callUp ro sn res bout):=⟨fun p hp=>(o7 p hp).1,fun p hp=>by
  ·rcases callUp_in p hp with hp|hp
   ·rw[hok.ext] at hp;rcases FK.1 hp with hp|hp
    ·obtain⟨b,hb⟩:=hok.there p.1 (by simp[hp]);exact .inr ⟨(p.1,b),fY (by simp[hp]) hb,rfl⟩
    ·exact .inl ((eC hp).2.trans (Ht hnb))
   ·obtain⟨b,hb⟩:=hok.there p.1 (by simp[hp]);exact .inr ⟨(p.1,b),fY (by simp[hp]) hb,rfl⟩⟩
 have main:∀(g:Gh)(w:World)(m':Mem)(act:Act)(Kc:Act->World->Prop)(Q:Exit->Act->World->Prop),MSt g w m'->(∀k,k % HMod=nh->g k=.un)->(∀p∈rdOf m (ρ++sn),m' p.1=some p.2)->(∀x b,ev x=some b->Rep g w (act.eval x) b) ->
   (∀e w',(∃gn,(res.out ro).is gn w' e/\MSt gn w' (bL m' (callUp ro sn res bout))/\Grow g w gn w'/\∀k,k % HMod≠nh->g k=.un->gn k=.un)->(match e with|.returned v=>Kc (act.put o.dst v) w'|.panicked chain=>Q (.panic chain) act w'|.outgrown=>LetsOut Q))->o.wp P act w Kc Q:=by
  intro g w m' act Kc Q hm hn hrd hev hfin;obtain⟨vs,hrun,e1,e2⟩:=hcall g w act hok.ctr.callable hev;unfold Oper.wp;rw[hrun];refine(wc hok g w m' _ hm hnb hn hrd e1 e2).mono fun e w' he=>by have:=hfin e w' he;cases e<;>exact this
 cases res with
 |ret a=>
  refine .inl ⟨_,_,_,fun hf=>(by cases fac with|true=>exact hK (hf rfl)|false=>exact hK),hrdup,fun g w m' act Kc Q hm hn hrd hev hk _=>main g w m' act Kc Q hm hn hrd hev ?_⟩;rintro e w' ⟨gn,h1,h2,h3,h4⟩;cases e with
  |returned v=>exact hk rfl v w' gn h1 h2 h3 h4
  |_=>exact h1.elim
 |pan a=>
  refine .inr ⟨_,_,_,fun hf=>(by cases fac with|true=>exact hK (hf rfl)|false=>exact hK),hrdup,fun g w m' act Kc Q hm hn hrd hev _ hk=>main g w m' act Kc Q hm hn hrd hev ?_⟩;rintro e w' ⟨gn,h1,h2,h3,h4⟩;cases e with
  |panicked ch=>obtain⟨v,rfl,h1⟩:=h1;exact hk rfl v w' gn h1 h2 h3 h4
  |_=>exact h1.elim
theorem nT{f:Nat}{x:Operand}{args:Array Operand}{ats:Array TypeId}{c:AV}{caps xs:List AV}(ho:o.op=.call { callee:=.value x,args,argTypes:=ats })(hx:ev x=some c)(hc:gr c=some (f,caps))(hxs:evs ev args.toList=some xs)(g:Gh)(w:World)(act:Act)(hcb:Callable P f)(hev:∀x b,ev x=some b->Rep g w (act.eval x) b):
  ∃vs:Array Value,(execOp act.eval o).run P w=.ok (.enter f vs) w/\vs.size=(xs++caps).length/\∀(i:Nat)(v:Value)(a:AV),vs[i]?=some v->(xs++caps)[i]?=some a->Rep g w v a:=by
 obtain⟨e1,e2⟩:=kW hev _ _ hxs;obtain⟨cs,hcv,hcs,hcr⟩:∃cs:Array Value,act.eval x=.func (.func f) #[] cs/\cs.size=caps.length/\∀(i:Nat)(v:Value)(a:AV),cs[i]?=some v->caps[i]?=some a->Rep g w v a:=by
  have hr:=hev x c hx;unfold gr at hc;split at hc
  ·cases hc;generalize hv:act.eval x=v at hr;cases hr with
   |fn q1 q2=>exact⟨_,rfl,q1,q2⟩
  ·cases hc;obtain⟨q1,q2⟩:=al hr;obtain⟨rfl,rfl⟩:=q2;exact⟨#[],q1,rfl,fun i v a h=>by simp at h⟩
  ·cases hc
 refine⟨args.map act.eval++cs,?_,by simp only[Ip,JL,uR];simp only[ad,BQ] at e1;omega,fun i v a q1 q2=>?_⟩
 ·simp only[execOp,ho,resolve,Deferred.ofValue,hcv,E9,Hj,De,invoke];rw[hcb];simp
 ·have hl:(args.map act.eval).size=xs.length:=by simpa using e1
  by_cases hi:i<xs.length
  ·rw[Hz JQ] at q1;rw[v9 hi] at q2;exact e2 i v a (by simpa using q1) q2
  ·rw[H6 JQ,hl] at q1;rw[wS JQ] at q2;exact hcr _ v a q1 q2
theorem Cl(hnb:nh<HMod){fac:Bool}{f:Nat}{x:Operand}{args:Array Operand}{ats:Array TypeId}{c:AV}{caps xs:List AV}(ho:o.op=.call { callee:=.value x,args,argTypes:=ats })(hx:ev x=some c)(hc:gr c=some (f,caps))(hxs:evs ev args.toList=some xs)
  (h:aa P m nh f (xs++caps) (EE.of fac K Pn)):WOk P fac o m nh ev K Pn:=
 lM hnb (nT ho hx hc hxs) h
theorem qA{t:Nat}{a:AV}{x:Operand}{args:Array Operand}{ats:Array TypeId}{xs:List AV}(ho:o.op=.call { callee:=.value x,args,argTypes:=ats })(hx:ev x=some (.ifc t a))(hxs:evs ev args.toList=some xs)(hlt:Nat.ble HMod t=true)(hlt2:t<2*HMod)(g:Gh)(w:World)(act:Act)(hcb:Callable P (t-HMod))(hev:∀x b,ev x=some b->Rep g w (act.eval x) b):
  ∃vs:Array Value,(execOp act.eval o).run P w=.ok (.enter (t-HMod) vs) w/\vs.size=(a::xs).length/\∀(i:Nat)(v:Value)(b:AV),vs[i]?=some v->(a::xs)[i]?=some b->Rep g w v b:=by
 obtain⟨e1,e2⟩:=kW hev _ _ hxs;have e1':args.size=xs.length:=by simpa using e1
 have hr:=hev x _ hx;generalize hv:act.eval x=v at hr;cases hr with
 |ifc ht _=>have:=oo hlt;omega
 |psl hr=>omega
 |frz _ _ hr=>omega
 |win hr=>omega
 |bnd hf hr=>
  rename_i f xv;have ef:HMod+f-HMod=f:=JQ;rw[ef] at hcb |-
  refine⟨#[xv]++args.map act.eval,?_,(by rw[Ip,JL,E0,e1'];exact Kd 1 _),fun i v a q1 q2=>?_⟩
  ·simp only[execOp,ho,resolve,Deferred.ofValue,hv,E9,Hj,De,invoke];rw[Array.append_empty,hcb]
  ·cases i with
   |zero=>
    rw[Hz JX] at q1;have q1:some xv=some v:=q1;cases q1;cases q2;exact hr
   |succ i=>
    rw[H6 JX] at q1;exact e2 i v a (by simpa using q1) (by simpa using q2)
theorem astep_ok(hnb:nh<HMod){fac:Bool}(hT:TOk P T)(h:fU P T fac o nh ev m K Pn):WOk P fac o m nh ev K Pn:=by
 unfold fU at h;split at h
 ·rename_i x args ats ho;split at h;case h_2=>exact h.elim
  rename_i c hx;split at h
  ·rename_i f caps xs hc hxs;exact Cl hnb ho hx hc hxs h
  ·rename_i xs hc hxs;split at h;case h_2=>exact h.elim
   rename_i t a;cases hlt:(Nat.ble HMod t&&Nat.blt t (2*HMod)) with
   |false=>rw[hlt] at h;exact h.elim
   |true=>
    rw[hlt,r7] at h;rw[t4] at hlt;have hlt2:t<2*HMod:=oo hlt.2
    replace hlt:=hlt.1
    exact lM hnb (qA ho hx hxs hlt hlt2) h
  ·exact h.elim
 ·rename_i x name args ats ho;split at h;case h_2=>exact h.elim
  rename_i t a xs hx hxs;cases hlt:Nat.blt t HMod with
  |false=>rw[hlt] at h;exact h.elim
  |true=>
  rw[hlt,r7] at h
  replace hlt:t<HMod:=oo hlt
  obtain⟨f,hmeth,h⟩:=h;refine lM hnb (fun g w act hcb hev=>?_) h;obtain⟨e1,e2⟩:=kW hev _ _ hxs;have hr:=hev x _ hx;generalize hv:act.eval x=v at hr;cases hr with
  |bnd _ hr=>omega
  |psl hr=>omega
  |frz _ _ hr=>omega
  |win hr=>omega
  |ifc htt hr=>
   rename_i xv;have e1':args.size=xs.length:=by simpa using e1
   refine⟨#[xv]++args.map act.eval,?_,(by rw[Ip,JL,E0,e1'];exact Kd 1 _),fun i v a q1 q2=>?_⟩
   ·have e0:(#[Value.iface t xv]++args.map act.eval)[0]?=some (.iface t xv):=by rw[Hz JX];rfl
    have e3:(#[Value.iface t xv]++args.map act.eval).extract 1 (#[Value.iface t xv]++args.map act.eval).size=args.map act.eval:=by apply Array.ext';simp[JM,List.extract];exact vG JX
    simp only[execOp,ho,resolve,hv,E9,Hj,De,invoke,e0,e3];rw[hmeth,hcb]
   ·cases i with
    |zero=>
     rw[Hz JX] at q1;have q1:some xv=some v:=q1;cases q1;cases q2;exact hr
    |succ i=>
     rw[H6 JX] at q1;exact e2 i v a (by simpa using q1) (by simpa using q2)
 ·rename_i x ats ho;split at h;case h_2=>exact h.elim
  rename_i t a hx;cases hlt:Nat.blt t HMod with
  |false=>rw[hlt] at h;exact h.elim
  |true=>
  rw[hlt,r7] at h
  replace hlt:t<HMod:=oo hlt
  refine .inr ⟨_,_,_,fun _=>h,⟨JX,JX⟩,fun g w m' act Kc Q hm hn hrd hev _ hk=>?_⟩;have hr:=hev x _ hx;generalize hv:act.eval x=v at hr;have hr':=hr;cases hr with
  |bnd _ hr=>omega
  |psl hr=>omega
  |frz _ _ hr=>omega
  |win hr=>omega
  |ifc _ hr=>
   unfold Oper.wp;have:(execOp act.eval o).run P w=.halt (.panic (act.eval x)) w:=by simp[execOp,ho,resolve,invoke,builtin,hv,Instr.panic]
   rw[this];show Q (.panic [{ v:=act.eval x,recovered:=false }]) act w;rw[hv];exact hk rfl _ w g hr' hm (Grow.refl _ _) fun _ _ h=>h
 ·rename_i x ho;split at h;case h_2=>exact h.elim
  rename_i t a hx;cases hlt:Nat.blt t HMod with
  |false=>rw[hlt] at h;exact h.elim
  |true=>
  rw[hlt,r7] at h
  replace hlt:t<HMod:=oo hlt
  refine .inr ⟨_,_,_,fun _=>h,⟨JX,JX⟩,fun g w m' act Kc Q hm hn hrd hev _ hk=>?_⟩;have hr:=hev x _ hx;generalize hv:act.eval x=v at hr;have hr':=hr;cases hr with
  |bnd _ hr=>omega
  |psl hr=>omega
  |frz _ _ hr=>omega
  |win hr=>omega
  |ifc _ hr=>
   unfold Oper.wp;have:(execOp act.eval o).run P w=.halt (.panic (act.eval x)) w:=by simp[execOp,ho,hv,Instr.panic]
   rw[this];show Q (.panic [{ v:=act.eval x,recovered:=false }]) act w;rw[hv];exact hk rfl _ w g hr' hm (Grow.refl _ _) fun _ _ h=>h
 ·exact .of_L hnb (vi hT h)
end
structure St(g0:Gh)(w0:World)(N:Nat)(g:Gh)(act:Act)(w:World)(s:AS):Prop where
 size:act.tmps.size=N
 defers:act.defers=g0.D
 fr:∀i a,s.t i=some a->i<N/\Rep g w (act.tmps.getD i undef) a
 mem:MSt g w s.m
 un:∀h,s.nx<=h % HMod->g h=.un
 grow:Grow g0 w0 g w
section
variable {P:Program} {T:Ty} {N:Nat} {ops:Array Oper} {g0:Gh} {w0:World}
theorem bI{t:Array Value}{d i:Nat}{v:Value}(hd:d<t.size):(t.setIfInBounds d v).getD i undef=if i=d then v else t.getD i undef:=by
 by_cases h:i=d;·subst h;simp[hd]
 ·have h':¬ d=i:=fun e=>h e.symm;rw[GN h];by_cases hi:i<t.size;·simp[Array.getD,hi,Jg,h']
  ·simp[Array.getD,hi]
theorem iu{g:Gh}{act:Act}{w:World}{t:Nat->Option AV}(hf:∀i a,t i=some a->i<N/\Rep g w (act.tmps.getD i undef) a):∀x b,evA t x=some b->Rep g w (act.eval x) b:=by
 intro x b h;unfold evA at h;split at h;·exact(hf _ _ h).2
 ·rename_i cs;cases hg:cs.toList.all goodB with
  |false=>rw[hg] at h;cases h
  |true=>
   rw[hg] at h;cases h;have hall:=GQ.1 hg;refine .agg JX (fun a ha=>?_) fun i c a e1 e2=>?_;·simp only[GM] at ha;obtain⟨v,_,rfl⟩:=ha;rfl
   ·simp only[z5,z9,Gx] at e2;obtain⟨v,e3,rfl⟩:=e2;rw[e1] at e3;cases e3;exact .tr (.v (good_of (hall c (Iu.2 (JD e1)))))
 ·rename_i v _;cases hg:goodB v with
  |false=>rw[hg] at h;cases h
  |true=>rw[hg] at h;cases h;exact .tr (.v (good_of hg))
 ·cases h;exact .fn rfl fun i c a e1 e2=>by simp at e1
 ·cases h
theorem d8{g g':Gh}{act:Act}{w w':World}{t:Nat->Option AV}{dst:Option Nat}{v:Value}{a:AV}(hN:act.tmps.size=N)(hf:∀i a,t i=some a->i<N/\Rep g w (act.tmps.getD i undef) a)(hg:Grow g w g' w')(hd:dstOk N dst=true)(ha:Rep g' w' v a):
  (act.put dst v).tmps.size=N/\∀i b,putA t dst a i=some b->i<N/\Rep g' w' ((act.put dst v).tmps.getD i undef) b:=by
 cases dst with
 |none=>exact⟨hN,fun i b hb=>⟨(hf i b hb).1,((hf i b hb).2).grow hg⟩⟩
 |some d=>
  have hd:d<act.tmps.size:=by rw[hN];exact oo hd
  refine⟨by simp[Act.put,hN],fun i b hb=>?_⟩;show i<N/\Rep g' w' ((act.tmps.setIfInBounds d v).getD i undef) b;rw[bI hd];unfold putA at hb;by_cases hi:i=d
  ·subst hi;simp at hb;subst hb;exact⟨JQ,by rw[Gw rfl];exact ha⟩
  ·have:Nat.beq i d=false:=bA hi;simp only[this,lh] at hb;rw[GN hi];exact⟨(hf i b hb).1,((hf i b hb).2).grow hg⟩
theorem bc(act:Act)(dst:Option Nat)(v:Value):(act.put dst v).defers=act.defers:=by cases dst<;>rfl
def AX.is(g:Gh)(w:World):AX->Exit->Prop
 | .normal,.normal=>True
 | .exit i,.exit j=>i=j
 | .ret,.ret=>True
 | .pan a,.panic ch=>∃v,ch=[{ v,recovered:=false }]/\Rep g w v a
 |_,_=>False
def ox(g0:Gh)(w0:World)(N:Nat)(Q:AX->AS->Prop):Exit->Act->World->Prop:=
 fun e act w=>∃x s g,Q x s/\St g0 w0 N g act w s/\x.is g w e
structure StR(g0:Gh)(w0:World)(N:Nat)(lo:Nat)(g:Gh)(act:Act)(w:World)(t:Nat->Option AV)(m:Mem):Prop where
 size:act.tmps.size=N
 defers:act.defers=g0.D
 fr:∀i a,t i=some a->i<N/\Rep g w (act.tmps.getD i undef) a
 mem:MSt g w m
 un:∀h,lo<=h % HMod->g h=.un
 grow:Grow g0 w0 g w
theorem eZ{g:Gh}{act:Act}{w:World}{t:Nat->Option AV}(hN:act.tmps.size=N)(hf:∀i a,t i=some a->i<N/\Rep g w (act.tmps.getD i undef) a){j:Nat}{a:AV}(h:tI ops t j=some a):
  (a=.und->yielded ops act.tmps j=none)/\∀y,a=.tr (.v (.bool y))->yielded ops act.tmps j=some y:=by
 unfold tI at h;split at h;case h_2=>cases h
 rename_i o ho;split at h;case h_2=>cases h
 rename_i d hd;obtain⟨h1,h2⟩:=hf d a h;have hget:act.tmps[d]?=some (act.tmps.getD d undef):=by
  have:d<act.tmps.size:=by rw[hN];exact h1
  simp[this]
 have hy:yielded ops act.tmps j=match act.tmps.getD d undef with|.bool b=>some b|_=>none:=by unfold yielded;simp only[ho,I1,hd];rw[hget];generalize act.tmps.getD d undef=v;cases v<;>rfl
 rw[hy];generalize act.tmps.getD d undef=v at h2;constructor;·rintro rfl;cases h2;rfl
 ·rintro y rfl;obtain⟨rfl,_⟩:=al h2;rfl
theorem yu{g:Gh}{act:Act}{w:World}{t:Nat->Option AV}(hf:∀i a,t i=some a->i<N/\Rep g w (act.tmps.getD i undef) a){j:Nat}{y:Bool}(h:tI ops t j=some (.tr (.v (.bool y)))):∀i a,yj ops t j y i=some a->i<N/\Rep g w (act.tmps.getD i undef) a:=by
 intro i a hi;unfold yj at hi;unfold tI at h;cases ho:ops[j]? with
 |none=>rw[ho] at h;cases h
 |some o=>
  rw[ho] at h hi;have h:(match o.dst with|some d=>t d|none=>none)=some (.tr (.v (.bool y))):=h;have hi:(match o.dst with|some d=>putA t (some d) (.tr (.v (.bool y)))|none=>t) i=some a:=hi;cases hd:o.dst with
  |none=>rw[hd] at hi;exact hf i a hi
  |some d=>
   rw[hd] at hi h;have h:t d=some (.tr (.v (.bool y))):=h;have hi:(bif Nat.beq i d then some (.tr (.v (.bool y))) else t i)=some a:=hi;by_cases hid:i=d;·subst hid;rw[HC,r7] at hi;cases hi;exact hf i _ h
   ·rw[bA hid,lh] at hi;exact hf i a hi
end
def deps(ops:Array Oper)(i:Nat):List Nat:=((ops[i]?).map fun o=>(o.after.toList.filter (Region.binds .any)).map (·.on)).getD []
def upw(ops:Array Oper):Bool:=(List.range ops.size).all fun i=>(deps ops i).all fun j=>Nat.blt j i
def bef(ops:Array Oper):Nat->Nat->Nat->Bool
 |0,_,_=>false
 |f+1,i,j=>(deps ops i).any (fun d=>Nat.beq d j)||(deps ops i).any fun d=>Nat.blt j d&&bef ops f d j
structure Ft where
 rd:List Nat
 up:List Nat
def v7(a b:List Nat):Bool:=a.any fun x=>has b x
def qu(x y:Ft):Bool:=!v7 x.up y.rd && !v7 x.up y.up && !v7 y.up x.rd
def Br(ops:Array Oper)(fts:List Ft)(i j:Nat):Bool:=
 bef ops ops.size j i||(match ops[i]?,ops[j]?,fts[i]?,fts[j]? with
  |some x,some y,some a,some b=>x.apart ops y&&qu a b
  |_,_,_,_=>false)
def bN(ops:Array Oper)(fts:List Ft):Bool:=upw ops&&(List.range ops.size).all fun j=>(List.range j).all fun i=>Br ops fts i j
def evR(ops:Array Oper)(o:Oper)(t:Nat->Option AV):Operand->Option AV
 | .tmp i=>bif has (o.looksAt ops) i then t i else none
 |x=>evA t x
structure Rc where
 a:AV
 rd:List (Nat×Blk)
 up:List (Nat×Option Blk)
 run:Bool
def Rc.ft(c:Rc):Ft:=⟨c.rd.map (·.1),c.up.map (·.1)⟩
def bV(ops:Array Oper)(t:Nat->Option AV)(o:Oper)(run:Bool):Prop:=
 match o.guard with
 |none=>run=true
 |some (j,want)=>(tI ops t j=some .und/\run=false)\/∃y,tI ops t j=some (.tr (.v (.bool y)))/\run=(y==want)
def xZ(P:Program)(N:Nat)(ops:Array Oper)(nh:Nat):List Oper->Nat->AS->List Rc->AS->Prop
 |[],_,s,[],sf=>sf=s
 | o::r,i,s,c::cs,sf=>dstOk N o.dst=true/\bV ops s.t o c.run/\mN s.m (nh+i) c.rd c.up/\(c.run=true->gA P o (nh+i) (evR ops o s.t) c.rd c.up c.a false)/\(c.run=false->c.a = .und/\c.up=[]) /\
   xZ P N ops nh r (i+1) (s.put o.dst c.a c.up) cs sf
 |_,_,_,_,_=>False
section
variable {P:Program} {T:Ty} {N:Nat} {ops:Array Oper} {nh:Nat} {g0:Gh} {w0:World}
def dG(ops:Array Oper)(i:Nat):Option Nat:=(ops[i]?).bind (·.dst)
def ar(ops:Array Oper)(R:Nat->Rc)(s:AS)(l:List Nat):AS:=l.foldl (fun s i=>s.put (dG ops i) (R i).a (R i).up) s
def wT(ops:Array Oper)(x i:Nat):Bool:=match dG ops i with|some d=>Nat.beq x d|none=>false
def wM(R:Nat->Rc)(h i:Nat):Bool:=has ((R i).up.map (·.1)) h
theorem rA{α:Type}{l:List (Nat×α)}{h:Nat}:has (l.map (·.1)) h=true<->∃x,lk l h=some x:=by
 induction l with
 |nil=>simp[has,lk]
 |cons p r ih=>
  obtain⟨k,x⟩:=p;rw[GO,show has (k::r.map (·.1)) h=(Nat.beq k h||has (r.map (·.1)) h) from rfl,bZ];cases Nat.beq k h with
  |true=>simp
  |false=>simpa using ih
theorem foldS_snoc(R:Nat->Rc)(s:AS)(l:List Nat)(i:Nat):ar ops R s (l++[i])=(ar ops R s l).put (dG ops i) (R i).a (R i).up:=by simp[ar]
theorem f7{α:Type}{p:List α->Prop}(h0:p [])(h1:∀l a,p l->p (l++[a])):∀l,p l:=by
 intro l;have:∀n (l:List α),l.length=n->p l:=by
  intro n;induction n with
  |zero=>intro l h;rw[List.length_eq_zero_iff.1 h];exact h0
  |succ n ih=>
   intro l h;have hne:l≠[]:=fun e=>by rw[e] at h;simp at h
   rw[<-List.dropLast_concat_getLast hne];exact h1 _ _ (ih _ (by simp[h]))
 exact this _ l rfl
theorem l4(R:Nat->Rc)(s:AS)(x:Nat):∀l:List Nat,(ar ops R s l).t x=match(l.filter (wT ops x)).getLast? with|some i=>some (R i).a|none=>s.t x:=by
 apply f7;·rfl
 ·intro l i ih;rw[foldS_snoc,Ho];cases hw:wT ops x i with
  |true=>
   rw[HX hw,H0,JN];unfold wT at hw;split at hw
   ·rename_i d hd;show putA _ (dG ops i) _ x=_;rw[hd];simp only[putA,hw,r7]
   ·cases hw
  |false=>
   rw[HY (by simp[hw]),H0,G7,<-ih];unfold wT at hw;show putA _ (dG ops i) _ x=_;split at hw;·rename_i d hd;rw[hd];simp only[putA,hw,lh]
   ·rename_i hd;rw[hd];rfl
theorem ju(R:Nat->Rc)(s:AS)(h:Nat):∀l:List Nat,(ar ops R s l).m h=match(l.filter (wM R h)).getLast? with|some i=>(lk (R i).up h).getD none|none=>s.m h:=by
 apply f7;·rfl
 ·intro l i ih;rw[foldS_snoc,Ho];cases hw:wM R h i with
  |true=>
   rw[HX hw,H0,JN];obtain⟨x,hx⟩:=rA.1 hw;show bL _ _ h=_;unfold bL;simp only[hx,Hs]
  |false=>
   rw[HY (by simp[hw]),H0,G7,<-ih];show bL _ _ h=_;unfold bL;cases hx:lk (R i).up h with
   |none=>rfl
   |some x=>rw[wM,rA.2 ⟨x,hx⟩] at hw;cases hw
theorem re(R:Nat->Rc)(s:AS):∀l:List Nat,(ar ops R s l).nx=s.nx:=by
 apply f7;·rfl
 ·intro l i ih;rw[foldS_snoc];exact ih
theorem ta{p:Nat->Bool}{i n:Nat}(hi:i<n)(hp:p i=true)(hl:∀k,i<k->k<n->p k=false):((List.range n).filter p).getLast?=some i:=by
 induction n with
 |zero=>omega
 |succ n ih=>
  rw[Hk,Ho];by_cases hin:i=n;·subst hin;rw[HX hp];simp
  ·rw[HY (by simp[hl n JQ JQ])];simp only[H0,G7];exact ih JQ (fun k h1 h2=>hl k h1 JQ)
theorem dg{p q:Nat->Bool}{n:Nat}(h:∀k,k<n->p k=q k):(List.range n).filter p=(List.range n).filter q:=
 List.filter_congr fun k hk=>h k (G3.1 hk)
theorem jf{i n:Nat}(hi:i<=n):(List.range n).filter (fun k=>decide (k<i))=List.range i:=by
 induction n with
 |zero=>
      obtain rfl:i=0:=JQ;rfl
 |succ n ih=>
  rw[Hk,Ho];by_cases hin:i=n+1
  ·subst hin;rw[HX JX,Hk,H0];congr 1;rw[IC];intro k hk;have:=G3.1 hk;simp;omega
  ·rw[HY (by simp;omega),H0,G7];exact ih JQ
theorem eQ{E:Nat->Prop}(hE:∀i,E i->∀d∈deps ops i,E d):∀(f i j:Nat),bef ops f i j=true->(∀d∈deps ops i,E d)->E j:=by
 intro f;induction f with
 |zero=>intro i j h;cases h
 |succ f ih=>
  intro i j h hd;unfold bef at h;simp only[Ib,Ix,t4] at h;rcases h with⟨d,h1,h2⟩|⟨d,h1,_,h2⟩
  ·exact xx h2 ▸ hd d h1
  ·exact ih d j h2 (hE d (hd d h1))
def recAt(cs:List Rc)(i:Nat):Rc:=cs.getD i ⟨.und,[],[],false⟩
theorem xZ.at{R:Nat->Rc}{s0:AS}:∀(l:List Oper)(i:Nat)(s:AS)(cs:List Rc)(sf:AS),xZ P N ops nh l i s cs sf->(∀j,l[j]?=ops[i+j]?)->(∀j,j<l.length->R (i+j)=recAt cs j)->s=ar ops R s0 (List.range i) ->
  sf=ar ops R s0 (List.range (i+l.length))/\cs.length=l.length/\∀j o,l[j]?=some o->dstOk N o.dst=true/\bV ops (ar ops R s0 (List.range (i+j))).t o (R (i+j)).run/\mN (ar ops R s0 (List.range (i+j))).m (nh+(i+j)) (R (i+j)).rd (R (i+j)).up /\
   ((R (i+j)).run=true->gA P o (nh+(i+j)) (evR ops o (ar ops R s0 (List.range (i+j))).t) (R (i+j)).rd (R (i+j)).up (R (i+j)).a false)/\((R (i+j)).run=false->(R (i+j)).a=.und/\(R (i+j)).up=[]):=by
 intro l;induction l with
 |nil=>
  intro i s cs sf h _ _ hs;cases cs with
  |nil=>exact⟨by rw[show sf=s from h,hs];rfl,rfl,fun j o h=>by simp at h⟩
  |cons=>exact h.elim
 |cons o r ih=>
  intro i s cs sf h hl hR hs;cases cs with
  |nil=>exact h.elim
  |cons c cs=>
   obtain⟨h1,h2,h3,h4,h5,h6⟩:=h;have hRi:R i=c:=by have:=hR 0 JX;simpa[recAt] using this
   have ho:ops[i]?=some o:=by have:=hl 0;simpa using this.symm
   have hd:dG ops i=o.dst:=by simp[dG,ho]
   obtain⟨q1,q2,q3⟩:=ih (i+1) (s.put o.dst c.a c.up) cs sf h6 (fun j=>by have:=hl (j+1);rw[(JQ:i+(j+1)=i+1+j)] at this;simpa using this)
    (fun j hj=>by have:=hR (j+1) (by simp;omega);rw[(JQ:i+(j+1)=i+1+j)] at this;simpa[recAt] using this)
    (by rw[Hk,foldS_snoc,hd,hRi,<-hs])
   refine⟨by rw[q1,E0,(JQ:i+(r.length+1)=i+1+r.length)],by simp[q2],fun j o' hj=>?_⟩;cases j with
   |zero=>
    simp at hj;subst hj;rw[HR,hRi,<-hs];exact⟨h1,h2,h3,h4,h5⟩
   |succ j=>
    have:=q3 j o' (by simpa using hj)
    rwa [(JQ:i+1+j=i+(j+1))] at this
theorem rD{i:Nat}{listed:Array Bool}(h:i∈Region.ready .any ops listed):
  i<ops.size/\listed.getD i true=false/\∀j∈deps ops i,listed.getD j false=true:=by
 obtain⟨h1,h2⟩:=HB.1 h;have hi:=G3.1 h1;refine⟨hi,?_,?_⟩;·cases hl:listed.getD i true<;>simp_all
 ·intro j hj;cases ho:ops[i]? with
  |none=>simp[deps,ho] at hj
  |some o=>
   simp only[deps,ho,G5,Hs,GM,HB] at hj;obtain⟨e,⟨he,hb⟩,rfl⟩:=hj;simp only[ho,G5,Hs,t4] at h2;have h3:=Ji.1 h2.2 e (by simpa using he);simpa[hb] using h3
theorem Be{listed:Array Bool}{i:Nat}(h:i<listed.size)(d d':Bool):listed.getD i d=listed.getD i d':=by simp[Array.getD,h]
theorem Ei{listed:Array Bool}(hu:∀i,i<ops.size->∀j∈deps ops i,j<i)(hs:listed.size=ops.size)(hr:Region.ready .any ops listed=[]):
  ∀i,i<ops.size->listed.getD i true=true:=by
 intro i;induction i using Nat.strongRecOn with
 |_ i ih=>
  intro hi;cases hl:listed.getD i true with
  |true=>rfl
  |false=>
   exfalso;have:i∈Region.ready .any ops listed:=by
    refine HB.2 ⟨G3.2 hi,?_⟩;have ho:ops[i]?=some ops[i]:=by simp[hi]
    simp only[hl,ho,G5,Hs,Iv,GS];refine Ji.2 fun e he=>?_;cases hb:Region.binds .any e with
    |false=>simp
    |true=>
     simp only[Im,GU];have hd:e.on∈deps ops i:=by simp only[deps,ho,G5,Hs,GM,HB];exact⟨e,⟨by simpa using he,hb⟩,rfl⟩
     have hlt:e.on<i:=hu i hi _ hd;rw[Be JQ false true];exact ih e.on hlt JQ
   rw[hr] at this;cases this
theorem dX(listed:Array Bool)(i:Nat)(h:i<listed.size):(listed.setIfInBounds i true).getD i true=true:=by simp[Array.getD,h]
theorem dd(listed:Array Bool){i j:Nat}(h:j≠i):(listed.setIfInBounds i true).getD j true=listed.getD j true:=by
 by_cases hj:j<listed.size;·simp[Array.getD,hj,Jg,Kb h]
 ·simp[Array.getD,hj]
theorem ru{listed:Array Bool}{i:Nat}(hi:i<listed.size)(h:listed.getD i true=false)(n:Nat)(hn:listed.toList.countP (fun b=>!b)<=n+1):
  (listed.setIfInBounds i true).toList.countP (fun b=>!b)<=n:=by
 rw[Array.toList_setIfInBounds];have h1:listed.toList[i]?=some false:=by
  have:listed[i]=false:=by simpa[Array.getD,hi] using h
  simp[hi,this]
 clear hi h;generalize listed.toList=l at *
 induction l generalizing i n with
 |nil=>simp at h1
 |cons x xs ih=>
  cases i with
  |zero=>simp at h1;subst h1;simp at hn |-;omega
  |succ i=>
   simp only[List.getElem?_cons_succ] at h1;simp only[List.set_cons_succ,List.countP_cons] at hn |-
   by_cases hx:(!x)=true
   ·simp only[hx,I6] at hn |-
    cases n with
    |zero=>
     have:0<xs.countP (fun b=>!b):=JT.2 ⟨false,i3 h1,rfl⟩;omega
    |succ n=>have:=ih n JQ h1;omega
   ·simp only[hx] at hn |-
    have:=ih n (by simpa using hn) h1;simpa using this
structure Inv(g0:Gh)(w0:World)(N:Nat)(ops:Array Oper)(nh:Nat)(R:Nat->Rc)(s0:AS)(E:Nat->Bool)(act:Act)(w:World):Prop where
 size:act.tmps.size=N
 defers:act.defers=g0.D
 rest:∃g,(∀i a,(ar ops R s0 ((List.range ops.size).filter E)).t i=some a->i<N/\Rep g w (act.tmps.getD i undef) a)/\MSt g w (ar ops R s0 ((List.range ops.size).filter E)).m/\(∀h,nh<=h % HMod->(∀i,i<ops.size->E i=true->h % HMod≠nh+i)->g h=.un)/\Grow g0 w0 g w
theorem jW{fts:List Ft}(h:bN ops fts=true){i j:Nat}(hij:i<j)(hj:j<ops.size)(hb:bef ops ops.size j i=false):∃x y a b,ops[i]?=some x/\ops[j]?=some y/\fts[i]?=some a/\fts[j]?=some b/\x.apart ops y=true/\qu a b=true:=by
 unfold bN at h;simp only[t4,GQ,G3] at h;have:=h.2 j hj i hij;unfold Br at this;rw[hb,GU] at this;split at this
 ·rename_i x y a b e1 e2 e3 e4;simp only[t4] at this;exact⟨x,y,a,b,e1,e2,e3,e4,this.1,this.2⟩
 ·cases this
theorem dV{a b:List Nat}(h:v7 a b=false):∀x,x∈a->x∉b:=by intro x hx hb;unfold v7 at h;rw[Iq] at h;exact h x hx (c8.2 hb)
theorem gE{cs:List Rc}{s0:AS}{E:Nat->Bool}(hok:bN ops (cs.map Rc.ft)=true)(hE:∀i,i<ops.size->E i=true->∀d∈deps ops i,E d=true){i:Nat}(hi:i<ops.size)(hEi:E i=false)(hdep:∀d∈deps ops i,E d=true){o:Oper}(ho:ops[i]?=some o):
  (∀x,x∈o.looksAt ops->(ar ops (recAt cs) s0 ((List.range ops.size).filter E)).t x=(ar ops (recAt cs) s0 (List.range i)).t x) /\
  (∀h,h∈(recAt cs i).rd.map (·.1)->(ar ops (recAt cs) s0 ((List.range ops.size).filter E)).m h=(ar ops (recAt cs) s0 (List.range i)).m h) /\
  ∀E':Nat->Bool,(∀k,k<ops.size->E' k=(Nat.beq k i||E k))->ar ops (recAt cs) s0 ((List.range ops.size).filter E')=(ar ops (recAt cs) s0 ((List.range ops.size).filter E)).put o.dst (recAt cs i).a (recAt cs i).up:=by
 have hup:∀j,j<ops.size->∀d∈deps ops j,d<j:=fun j hj d hd=>by have h:=hok;unfold bN upw at h;simp only[t4,GQ,G3] at h;exact oo (h.1 j hj d hd)
 have hcl:∀k,k<ops.size->(∀d∈deps ops k,E d=true)->∀j,bef ops ops.size k j=true->E j=true:=fun k hk hd j hb=>
  eQ (E:=fun j=>E j=true/\j<ops.size) (fun j hj d hd'=>⟨hE j hj.2 hj.1 d hd',Ig (hup j hj.2 d hd') hj.2⟩) ops.size k j hb (fun d hd'=>⟨hd d hd',Ig (hup k hk d hd') hk⟩) |>.1
 have hft:∀k a,(cs.map Rc.ft)[k]?=some a->a=(recAt cs k).ft:=fun k a h=>by simp only[z5,z9] at h;obtain⟨c,h1,rfl⟩:=h;simp[recAt,h1]
 have hdst:dG ops i=o.dst:=by simp[dG,ho]
 have indep:∀k,k<ops.size->((k<i/\E k=false)\/(i<k/\E k=true))->(∀x,x∈o.looksAt ops->wT ops x k=false)/\(∀x,o.dst=some x->wT ops x k=false)/\(∀h,h∈(recAt cs i).rd.map (·.1)->wM (recAt cs) h k=false)/\∀h,h∈(recAt cs i).up.map (·.1)->wM (recAt cs) h k=false:=by
  intro k hk hcase;have wTf:∀ {x:Nat} {y:Oper},ops[k]?=some y->(∀d,y.dst=some d->x≠d)->wT ops x k=false:=fun{x y} hy hne=>by
   unfold wT dG;rw[hy];cases hd:y.dst with
   |none=>simp[hd]
   |some d=>simp only[I1,hd];exact bA (hne d hd)
  have wMf:∀ {h:Nat},h∉(recAt cs k).up.map (·.1)->wM (recAt cs) h k=false:=fun{h} hn=>by
   unfold wM;cases hh:has ((recAt cs k).up.map (·.1)) h with
   |false=>rfl
   |true=>exact absurd (c8.1 hh) hn
  rcases hcase with⟨h1,h2⟩|⟨h1,h2⟩
  ·have hb:bef ops ops.size i k=false:=by
    cases hb:bef ops ops.size i k with
    |false=>rfl
    |true=>rw[hcl i hi hdep k hb] at h2;cases h2
   obtain⟨x,y,a,b,e1,e2,e3,e4,e5,e6⟩:=jW hok h1 hi hb;rw[ho] at e2;cases e2;rw[hft k a e3,hft i b e4] at e6;obtain⟨p1,p2,p3⟩:=Oper.apart_spec e5;unfold qu at e6;simp only[t4,Ha] at e6;refine⟨fun z hz=>wTf e1 fun d hd=>?_,fun z hz=>wTf e1 fun d hd=>?_,fun h hh=>wMf fun hm=>?_,fun h hh=>wMf fun hm=>?_⟩;·rintro rfl;exact p1 z hd hz
   ·rintro rfl;exact p2 z hd hz
   ·exact dV e6.1.1 h hm hh
   ·exact dV e6.1.2 h hm hh
  ·have hb:bef ops ops.size k i=false:=by
    cases hb:bef ops ops.size k i with
    |false=>rfl
    |true=>rw[hcl k hk (hE k hk h2) i hb] at hEi;cases hEi
   obtain⟨x,y,a,b,e1,e2,e3,e4,e5,e6⟩:=jW hok h1 hk hb;rw[ho] at e1;cases e1;rw[hft i a e3,hft k b e4] at e6;obtain⟨p1,p2,p3⟩:=Oper.apart_spec e5;unfold qu at e6;simp only[t4,Ha] at e6;refine⟨fun z hz=>wTf e2 fun d hd=>?_,fun z hz=>wTf e2 fun d hd=>?_,fun h hh=>wMf fun hm=>?_,fun h hh=>wMf fun hm=>?_⟩;·rintro rfl;exact p3 z hd hz
   ·rintro rfl;exact p2 z hz hd
   ·exact dV e6.2 h hm hh
   ·exact dV e6.1.2 h hh hm
 have same:∀(p:Nat->Bool),(∀k,k<ops.size->((k<i/\E k=false)\/(i<k/\E k=true))->p k=false)->((List.range ops.size).filter E).filter p=(List.range i).filter p:=by
  intro p hp;rw[<-jf (Ke hi),Ih,Ih];refine dg fun k hk=>?_;cases hpk:p k with
  |false=>rfl
  |true=>
   simp only[GS];rcases IS k i with h|h|h
   ·cases hEk:E k with
    |true=>simp[h]
    |false=>rw[hp k hk (.inl ⟨h,hEk⟩)] at hpk;cases hpk
   ·subst h;rw[hEi];simp
   ·cases hEk:E k with
    |true=>rw[hp k hk (.inr ⟨h,hEk⟩)] at hpk;cases hpk
    |false=>simp;omega
 refine⟨fun x hx=>?_,fun h hh=>?_,fun E' hE'=>?_⟩;·rw[l4,l4,same _ fun k hk hc=>(indep k hk hc).1 x hx]
 ·rw[ju,ju,same _ fun k hk hc=>(indep k hk hc).2.2.1 h hh]
 ·have hlast:∀(p:Nat->Bool),p i=true->(∀k,k<ops.size->((k<i/\E k=false)\/(i<k/\E k=true))->p k=false)->(((List.range ops.size).filter E').filter p).getLast?=some i:=by
   intro p hpi hp;rw[Ih];refine ta hi (by simp[hpi,hE' i hi]) fun k h1 h2=>?_;rw[hE' k h2];cases hEk:E k with
   |true=>simp[hp k h2 (.inr ⟨h1,hEk⟩)]
   |false=>simp[bA (Nat.ne_of_gt h1)]
  have hskip:∀(p:Nat->Bool),p i=false->((List.range ops.size).filter E').filter p=((List.range ops.size).filter E).filter p:=by
   intro p hpi;rw[Ih,Ih];refine dg fun k hk=>?_;rw[hE' k hk];by_cases hki:k=i;·subst hki;rw[hpi];rfl
   ·rw[bA hki,GU]
  have ht:(ar ops (recAt cs) s0 ((List.range ops.size).filter E')).t=((ar ops (recAt cs) s0 ((List.range ops.size).filter E)).put o.dst (recAt cs i).a (recAt cs i).up).t:=by
   funext x;rw[l4];show _=putA _ o.dst _ x;cases hw:wT ops x i with
   |true=>
    have hd:o.dst=some x:=by
     unfold wT at hw;rw[hdst] at hw;split at hw;·rename_i d hd;rw[hd,xx hw]
     ·cases hw
    rw[hlast _ hw fun k hk hc=>(indep k hk hc).2.1 x hd,hd];simp[putA]
   |false=>
    rw[hskip _ hw,<-l4];unfold wT at hw;rw[hdst] at hw;split at hw;·rename_i d hd;rw[hd];simp only[putA,hw,lh]
    ·rename_i hd;rw[hd];rfl
  have hm:(ar ops (recAt cs) s0 ((List.range ops.size).filter E')).m=((ar ops (recAt cs) s0 ((List.range ops.size).filter E)).put o.dst (recAt cs i).a (recAt cs i).up).m:=by
   funext h;rw[ju];show _=bL _ _ h;cases hw:wM (recAt cs) h i with
   |true=>
    rw[hlast _ hw fun k hk hc=>(indep k hk hc).2.2.2 h (c8.1 hw)];obtain⟨x,hx⟩:=rA.1 hw;simp only[bL,hx,Hs]
   |false=>
    rw[hskip _ hw,<-ju];unfold bL;cases hx:lk (recAt cs i).up h with
    |none=>rfl
    |some x=>rw[wM,rA.2 ⟨x,hx⟩] at hw;cases hw
  have hn:(ar ops (recAt cs) s0 ((List.range ops.size).filter E')).nx=((ar ops (recAt cs) s0 ((List.range ops.size).filter E)).put o.dst (recAt cs i).a (recAt cs i).up).nx:=by rw[re];show s0.nx=(ar ops (recAt cs) s0 ((List.range ops.size).filter E)).nx;rw[re]
  generalize ar ops (recAt cs) s0 ((List.range ops.size).filter E')=A at ht hm hn |-
  generalize (ar ops (recAt cs) s0 ((List.range ops.size).filter E)).put o.dst (recAt cs i).a (recAt cs i).up=B at ht hm hn |-
  cases A;cases B;simp only at ht hm hn;rw[ht,hm,hn]
def SOk(s:AS):Prop:=∃g w,MSt g w s.m/\∀i a,s.t i=some a->∃v,Rep g w v a
theorem St.ok{g0 g:Gh}{w0 w:World}{act:Act}{s:AS}(h:St g0 w0 N g act w s):SOk s:=⟨g,w,h.mem,fun i a hi=>⟨_,(h.fr i a hi).2⟩⟩
theorem jP{cs:List Rc}{s0:AS}{listed:Array Bool}{i:Nat}{o:Oper}{g:Gh}{w:World}{act:Act}(t1:∀x,x∈o.looksAt ops->(ar ops (recAt cs) s0 ((List.range ops.size).filter fun k=>listed.getD k true)).t x=(ar ops (recAt cs) s0 (List.range i)).t x)
  (g1:∀x a,(ar ops (recAt cs) s0 ((List.range ops.size).filter fun k=>listed.getD k true)).t x=some a->x<N/\Rep g w (act.tmps.getD x undef) a):∀x b,evR ops o (ar ops (recAt cs) s0 (List.range i)).t x=some b->Rep g w (act.eval x) b:=by
 have hlook:∀x a,has (o.looksAt ops) x=true->(ar ops (recAt cs) s0 (List.range i)).t x=some a->x<N/\Rep g w (act.tmps.getD x undef) a:=fun x a hx ha=>g1 x a (by rw[t1 x (c8.1 hx)];exact ha);intro x b hx
 ·cases x with
  |tmp k=>
   have hx:(bif has (o.looksAt ops) k then(ar ops (recAt cs) s0 (List.range i)).t k else none)=some b:=hx;cases hh:has (o.looksAt ops) k with
   |false=>rw[hh] at hx;cases hx
   |true=>rw[hh,r7] at hx;exact(hlook k b hh hx).2
  | const v=>exact iu (N:=N) (act:=act) (g:=g) (w:=w) (t:=fun _=>none) (fun _ _ h=>by cases h) (.const v) b (by have hx:evA (ar ops (recAt cs) s0 (List.range i)).t (.const v)=some b:=hx;rw[<-hx];unfold evA;cases v<;>rfl)
  |global k=>cases hx
  |func f=>exact iu (N:=N) (act:=act) (g:=g) (w:=w) (t:=fun _=>none) (fun _ _ h=>by cases h) (.func f) b hx
theorem oG{cs:List Rc}{s0:AS}{listed:Array Bool}{i:Nat}{o:Oper}{g:Gh}{w:World}{act:Act}{run:Bool}(hsize:act.tmps.size=N)(t1:∀x,x∈o.looksAt ops->(ar ops (recAt cs) s0 ((List.range ops.size).filter fun k=>listed.getD k true)).t x=(ar ops (recAt cs) s0 (List.range i)).t x)
  (g1:∀x a,(ar ops (recAt cs) s0 ((List.range ops.size).filter fun k=>listed.getD k true)).t x=some a->x<N/\Rep g w (act.tmps.getD x undef) a) (f2:bV ops (ar ops (recAt cs) s0 (List.range i)).t o run):Region.wanted o (yielded ops act.tmps)=run:=by
 unfold bV at f2
 ·unfold Region.wanted;split at f2;·rename_i hg;rw[hg,f2]
  ·rename_i j want hg;rw[hg];have hgv:∀a,tI ops (ar ops (recAt cs) s0 (List.range i)).t j=some a->tI ops (ar ops (recAt cs) s0 ((List.range ops.size).filter fun k=>listed.getD k true)).t j=some a:=fun a ha=>by
    unfold tI at ha |-
    cases hj:ops[j]? with
    |none=>rw[hj] at ha;cases ha
    |some oj=>
     rw[hj] at ha;have ha:(match oj.dst with|some d=>(ar ops (recAt cs) s0 (List.range i)).t d|none=>none)=some a:=ha;cases hd:oj.dst with
     |none=>rw[hd] at ha;cases ha
     |some d=>
      rw[hd] at ha;have ha:(ar ops (recAt cs) s0 (List.range i)).t d=some a:=ha;show(match oj.dst with|some d=>(ar ops (recAt cs) s0 ((List.range ops.size).filter fun k=>listed.getD k true)).t d|none=>none)=some a;rw[hd];show(ar ops (recAt cs) s0 ((List.range ops.size).filter fun k=>listed.getD k true)).t d=some a;rw[t1 d (by unfold Oper.looksAt;rw[hg];simp[hj,hd])];exact ha
   rcases f2 with⟨e1,e2⟩|⟨y,e1,e2⟩
   ·have:=(eZ hsize g1 (hgv _ e1)).1 rfl;rw[e2];show(yielded ops act.tmps j==some want)=false;rw[this];rfl
   ·have:=(eZ hsize g1 (hgv _ e1)).2 y rfl;rw[e2];show(yielded ops act.tmps j==some want)=_;rw[this];cases y<;>cases want<;>rfl
def gK(P:Program)(N:Nat)(ops:Array Oper)(nh:Nat)(R:Nat->Rc)(s0:AS)(i:Nat)(o:Oper)(pan:Bool):Prop:=
 dstOk N o.dst=true/\bV ops (ar ops R s0 (List.range i)).t o (R i).run/\mN (ar ops R s0 (List.range i)).m (nh+i) (R i).rd (R i).up /\
  ((R i).run=true->gA P o (nh+i) (evR ops o (ar ops R s0 (List.range i)).t) (R i).rd (R i).up (R i).a pan)/\((R i).run=false->(R i).a=.und/\(R i).up=[])
theorem Inv.next{cs:List Rc}{s0:AS}{listed:Array Bool}{i:Nat}{o:Oper}{act:Act}{w w':World}{g g':Gh}{v:Value}{a:AV}{up:List (Nat×Option Blk)}(h1:i<ops.size)(hs:listed.size=ops.size)(hd:dstOk N o.dst=true)(hN:act.tmps.size=N)(hD:act.defers=g0.D)
  (g1:∀x a,(ar ops (recAt cs) s0 ((List.range ops.size).filter fun k=>listed.getD k true)).t x=some a->x<N/\Rep g w (act.tmps.getD x undef) a) (g3:∀h,nh<=h % HMod->(∀i,i<ops.size->listed.getD i true=true->h % HMod≠nh+i)->g h=.un) (g4:Grow g0 w0 g w)
  (hput:(ar ops (recAt cs) s0 ((List.range ops.size).filter fun k=>(listed.setIfInBounds i true).getD k true))=(ar ops (recAt cs) s0 ((List.range ops.size).filter fun k=>listed.getD k true)).put o.dst a up)
  (e1:Rep g' w' v a) (e2:MSt g' w' (bL (ar ops (recAt cs) s0 ((List.range ops.size).filter fun k=>listed.getD k true)).m up)) (e3:Grow g w g' w') (e4:∀h,h % HMod≠nh+i->g h=.un->g' h=.un):Inv g0 w0 N ops nh (recAt cs) s0 (fun k=>(listed.setIfInBounds i true).getD k true) (act.put o.dst v) w':=by
 obtain⟨p1,p2⟩:=d8 (dst:=o.dst) hN g1 e3 hd e1;refine⟨p1,(bc ..).trans hD,g',?_,?_,fun h hh hn=>?_,g4.trans e3⟩;·rw[hput];exact p2
 ·rw[hput];exact e2
 ·have hne:h % HMod≠nh+i:=hn i h1 (dX _ _ JQ);refine e4 h hne (g3 h hh fun k hk hEk=>?_);by_cases hki:k=i;·subst hki;exact hne
  ·exact hn k hk (by rw[dd _ hki];exact hEk)
theorem AK{listed:Array Bool}{i:Nat}(hs:listed.size=ops.size)(h1:i<ops.size):∀k,k<ops.size->(fun k=>(listed.setIfInBounds i true).getD k true) k=(Nat.beq k i||(fun k=>listed.getD k true) k):=fun k hk=>by
 simp only;by_cases hki:k=i;·subst hki;rw[dX _ _ JQ];simp
 ·rw[dd _ hki,bA hki,GU]
theorem lq{fts:List Ft}(hok:bN ops fts=true):∀j,j<ops.size->∀d∈deps ops j,d<j:=fun j hj d hd=>by have h:=hok;unfold bN upw at h;simp only[t4,GQ,G3] at h;exact oo (h.1 j hj d hd)
theorem nB{listed:Array Bool}{i:Nat}(hcl:∀i,i<ops.size->listed.getD i true=true->∀d∈deps ops i,listed.getD d true=true)(h3:∀d∈deps ops i,listed.getD d true=true)(hi:i<listed.size):∀k,k<ops.size->(listed.setIfInBounds i true).getD k true=true->∀d∈deps ops k,(listed.setIfInBounds i true).getD d true=true:=fun k hk hlk d hd=>by
 by_cases hdi:d=i;·subst hdi;exact dX _ _ hi
 ·rw[dd _ hdi];by_cases hki:k=i;·subst hki;exact h3 d hd
  ·rw[dd _ hki] at hlk;exact hcl k hk hlk d hd
theorem CR{listed:Array Bool}{i:Nat}{g:Gh}(h1:i<ops.size)(h2:listed.getD i true=false)(g3:∀h,nh<=h % HMod->(∀i,i<ops.size->listed.getD i true=true->h % HMod≠nh+i)->g h=.un):∀k,k % HMod=nh+i->g k=.un:=fun k' hk'=>g3 _ JQ fun k hk hEk=>by intro e;have:k=i:=JQ;subst this;rw[h2] at hEk;cases hEk
def rm(V:Mem->Prop)(P:Program)(o:Oper)(nh:Nat)(ev:Operand->Option AV)(rd:List (Nat×Blk))(up:List (Nat×Option Blk))(a:AV):Prop:=
 ∀(g:Gh)(w:World)(m:Mem)(act:Act)(Kc:Act->World->Prop)(Q:Exit->Act->World->Prop),MSt g w m->(∀k,k % HMod=nh->g k=.un)->V m->(∀p∈rd,m p.1=some p.2)->(∀x b,ev x=some b->Rep g w (act.eval x) b) ->
  (∀v w' g',Rep g' w' v a->MSt g' w' (bL m up)->Grow g w g' w'->(∀h,h % HMod≠nh->g h=.un->g' h=.un)->Kc (act.put o.dst v) w')->o.wp P act w Kc Q
def zL(V:Mem->Prop)(P:Program)(N:Nat)(ops:Array Oper)(nh:Nat)(R:Nat->Rc)(s0:AS)(i:Nat)(o:Oper):Prop:=
 dstOk N o.dst=true/\bV ops (ar ops R s0 (List.range i)).t o (R i).run/\mN (ar ops R s0 (List.range i)).m (nh+i) (R i).rd (R i).up /\
  ((R i).run=true->rm V P o (nh+i) (evR ops o (ar ops R s0 (List.range i)).t) (R i).rd (R i).up (R i).a)/\((R i).run=false->(R i).a=.und/\(R i).up=[])
theorem FC{V:Mem->Prop}{R:Nat->Rc}{s0:AS}(hV0:V s0.m)(hVu:∀i,i<ops.size->∀m,V m->V (bL m (R i).up)):∀l:List Nat,(∀i∈l,i<ops.size)->V (ar ops R s0 l).m:=
 f7 (fun _=>hV0) fun l i ih h=>by rw[foldS_snoc];exact hVu i (h i JX) _ (ih fun j hj=>h j (by simp[hj]))
theorem kT{V:Mem->Prop}{cs:List Rc}{s0:AS}{Q:Exit->Act->World->Prop}{sp:Nat->Bool}{M:Array Bool->Prop}(hok:bN ops (cs.map Rc.ft)=true)(hV0:V s0.m)(hVu:∀i,i<ops.size->∀m,V m->V (bL m (recAt cs i).up))
  (F:∀i o,sp i=false->ops[i]?=some o->zL V P N ops nh (recAt cs) s0 i o) (hM:∀listed i,M listed->sp i=false->M (listed.setIfInBounds i true))
  (hS:∀i o,sp i=true->ops[i]?=some o->∀fuel (listed:Array Bool) act w,M listed->listed.size=ops.size->listed.toList.countP (fun b=>!b)<=fuel+1->(∀i,i<ops.size->listed.getD i true=true->∀d∈deps ops i,listed.getD d true=true)->listed.getD i true=false->(∀d∈deps ops i,listed.getD d true=true) ->
   Inv g0 w0 N ops nh (recAt cs) s0 (fun i=>listed.getD i true) act w->wpOp P ops Q i (wpAny P .any ops Q fuel (listed.setIfInBounds i true)) act w)
  (hQ:∀(listed:Array Bool) act w,M listed->(∀i,i<ops.size->listed.getD i true=true)->Inv g0 w0 N ops nh (recAt cs) s0 (fun i=>listed.getD i true) act w->Q .normal act w) :
  ∀(fuel:Nat)(listed:Array Bool)(act:Act)(w:World),listed.size=ops.size->listed.toList.countP (fun b=>!b)<=fuel->(∀i,i<ops.size->listed.getD i true=true->∀d∈deps ops i,listed.getD d true=true)->M listed ->
   Inv g0 w0 N ops nh (recAt cs) s0 (fun i=>listed.getD i true) act w->wpAny P .any ops Q fuel listed act w:=by
 have hup:=lq hok;intro fuel;induction fuel with
 |zero=>
  intro listed act w hs hc hcl hm hI;have hall:∀i,i<ops.size->listed.getD i true=true:=fun i hi=>by
   cases hl:listed.getD i true with
   |true=>rfl
   |false=>
    have hi':i<listed.size:=JQ;have h0:listed[i]=false:=by simpa[Array.getD,hi'] using hl
    have:0<listed.toList.countP (fun b=>!b):=JT.2 ⟨false,by rw[<-h0];simp,rfl⟩;omega
  refine⟨?_,hQ listed act w hm hall hI⟩;refine I2.2 fun i hi=>?_;obtain⟨h1,h2,_⟩:=rD hi;rw[hall i h1] at h2;cases h2
 |succ fuel ih=>
  intro listed act w hs hc hcl hm hI;refine⟨fun hr=>hQ listed act w hm (Ei hup hs hr) hI,fun i hi=>?_⟩;obtain⟨h1,h2,h3⟩:=rD hi;have h3':∀d∈deps ops i,listed.getD d true=true:=fun d hd=>by rw[Be (by have:=hup i h1 d hd;omega) true false];exact h3 d hd
  have ho:ops[i]?=some ops[i]:=by simp[h1]
  generalize ops[i]=o at ho;cases hsp:sp i with
  |true=>exact hS i o hsp ho fuel listed act w hm hs hc hcl h2 h3' hI
  |false=>
  obtain⟨f1,f2,f3,f4,f5⟩:=F i o hsp ho;obtain⟨t1,t2,t3⟩:=gE (s0:=s0) hok hcl h1 h2 h3' ho;have hput:=t3 _ (AK hs h1);have hcl':=nB hcl h3' (by omega:i<listed.size);obtain⟨g,g1,g2,g3,g4⟩:=hI.rest;have hun:=CR h1 h2 g3;have next:∀v w' g',Rep g' w' v (recAt cs i).a->MSt g' w' (bL (ar ops (recAt cs) s0 ((List.range ops.size).filter fun k=>listed.getD k true)).m (recAt cs i).up)->Grow g w g' w'->(∀h,h % HMod≠nh+i->g h=.un->g' h=.un)->wpAny P .any ops Q fuel (listed.setIfInBounds i true) (act.put o.dst v) w':=fun v w' g' e1 e2 e3 e4=>
   ih _ _ _ (by simpa using hs) (ru JQ h2 _ hc) hcl' (hM _ _ hm hsp) (Inv.next h1 hs f1 hI.size hI.defers g1 g3 g4 hput e1 e2 e3 e4)
  unfold wpOp;rw[ho];simp only;rw[oG hI.size t1 g1 f2];cases hrun:(recAt cs i).run with
  |true=>
   rw[Gw rfl];refine .inl (f4 hrun g w _ act _ _ g2 hun (FC hV0 hVu _ fun k hk=>G3.1 (HB.1 hk).1) (fun p hp=>?_) (jP t1 g1) (fun v w' g' e1 e2 e3 e4=>next v w' g' e1 e2 e3 e4));rw[t2 p.1 (GM.2 ⟨p,hp,rfl⟩)];exact f3.1 p hp
  |false=>
   rw[GN JX];obtain⟨e1,e2⟩:=f5 hrun;exact next undef w g (by rw[e1];exact .und) (by rw[e2];exact g2) (Grow.refl _ _) fun _ _ h=>h
theorem f0{cs:List Rc}{s0:AS}{Q:Exit->Act->World->Prop}{sp:Nat->Bool}{M:Array Bool->Prop}(hok:bN ops (cs.map Rc.ft)=true)
  (F:∀i o,sp i=false->ops[i]?=some o->gK P N ops nh (recAt cs) s0 i o false) (hM:∀listed i,M listed->sp i=false->M (listed.setIfInBounds i true))
  (hS:∀i o,sp i=true->ops[i]?=some o->∀fuel (listed:Array Bool) act w,M listed->listed.size=ops.size->listed.toList.countP (fun b=>!b)<=fuel+1->(∀i,i<ops.size->listed.getD i true=true->∀d∈deps ops i,listed.getD d true=true)->listed.getD i true=false->(∀d∈deps ops i,listed.getD d true=true) ->
   Inv g0 w0 N ops nh (recAt cs) s0 (fun i=>listed.getD i true) act w->wpOp P ops Q i (wpAny P .any ops Q fuel (listed.setIfInBounds i true)) act w)
  (hQ:∀(listed:Array Bool) act w,M listed->(∀i,i<ops.size->listed.getD i true=true)->Inv g0 w0 N ops nh (recAt cs) s0 (fun i=>listed.getD i true) act w->Q .normal act w) :
  ∀(fuel:Nat)(listed:Array Bool)(act:Act)(w:World),listed.size=ops.size->listed.toList.countP (fun b=>!b)<=fuel->(∀i,i<ops.size->listed.getD i true=true->∀d∈deps ops i,listed.getD d true=true)->M listed ->
   Inv g0 w0 N ops nh (recAt cs) s0 (fun i=>listed.getD i true) act w->wpAny P .any ops Q fuel listed act w:=
 kT (V:=fun _=>True) hok trivial (fun _ _ _ _=>trivial) (fun i o h1 h2=>by obtain⟨f1,f2,f3,f4,f5⟩:=F i o h1 h2;exact⟨f1,f2,f3,fun hr g w m act Kc Q p1 p2 _ p3 p4 p5=>f4 hr g w m act Kc Q p1 p2 p3 p4 (fun _=>p5) (fun h=>by cases h),f5⟩) hM hS hQ
theorem iP{cs:List Rc}{s0:AS}{listed:Array Bool}{act:Act}{w:World}(hall:∀i,i<ops.size->listed.getD i true=true)(hI:Inv g0 w0 N ops nh (recAt cs) s0 (fun i=>listed.getD i true) act w):∃g,St g0 w0 N g act w { ar ops (recAt cs) s0 (List.range ops.size) with nx:=nh+ops.size }:=by obtain⟨g,h1,h2,h3,h4⟩:=hI.rest;have e:(List.range ops.size).filter (fun i=>listed.getD i true)=List.range ops.size:=IC.2 fun k hk=>hall k (G3.1 hk);rw[e] at h1 h2;exact⟨g,hI.size,hI.defers,h1,h2,fun h (hh:nh+ops.size<=h % HMod)=>h3 h JQ (fun i hi _=>JQ),h4⟩
theorem z7{cs:List Rc}{s0:AS}{Q:Exit->Act->World->Prop}(hok:bN ops (cs.map Rc.ft)=true)(F:∀i o,ops[i]?=some o->gK P N ops nh (recAt cs) s0 i o false)
  (hQ:∀act w g,St g0 w0 N g act w { ar ops (recAt cs) s0 (List.range ops.size) with nx:=nh+ops.size }->Q .normal act w)
  (fuel:Nat) (listed:Array Bool) (act:Act) (w:World) (hs:listed.size=ops.size) (hc:listed.toList.countP (fun b=>!b)<=fuel) (hcl:∀i,i<ops.size->listed.getD i true=true->∀d∈deps ops i,listed.getD d true=true)
  (hI:Inv g0 w0 N ops nh (recAt cs) s0 (fun i=>listed.getD i true) act w):wpAny P .any ops Q fuel listed act w:=
 f0 (sp:=fun _=>false) (M:=fun _=>True) hok (fun i o _ ho=>F i o ho) (fun _ _ _ _=>trivial) (fun _ _ h=>by cases h) (fun listed act w _ hall hI=>by obtain⟨g,h⟩:=iP hall hI;exact hQ act w g h) fuel listed act w hs hc hcl trivial hI
end
structure yX(k:Nat)(ρ nl:List Nat)(s s':AS):Prop where
 nodup:ρ.Nodup
 fix:∀h,h<k->ρ[h]?=some h
 fr:∀i a',s'.t i=some a'->∃a,s.t i=some a/\cv s.m ρ nl (fun h=>!has ρ h) a a'
 mem:cvM s.m s'.m ρ nl (fun h=>!has ρ h)
 nx:ρ.length<=s'.nx
 nlx:∀i∈nl,i<s'.nx
def mkS(tl:List (Nat×AV))(bl:List (Nat×Blk))(nx:Nat):AS:=⟨lk tl,lk bl,nx⟩
def BX(s:AS)(ρ nl:List Nat):List (Nat×AV)->Prop
 |[]=>True
 |(i,a')::r=>(match s.t i with|some a=>cv s.m ρ nl (fun h=>!has ρ h) a a'|none=>False)/\BX s ρ nl r
def Eg(m:Mem)(ρ nl:List Nat)(S:Nat->Bool)(i:Nat)(b':Blk):Prop:=
 match ρ[i]? with
 |some h=>(match m h with|some b=>cvB m ρ nl S b b'|none=>False)
 |none=>has nl i=true/\wY b'
def subM(m:Mem)(ρ nl:List Nat)(S:Nat->Bool):List (Nat×Blk)->Prop
 |[]=>True
 |(i,b')::r=>Eg m ρ nl S i b'/\subM m ρ nl S r
theorem uz{m:Mem}{ρ nl:List Nat}{S:Nat->Bool}{i:Nat}{b':Blk}(h:Eg m ρ nl S i b'):(∃h b,ρ[i]?=some h/\m h=some b/\cvB m ρ nl S b b')\/(ρ[i]?=none/\has nl i=true/\wY b'):=by
 unfold Eg at h;split at h
 ·rename_i k hk;split at h;·rename_i b hb;exact .inl ⟨k,b,hk,hb,h⟩
  ·exact h.elim
 ·rename_i hk;exact .inr ⟨hk,h⟩
theorem xH{α:Type}{l:List (Nat×α)}{i:Nat}{a:α}(h:lk l i=some a):(i,a)∈l:=by
 induction l with
 |nil=>cases h
 |cons p r ih=>
  obtain⟨k,x⟩:=p;rw[bZ] at h;cases hb:Nat.beq k i with
  |true=>rw[hb] at h;cases h;rw[xx hb];simp
  |false=>rw[hb] at h;exact JK _ (ih h)
theorem Dh{s:AS}{ρ nl:List Nat}:∀ {l:List (Nat×AV)},BX s ρ nl l->∀i a',(i,a')∈l->∃a,s.t i=some a/\cv s.m ρ nl (fun h=>!has ρ h) a a':=by
 intro l;induction l with
 |nil=>intro _ i a' h;simp at h
 |cons p r ih=>
  obtain⟨k,x⟩:=p;intro h i a' hm;unfold BX at h;simp only[F5,Il] at hm;rcases hm with⟨rfl,rfl⟩|hm
  ·have h1:=h.1;split at h1;·rename_i a ha;exact⟨a,ha,h1⟩
   ·exact h1.elim
  ·exact ih h.2 i a' hm
theorem Cc{m:Mem}{ρ nl:List Nat}{S:Nat->Bool}:∀ {l:List (Nat×Blk)},subM m ρ nl S l->cvM m (lk l) ρ nl S:=by
 intro l h i b' hb;have hm:=xH hb;clear hb;induction l with
 |nil=>simp at hm
 |cons p r ih=>
  obtain⟨k,x⟩:=p;unfold subM at h;simp only[F5,Il] at hm;rcases hm with⟨rfl,rfl⟩|hm
  ·exact uz h.1
  ·exact ih h.2 hm
def dN(k:Nat)(ρ:List Nat):Bool:=(ρ.take k).length==k&&ρ.take k==List.range k&&decide ρ.Nodup
theorem yX.mk'{k:Nat}{ρ nl:List Nat}{s:AS}{tl:List (Nat×AV)}{bl:List (Nat×Blk)}{nx:Nat}(h1:dN k ρ=true)(h2:BX s ρ nl tl)(h3:subM s.m ρ nl (fun h=>!has ρ h) bl)(h4:Nat.ble ρ.length nx=true)(h5:nl.all (fun i=>Nat.blt i nx)=true):yX k ρ nl s (mkS tl bl nx):=by
 unfold dN at h1;simp only[t4,HH,GR] at h1;obtain⟨⟨a1,a2⟩,a3⟩:=h1;refine⟨a3,fun h hh=>?_,fun i a' hi=>Dh h2 i a' (xH hi),Cc h3,oo h4,fun i hi=>oo (GQ.1 h5 i hi)⟩;have:(ρ.take k)[h]?=some h:=by rw[a2];simp[hh]
 rw[Ba,Gw hh] at this;exact this
theorem yX.st{k:Nat}{ρ nl:List Nat}{s s':AS}(h:yX k ρ nl s s'){g0 g:Gh}{w0 w:World}{N:Nat}{act:Act}(hk:∀i,k<=i->g0 i=.un)(hs:St g0 w0 N g act w s):St g0 w0 N (gsub g ρ nl g.X) act w s':=by
 have hsub:eB g w ρ (fun h=>!has ρ h) g.X:=by refine⟨fun b hb=>hb.2.1,fun i b _ e1=>hs.mem.xl i b e1,fun i hi hm=>?_⟩;simp only[Ha] at hi;rw[c8.2 hm] at hi;cases hi
 refine⟨hs.size,hs.defers,fun i a' ha=>?_,ui hsub hs.mem h.nodup hs.mem.xlt (fun i k b _ e2=>hs.mem.xl k b e2) h.mem,fun i hi=>?_,?_⟩
 ·obtain⟨a,e1,e2⟩:=h.fr i a' ha;obtain⟨e3,e4⟩:=hs.fr i a e1;exact⟨e3,fF hsub hs.mem e4 e2⟩
 ·have hi:s'.nx<=i:=GB hi (Ir i HMod);have e1:ρ[i]?=none:=yB (GB h.nx hi);have e2:has nl i=false:=by
   cases hh:has nl i with
   |false=>rfl
   |true=>have:=h.nlx i (c8.1 hh);omega
  simp[gsub,e1,e2]
 ·have hG:=hs.grow;refine⟨hG.os,hG.tape,hG.output,hG.size,hG.block,hG.xb,hG.X,fun i hi=>?_,fun i l e=>?_,fun i b e1=>?_⟩
  ·have hik:i<k:=by
    rcases HD i k with q|q
    ·exact q
    ·exact absurd (hk i q) hi
   rw[cf (h.fix i hik)];exact hG.un i hi
  ·by_cases hik:i<k
   ·rw[cf (h.fix i hik)] at e;exact hG.live i l e
   ·exact .inr (hk i JQ)
  ·obtain⟨k',_,e2⟩:=ci e1;exact hG.new k' b e2
def Sub(k:Nat)(ρ nl:List Nat)(s s':AS):Prop:=∃hs,gF hs s.m fun m=>yX k ρ nl ⟨s.t,m,s.nx⟩ s'
theorem Sub.pk{k:Nat}{ρ nl:List Nat}{s s':AS}(hs:List Nat)(h:gF hs s.m fun m=>yX k ρ nl ⟨s.t,m,s.nx⟩ s'):Sub k ρ nl s s':=⟨hs,h⟩
theorem Sub.mk'{k:Nat}{ρ nl:List Nat}{s:AS}{tl:List (Nat×AV)}{bl:List (Nat×Blk)}{nx:Nat}(h1:dN k ρ=true)(h2:BX s ρ nl tl)(h3:subM s.m ρ nl (fun h=>!has ρ h) bl)(h4:Nat.ble ρ.length nx=true)(h5:nl.all (fun i=>Nat.blt i nx)=true):Sub k ρ nl s (mkS tl bl nx):=⟨[],yX.mk' h1 h2 h3 h4 h5⟩
theorem aut{p:Prop}(h:p:=by repeat' (first|exact trivial|exact Or.inl (ak (by assumption) (by assumption))|exact Or.inl rfl|exact rfl|exact t9 _|apply And.intro)):p:=h
theorem aut2{p:Prop}(h:p:=by repeat' (first|exact trivial|exact Or.inl rfl|exact Or.inr ⟨rfl,_,_,rfl⟩|exact rfl|exact t9 _|apply And.intro)):p:=h
theorem Sub.aw{k:Nat}{ρ nl:List Nat}{s:AS}{tl:List (Nat×AV)}{bl:List (Nat×Blk)}{nx:Nat}(h2:BX s ρ nl tl:=by repeat' (first|exact trivial|exact Or.inl rfl|exact rfl|exact t9 _|apply And.intro))(h3:subM s.m ρ nl (fun h=>!has ρ h) bl:=by repeat' (first|exact trivial|exact Or.inl rfl|exact rfl|exact t9 _|apply And.intro))(h1:dN k ρ=true:=by exact rfl)(h4:Nat.ble ρ.length nx=true:=by exact rfl)(h5:nl.all (fun i=>Nat.blt i nx)=true:=by exact rfl):Sub k ρ nl s (mkS tl bl nx):=Sub.mk' h1 h2 h3 h4 h5
theorem Sub.au{k:Nat}{ρ nl:List Nat}{s:AS}{tl:List (Nat×AV)}{bl:List (Nat×Blk)}{nx:Nat}(h1:dN k ρ=true:=by exact rfl)(h2:BX s ρ nl tl:=by repeat' (first|exact trivial|exact Or.inl (ak (by assumption) (by assumption))|exact Or.inl rfl|exact rfl|exact t9 _|apply And.intro))(h3:subM s.m ρ nl (fun h=>!has ρ h) bl:=by repeat' (first|exact trivial|exact Or.inl (ak (by assumption) (by assumption))|exact Or.inl rfl|exact rfl|exact t9 _|apply And.intro))(h4:Nat.ble ρ.length nx=true:=by exact rfl)(h5:nl.all (fun i=>Nat.blt i nx)=true:=by exact rfl):Sub k ρ nl s (mkS tl bl nx):=Sub.mk' h1 h2 h3 h4 h5
theorem St.packs{s:AS}{hs:List Nat}{K:Mem->Prop}(h:gF hs s.m K){g0 g:Gh}{w0 w:World}{N:Nat}{act:Act}(hst:St g0 w0 N g act w s):∃g' m',K m'/\St g0 w0 N g' act w ⟨s.t,m',s.nx⟩/\Grow g w g' w:=by obtain⟨g',m',h1,h2,h3,h4⟩:=uD h hst.mem;exact⟨g',m',h1,⟨hst.size,hst.defers,fun i a hi=>⟨(hst.fr i a hi).1,((hst.fr i a hi).2).grow h3⟩,h2,fun k hk=>h4 k (hst.un k hk),hst.grow.trans h3⟩,h3⟩
theorem Sub.st{k:Nat}{ρ nl:List Nat}{s s':AS}(h:Sub k ρ nl s s'){g0 g:Gh}{w0 w:World}{N:Nat}{act:Act}(hk:∀i,k<=i->g0 i=.un)(hs:St g0 w0 N g act w s):∃g',St g0 w0 N g' act w s':=by obtain⟨l,h⟩:=h;obtain⟨g',m',h1,h2,_⟩:=St.packs h hs;exact⟨_,h1.st hk h2⟩
abbrev XT:Gh->World->Prop:=fun _ _=>True
def Wp(X:Gh->World->Prop)(P:Program)(k N:Nat)(c:Code)(Q:AX->AS->Prop)(s:AS):Prop:=
 ∀(g0 g:Gh)(w0 w:World)(act:Act),(X g0 w0/\∀i,k<=i->g0 i=.un)->St g0 w0 N g act w s->c.wp P (ox g0 w0 N Q) act w
def AX.thn(next:AS->Prop)(Q:AX->AS->Prop):AX->AS->Prop
 | .normal,s=>next s
 |x,s=>Q x s
def AX.blk(id:Nat)(Q:AX->AS->Prop):AX->AS->Prop
 | .exit i,s=>(i=id->Q .normal s)/\(i≠id->Q (.exit i) s)
 |x,s=>Q x s
section
variable {X:Gh->World->Prop} {P:Program} {T:Ty} {k N:Nat} {Q:AX->AS->Prop} {s:AS}
theorem ox.mono{g0:Gh}{w0:World}{Q':AX->AS->Prop}(h:∀x s,Q x s->Q' x s){e:Exit}{act:Act}{w:World}(hp:ox g0 w0 N Q e act w):ox g0 w0 N Q' e act w:=by obtain⟨x,s,g,h1,h2,h3⟩:=hp;exact⟨x,s,g,h x s h1,h2,h3⟩
theorem Wp.mono{c:Code}{Q':AX->AS->Prop}(h:Wp X P k N c Q s)(hq:∀x s,Q x s->Q' x s):Wp X P k N c Q' s:=
 fun g0 g w0 w act hk hs=>H1 (h g0 g w0 w act hk hs) fun _ _ _ hp=>hp.mono hq
theorem Wp.seq{a b:Code}(h:Wp X P k N a (AX.thn (Wp X P k N b Q) Q) s):Wp X P k N (.seq a b) Q s:=by
 intro g0 g w0 w act hk hs;refine Km (H1 (h g0 g w0 w act hk hs) ?_);rintro e act' w' ⟨x,s',g',h1,h2,h3⟩;cases x with
 |normal=>cases e with
  |normal=>exact h1 g0 g' w0 w' act' hk h2
  |_=>exact h3.elim
 |_=>cases e<;>first|exact h3.elim|exact⟨_,s',g',h1,h2,h3⟩
theorem Wp.block{id:Nat}{c:Code}(h:Wp X P k N c (AX.blk id Q) s):Wp X P k N (.block id c) Q s:=by
 intro g0 g w0 w act hk hs;refine wp_block (H1 (h g0 g w0 w act hk hs) ?_);rintro e act' w' ⟨x,s',g',h1,h2,h3⟩;cases x with
 |exit i=>
  cases e with
  |exit j=>
   have:i=j:=h3;subst this;show if i=id then _ else _;by_cases hi:i=id;·rw[Gw hi];exact⟨.normal,s',g',h1.1 hi,h2,trivial⟩
   ·rw[GN hi];exact⟨.exit i,s',g',h1.2 hi,h2,rfl⟩
  |_=>exact h3.elim
 |_=>cases e<;>first|exact h3.elim|exact⟨_,s',g',h1,h2,h3⟩
theorem oT{σ:Type}{c:Code}{Q:Exit->Act->World->Prop}{a:Act}{w:World}(R:σ->Act->World->Prop)(μ:σ->Nat){x0:σ}(h0:R x0 a w)
  (round:∀x a w,R x a w->c.wp P (Exit.then (fun a' w'=>∃x',R x' a' w'/\μ x'<μ x) Q) a w):(Code.loop c).wp P Q a w:=by
 intro b k cs;have key:∀n x a w,μ x=n->R x a w ->
   ∃e a' w',Q e a' w'/\Arrives P (lone (b.at a (.code c :: .inLoop c::k)) cs w) b k cs e a' w':=by
  intro n;induction n using Nat.strongRecOn with
  |_ n ih=>
   intro x a w hn hI;obtain⟨e,a₁,w₁,hq,harr⟩:=round x a w hI b (.inLoop c::k) cs;cases e with
   |normal=>
    obtain⟨x',hI₁,hlt⟩:=hq;obtain⟨e₂,a₂,w₂,hq₂,harr₂⟩:=ih (μ x') (hn ▸ hlt) x' a₁ w₁ rfl hI₁;exact⟨e₂,a₂,w₂,hq₂,.of_steps (Steps.trans harr (.one step_inLoop)) harr₂⟩
   |exit id=>exact⟨_,a₁,w₁,hq,.pass (x:=.inLoop c) rfl (fun _ _=>.inl JX) harr⟩
   |goto l=>exact⟨_,a₁,w₁,hq,.pass (x:=.inLoop c) rfl (fun _ _=>.inl JX) harr⟩
   |ret=>exact⟨_,a₁,w₁,hq,.pass (x:=.inLoop c) rfl (fun _ _=>.inl JX) harr⟩
   |panic ch=>exact⟨_,a₁,w₁,hq,.pass (x:=.inLoop c) rfl (fun _ _=>.inl JX) harr⟩
   |outgrown=>exact⟨_,a₁,w₁,hq,.pass (x:=.inLoop c) rfl (fun _ _=>.inl JX) harr⟩
 obtain⟨e,a',w',hq,harr⟩:=key _ x0 a w rfl h0;exact⟨e,a',w',hq,.of_steps (.one step_loop) harr⟩
theorem Wp.loop{c:Code}{σ:Type}(J:σ->AS)(I:σ->Prop)(μ:σ->Nat)(x0:σ){ρ nl:List Nat}(h0:Sub k ρ nl s (J x0))(hI:I x0)
  (h:∀x,I x->SOk (J x)->Wp X P k N c (AX.thn (fun s'=>∃x' ρ nl,Sub k ρ nl s' (J x')/\I x'/\μ x'<μ x) Q) (J x)):Wp X P k N (.loop c) Q s:=by
 intro g0 g w0 w act hk hs;refine oT (fun x act w=>I x/\∃g,St g0 w0 N g act w (J x)) μ (x0:=x0) ⟨hI,h0.st hk.2 hs⟩ ?_;rintro x1 a1 w1 ⟨hI1,g1,hs1⟩;refine H1 (h x1 hI1 hs1.ok g0 g1 w0 w1 a1 hk hs1) ?_;rintro e act' w' ⟨x,s',g',h1,h2,h3⟩;cases x with
 |normal=>cases e with
  |normal=>
   obtain⟨x',ρ',nl',q1,q2,q3⟩:=h1;exact⟨x',⟨q2,q1.st hk.2 h2⟩,q3⟩
  |_=>exact h3.elim
 |_=>cases e<;>first|exact h3.elim|exact⟨_,s',g',h1,h2,h3⟩
def CG(v:Option AV)(a b:Prop):Prop:=match v with
 |some (.tr (.v (.bool y)))=>cond y a b
 |_=>False
def tS(T:Ty)(s:AS):ResultVar->Option AV
 | .tmp t=>s.t t
 | .cell a ty=>match s.t a with
  |some (.ptr h off)=>match lk T ty,s.m h with
   |some i,some (.cells _ l)=>bif i.d.agg then(bif Nat.ble (off+i.size) l.length then some (.agg ((l.drop off).take i.size)) else none) else l[off]?
   |_,_=>none
  |_=>none
def jk(T:Ty)(s:AS):List ResultVar->Option (List AV)
 |[]=>some []
 |r::rs=>match tS T s r,jk T s rs with|some a,some l=>some (a::l)|_,_=>none
def wJ:List AV->AV
 |[a]=>a
 |l=>.tup l
def cvO(m:Mem)(ρ:List Nat)(S:Nat->Bool):Nat->List (Option Blk)->Prop
 |_,[]=>True
 |i,none::r=>cvO m ρ S (i+1) r
 |i,some b::r=>Eg m ρ [] S i b/\cvO m ρ S (i+1) r
def jg(T:Ty)(ρ:List Nat)(rs:List ResultVar)(res:AE)(bout:List (Option Blk)):AX->AS->Prop
 | .normal,s|.ret,s=>match res with
  | .ret a=>(match jk T s rs with|some l=>cv s.m ρ [] (fun h=>!has ρ h) (wJ l) a|none=>False)/\cvO s.m ρ (fun h=>!has ρ h) 0 bout
  | .pan _=>False
 | .pan a,s=>match res with
  | .pan a'=>cv s.m ρ [] (fun h=>!has ρ h) a a'/\cvO s.m ρ (fun h=>!has ρ h) 0 bout
  | .ret _=>False
 | .exit _,_=>False
abbrev E3(T:Ty)(k:Nat)(rs:List ResultVar)(res:AE)(bout:List (Option Blk)):AX->AS->Prop:=jg T (List.range k) rs res bout
def AS.init(args:List AV)(bin:List Blk):AS:=⟨fun i=>args[i]?,ofL bin,bin.length⟩
theorem m8{m:Mem}{ρ:List Nat}{S:Nat->Bool}{bout:List (Option Blk)}(h:cvO m ρ S 0 bout):cvM m (km bout) ρ [] S:=by
 have key:∀(l:List (Option Blk))(i:Nat),cvO m ρ S i l->∀j b,(l[j]?).join=some b->Eg m ρ [] S (i+j) b:=by
  intro l;induction l with
  |nil=>intro i _ j b hb;simp at hb
  |cons x l ih=>
   intro i h j b hb;cases j with
   |zero=>
    simp at hb;subst hb;unfold cvO at h;exact h.1
   |succ j=>
    have h':cvO m ρ S (i+1) l:=by
     cases x with
     |none=>unfold cvO at h;exact h
     |some y=>unfold cvO at h;exact h.2
    have:=ih (i+1) h' j b (by simpa using hb)
    rwa [(JQ:i+1+j=i+(j+1))] at this
 intro i b' hb;have:=key bout 0 h i b' hb;rw[E7] at this;exact uz this
theorem jV{k:Nat}{ρ:List Nat}{s:AS}{bout:List (Option Blk)}(hρ:dN k ρ=true)(h:cvO s.m ρ (fun h=>!has ρ h) 0 bout):yX k ρ [] s ⟨fun _=>none,km bout,ρ.length⟩:=by
 unfold dN at hρ;simp only[t4,HH,GR] at hρ;obtain⟨⟨a1,a2⟩,a3⟩:=hρ;refine⟨a3,fun h hh=>?_,fun i a' h=>(by cases h),m8 h,t9 _,JX⟩;have:(ρ.take k)[h]?=some h:=by rw[a2];simp[hh]
 rw[Ba,Gw hh] at this;exact this
theorem mZ(k:Nat):dN k (List.range k)=true:=by unfold dN;simp[Jz]
def EQ(tmps:Array Value):ResultVar->Sem Value
 | .tmp t=>pure (tmps.getD t undef)
 | .cell a t=>do loadVar t (<-asAddr (tmps.getD a undef))
theorem rT(fn:Func)(tmps:Array Value):results fn tmps=(do let vs <-fn.results.mapM (EQ tmps);pure (if h:vs.size=1 then vs[0] else .tuple vs)):=by
 unfold results;have:(fun(x:ResultVar)=>match x with|.tmp t=>(pure (tmps.getD t undef):Sem Value)|.cell a t=>do loadVar t (<-asAddr (tmps.getD a undef)))=EQ tmps:=by funext x;cases x<;>rfl
 rw[<-this];rfl
theorem jz(hT:TOk P T){fn:Func}{g:Gh}{act:Act}{w:World}{s:AS}(hf:∀i a,s.t i=some a->i<N/\Rep g w (act.tmps.getD i undef) a)(hm:MSt g w s.m){l:List AV}(h:jk T s fn.results.toList=some l):
  ∃v,(results fn act.tmps).run P w=.ok v w/\Rep g w v (wJ l):=by
 have one:∀(r:ResultVar)(a:AV),tS T s r=some a->∃v,(EQ act.tmps r).run P w=.ok v w/\Rep g w v a:=by
  intro r a hr;unfold tS at hr;split at hr;·exact⟨_,rfl,(hf _ _ hr).2⟩
  ·rename_i p ty;split at hr;case h_2=>cases hr
   rename_i hd off e1;split at hr;case h_2=>cases hr
   rename_i i t l e2 e3;obtain⟨lc,g1,b,cs,rfl,g2,g3⟩:=hm.blk hd _ e3;have hp:=(hf _ _ e1).2.ptr_inv g1;have hld:∀v,(Instr.loadAt ty (.pointer (some ⟨b,off,none⟩))).run P w=.ok v w->(EQ act.tmps (.cell p ty)).run P w=.ok v w:=fun v hv=>by show(do loadVar ty (<-asAddr (act.tmps.getD p undef)):Sem Value).run P w=.ok v w;rw[hp];simpa[Instr.loadAt,Instr.sureAddr,asAddr] using hv
   cases hag:i.d.agg with
   |true=>
    rw[hag,r7] at hr;cases hle:Nat.ble (off+i.size) l.length with
    |false=>rw[hle] at hr;cases hr
    |true=>
     rw[hle,r7] at hr;cases hr;have hle:=oo hle;have hc:=g3.drop_take off i.size;refine⟨_,hld _ (dI hT e2 hag (cs.extract off (off+i.size)).toList ?_ fun j v hj=>?_),?_⟩;·have:=g3.1;simp;omega
     ·rw[aD g2];simp only[Gx,Hc] at hj;split at hj;·exact hj
      ·cases hj
     ·rw[I8];exact hc.agg
   |false=>
    rw[hag,lh] at hr;obtain⟨c,c1,c2⟩:=cW g3 hr;exact⟨c,hld _ (de hT e2 hag (by rw[aD g2];exact c1)),c2⟩
 have all:∀(rs:List ResultVar)(l:List AV),jk T s rs=some l->∃vs:List Value,(rs.mapM (EQ act.tmps)).run P w=.ok vs w/\vs.length=l.length/\∀(i:Nat)(v:Value)(a:AV),vs[i]?=some v->l[i]?=some a->Rep g w v a:=by
  intro rs;induction rs with
  |nil=>intro l h;cases h;exact⟨[],JX,rfl,fun i v a h=>by simp at h⟩
  |cons r rs ih=>
   intro l h;unfold jk at h;split at h
   ·rename_i a l' e1 e2;cases h;obtain⟨v,q1,q2⟩:=one r a e1;obtain⟨vs,q3,q4,q5⟩:=ih l' e2;refine⟨v::vs,?_,by simp[q4],fun i u b e3 e4=>?_⟩
    ·rw[JH];simp only[E9,q1,De,q3,Hj]
    ·cases i with
     |zero=>simp at e3 e4;subst e3;subst e4;exact q2
     |succ i=>exact q5 i u b (by simpa using e3) (by simpa using e4)
   ·cases h
 obtain⟨vs,q1,q2,q3⟩:=all _ _ h;refine⟨if h:vs.length=1 then vs[0] else .tuple vs.toArray,?_,?_⟩
 ·rw[rT,Jo];simp only[E9,Sem.run_map,q1,De,Hj];congr 1
 ·split
  ·rename_i h1;obtain⟨v,rfl⟩:∃v,vs=[v]:=by
    cases vs with
    |nil=>simp at h1
    |cons v r=>cases r with
     |nil=>exact⟨v,rfl⟩
     |cons=>simp at h1
   obtain⟨a,rfl⟩:∃a,l=[a]:=by
    cases l with
    |nil=>simp at q2
    |cons v r=>cases r with
     |nil=>exact⟨v,rfl⟩
     |cons=>simp at q2
   exact q3 0 v a rfl rfl
  ·rename_i h1;have:wJ l=.tup l:=by
    cases l with
    |nil=>rfl
    |cons a r=>cases r with
     |nil=>simp at q2;exact absurd q2 h1
     |cons=>rfl
   rw[this];exact .tup (by simpa using q2) fun i c a e1 e2=>q3 i c a (by simpa using e1) e2
def Gh.at(g:Gh)(D:List Deferred):Gh:=⟨g.f,g.X,D,g.F⟩
theorem Grow.at(g:Gh)(w:World)(D:List Deferred):Grow (g.at D) w g w:=⟨rfl,rfl,rfl,t9 _,fun _ _=>rfl,fun _ _=>rfl,rfl,fun _ h=>h,fun _ _ h=>.inl h,fun h b e=>.inl ⟨h,e⟩⟩
theorem Grow.of_at{g g':Gh}{w w':World}{D:List Deferred}(h:Grow (g.at D) w g' w'):Grow g w g' w':=⟨h.os,h.tape,h.output,h.size,h.block,h.xb,h.X,h.un,h.live,h.new⟩
theorem Grow.to_at{g g':Gh}{w w':World}{D:List Deferred}(h:Grow g w g' w'):Grow (g.at D) w g' w':=⟨h.os,h.tape,h.output,h.size,h.block,h.xb,h.X,h.un,h.live,h.new⟩
theorem cp.introP(hT:TOk P T){f:Nat}{fn:Func}{c:Code}(hf:P.funcs[f]?=some fn)(hb:fn.body=some c)(hcall:Callable P f){args:List AV}{bin:List Blk}{QQ:QE}
  (hN:Nat.ble args.length fn.ntmps=true) (h:SOk (AS.init args bin)->Wp XT P bin.length fn.ntmps c (fun x s=>∃res bout,QQ res bout/\∃hs,gF hs s.m fun m=>∃ ρ,dN bin.length ρ=true/\ρ.length=bout.length/\jg T ρ fn.results.toList res bout x ⟨s.t,m,s.nx⟩) (AS.init args bin)):cp P f args bin QQ:=by
 refine⟨hcall,fun g w vs hun hm hsz hvs=>?_⟩;have hN:=oo hN;have hok:SOk (AS.init args bin):=⟨g,w,hm,fun i a hi=>by have hi':args[i]?=some a:=hi;have hlt:i<args.length:=(a9.1 hi').1;exact⟨vs[i],hvs i vs[i] a (by simp[(JQ:i<vs.size)]) hi'⟩⟩
 refine calls_of_wp hf hb (H1 (h hok (g.at []) g w w { tmps:=vs++Array.replicate (fn.ntmps-vs.size) undef,defers:=[] } ⟨J0,hun⟩ ⟨by simp;omega,rfl,fun i a hi=>?_,hm,fun h hh=>hun h (GB hh (Ir _ _)),Grow.at _ _ _⟩) ?_)
 ·have hi':args[i]?=some a:=hi;have hlt:i<args.length:=(a9.1 hi').1;refine⟨JQ,?_⟩;have hv:vs[i]?=some vs[i]:=by simp[(JQ:i<vs.size)]
  have:(vs++Array.replicate (fn.ntmps-vs.size) undef).getD i undef=vs[i]:=by rw[Array.getD,dif_pos (by simp;omega)];simp[JO,(JQ:i<vs.size)]
  rw[this];exact hvs i vs[i] a hv hi'
 ·rintro e act' w' ⟨x,s0,g1,⟨res,bout,hqq,hs,hp⟩,h2,h3⟩;obtain⟨g',m',⟨ρ,hρ,hρl,h1⟩,h2,hgp⟩:=St.packs hp h2
  replace h3:AX.is g' w' x e:=by cases x<;>cases e<;>first|exact h3|exact h3.elim|(obtain⟨v,q1,q2⟩:=h3;exact⟨v,q1,q2.grow hgp⟩)
  generalize (⟨s0.t,m',s0.nx⟩:AS)=s at h1 h2;have under:iE (gsub g' ρ [] g'.X) bout.length:=fun i hi l hl=>by have:ρ[i]?=none:=yB JQ;simp[gsub,this,has] at hl
  have hsub:eB g' w' ρ (fun h=>!has ρ h) g'.X:=by refine⟨fun b hb=>hb.2.1,fun i b _ e1=>h2.mem.xl i b e1,fun i hi hm=>?_⟩;simp only[Ha] at hi;rw[c8.2 hm] at hi;cases hi
  have fin:∀ {a:AV},res=.ret a->(match jk T s fn.results.toList with|some l=>cv s.m ρ [] (fun h=>!has ρ h) (wJ l) a|none=>False)/\cvO s.m ρ (fun h=>!has ρ h) 0 bout ->
    act'.defers=[]/\∃v,(results fn act'.tmps).run P w'=.ok v w'/\∃res bout,QQ res bout/\∃g',Grow g w g' w'/\MSt g' w' (km bout)/\iE g' bout.length/\res.is g' w' (.returned v):=by
   rintro a rfl ⟨h4,h5⟩;split at h4;case h_2=>exact h4.elim
   rename_i l hl;obtain⟨v,r1,r2⟩:=jz hT (fn:=fn) h2.fr h2.mem hl;have hst:=(jV hρ h5).st (g0:=g.at []) hun h2;exact⟨h2.defers,v,r1,_,_,hqq,_,hst.grow.of_at,hst.mem,under,fF hsub h2.mem r2 h4⟩
  cases x with
  |normal=>cases e with
   |normal=>cases res with
    |ret a=>exact fin rfl h1
    |pan a=>exact h1.elim
   |_=>exact h3.elim
  |ret=>cases e with
   |ret=>cases res with
    |ret a=>exact fin rfl h1
    |pan a=>exact h1.elim
   |_=>exact h3.elim
  |exit i=>exact h1.elim
  |pan a=>cases e with
   |panic ch=>
    cases res with
    |ret a=>exact h1.elim
    |pan a'=>
     obtain⟨v,rfl,hv⟩:=h3;have hst:=(jV hρ h1.2).st (g0:=g.at []) hun h2;exact⟨h2.defers,_,_,hqq,_,hst.grow.of_at,hst.mem,under,v,rfl,fF hsub h2.mem hv h1.1⟩
   |_=>exact h3.elim
theorem Ctr.introP(hT:TOk P T){f:Nat}{fn:Func}{c:Code}(hf:P.funcs[f]?=some fn)(hb:fn.body=some c)(hcall:Callable P f){args:List AV}{bin:List Blk}{res:AE}{bout:List (Option Blk)}
  (hN:Nat.ble args.length fn.ntmps=true) (h:SOk (AS.init args bin)->Wp XT P bin.length fn.ntmps c (fun x s=>∃hs,gF hs s.m fun m=>∃ ρ,dN bin.length ρ=true/\ρ.length=bout.length/\jg T ρ fn.results.toList res bout x ⟨s.t,m,s.nx⟩) (AS.init args bin)):Ctr P f args bin res bout:=
 cp.one (cp.introP hT hf hb hcall hN fun hok=>(h hok).mono fun x s hx=>⟨res,bout,⟨rfl,rfl⟩,hx⟩)
theorem Ctr.introR(hT:TOk P T){f:Nat}{fn:Func}{c:Code}(hf:P.funcs[f]?=some fn)(hb:fn.body=some c)(hcall:Callable P f){args:List AV}{bin:List Blk}{res:AE}{bout:List (Option Blk)}
  (hN:Nat.ble args.length fn.ntmps=true) (h:SOk (AS.init args bin)->Wp XT P bin.length fn.ntmps c (fun x s=>∃ ρ,dN bin.length ρ=true/\ρ.length=bout.length/\jg T ρ fn.results.toList res bout x s) (AS.init args bin)):Ctr P f args bin res bout:=
 Ctr.introP hT hf hb hcall hN fun hok=>(h hok).mono fun x s hx=>⟨[],hx⟩
theorem Ctr.intro(hT:TOk P T){f:Nat}{fn:Func}{c:Code}(hf:P.funcs[f]?=some fn)(hb:fn.body=some c)(hcall:Callable P f){args:List AV}{bin:List Blk}{res:AE}{bout:List (Option Blk)}
  (hN:Nat.ble args.length fn.ntmps=true) (h:SOk (AS.init args bin)->Wp XT P bin.length fn.ntmps c (E3 T bin.length fn.results.toList res bout) (AS.init args bin)) (hbo:Nat.beq bout.length bin.length=true:=by rfl):Ctr P f args bin res bout:=
 Ctr.introR hT hf hb hcall hN fun hok=>(h hok).mono fun x s hx=>⟨List.range bin.length,mZ _,by rw[HZ];exact(xx hbo).symm,hx⟩
end
abbrev ti(n:Int):Tr:=.v (.int .i64 n)
abbrev tu(n:Int):Tr:=.v (.int .u8 n)
abbrev tb(b:Bool):Tr:=.v (.bool b)
abbrev ts(s:ByteArray):Tr:=.v (.string s)
theorem ah{y:Bool}{A B:Prop}(h1:y=true->A)(h2:y=false->B):cond y A B:=by
 cases y;·exact h2 rfl
 ·exact h1 rfl
def r8(t:Tr):Prop:=∃ok w v,RepT ok w v t
theorem AOk.tr{t:Tr}(h:AOk (.tr t)):r8 t:=by obtain⟨g,w,v,h⟩:=h;exact⟨_,w,v,h.tr_inv⟩
theorem AOk.agg{l:List AV}(h:AOk (.agg l)):∀a∈l,AOk a:=by
 obtain⟨g,w,v,h⟩:=h;intro a ha;obtain⟨i,hi⟩:=Gv.1 ha;cases h with
 |agg h1 h2 h3=>
  rename_i cs;have hlt:i<cs.size:=by rw[h1];exact(a9.1 hi).1
  exact⟨g,w,cs[i],h3 i _ a (by simp[hlt]) hi⟩
theorem SOk.slot{s:AS}(h:SOk s)(i:Nat){a:AV}(hi:s.t i=some a):AOk a:=by obtain⟨g,w,_,h2⟩:=h;obtain⟨v,hv⟩:=h2 i a hi;exact⟨g,w,v,hv⟩
theorem SOk.cells{s:AS}(h:SOk s)(i:Nat){t:Nat}{l:List AV}(hi:s.m i=some (.cells t l)):∀a∈l,AOk a:=by obtain⟨g,w,hm,_⟩:=h;obtain⟨lc,_,b,cs,rfl,_,hc⟩:=hm.blk i _ hi;intro a ha;obtain⟨j,hj⟩:=Gv.1 ha;obtain⟨c,_,hr⟩:=cW hc hj;exact⟨g,w,c,hr⟩
theorem SOk.vec{s:AS}(h:SOk s)(i:Nat){e n B:Nat}{rows:List (List Tr)}(hi:s.m i=some (.vec e n B rows)):rows.length*B<=150000000000000/\rows.length<=9223372036854775807/\∀row∈rows,row.length=n/\∀t∈row,r8 t:=by
 obtain⟨g,w,hm,_⟩:=h;obtain⟨lc,_,hB,hn,hv⟩:=hm.blk i _ hi;refine⟨hB,?_,fun row hr=>?_⟩
 ·rcases hv with⟨_,rfl⟩|⟨b,cap,cur,_,_,q1,q2,_⟩
  ·simp
  ·omega
 ·rcases hv with⟨_,rfl⟩|⟨b,cap,cur,_,_,q1,q2,q3,q4,q5⟩
  ·simp at hr
  ·refine⟨q4 row hr,fun t ht=>?_⟩;obtain⟨k,hk⟩:=Gv.1 hr;obtain⟨j,hj⟩:=Gv.1 ht;obtain⟨c,_,hc⟩:=fP q4 q5 hk hj;exact⟨_,w,c,hc⟩
theorem r8.int{k:IntKind}{n:Int}(h:r8 (.v (.int k n))):k.min<=n/\n<=k.max:=by obtain⟨ok,w,v,h⟩:=h;cases h with|v hg=>exact hg
theorem r8.i64{n:Int}(h:r8 (ti n)): -9223372036854775808<=n/\n<=9223372036854775807:=h.int
theorem r8.u8{n:Int}(h:r8 (tu n)):0<=n/\n<=255:=h.int
theorem r8.str{s:ByteArray}(h:r8 (ts s)):s.size<=9223372036854775807:=by obtain⟨ok,w,v,h⟩:=h;cases h with|v hg=>exact hg
theorem r8.lst{n B:Nat}{rows:List (List Tr)}(h:r8 (.lst n B rows)):rows.length*B<=150000000000000/\rows.length<=9223372036854775807/\∀row∈rows,row.length=n/\∀t∈row,r8 t:=by obtain⟨ok,w,v,h⟩:=h;obtain⟨ao,cap,f,rfl,q1,q2,q3,q4,q5,q6⟩:=eu h;refine⟨q3,JQ,fun row hr=>?_⟩;obtain⟨i,hi⟩:=Gv.1 hr;refine⟨(q5 i row hi).1,fun t ht=>?_⟩;obtain⟨j,hj⟩:=Gv.1 ht;exact⟨ok,w,_,q6 i row j t hi hj⟩
theorem w64{n:Int}(h1:-9223372036854775808<=n)(h2:n<=9223372036854775807):IntKind.i64.wrap n=n:=by
 simp only[IntKind.wrap,IntKind.signed,IntKind.bits,GS,Nat.reduceSub,Int.reducePow];split;·rename_i h;have:=of_decide_eq_true h;omega
 ·rename_i h;have:¬ _:=fun e=>h (GC e);omega
theorem ak{k n:Nat}(h:k<n)(hn:n<=9223372036854775807):ti (IntKind.i64.wrap ((k:Int)+1))=ti ((k+1:Nat):Int):=by rw[w64 JQ JQ];rfl
def AV.isTr:AV->Bool|.tr _=>true|_=>false
def AV.plain:AV->Bool|.tr _=>true|.agg l=>l.all AV.isTr|_=>false
theorem aa.pure{P:Program}{m:Mem}{nh f:Nat}{xs:List AV}{K:EE}(res:AE)(h:Ctr P f xs [] res [])(hx:xs.all AV.plain=true)
  (hl:res.lowH 0=true) (hK:K (res.out []) [] []):aa P m nh f xs K:=by
 have hcv:∀(l:List AV),l.all AV.isTr=true->cvL m [] [] (dA [] []) l l:=by
  intro l;induction l with
  |nil=>intro _;unfold cvL;trivial
  |cons a l ih=>
   intro h;simp only[Ik,t4] at h;unfold cvL;refine⟨?_,ih h.2⟩;cases a<;>first|(exact .inl rfl)|(exact absurd h.1 (by simp[AV.isTr]))
 have hcv2:∀(l:List AV),l.all AV.plain=true->cvL m [] [] (dA [] []) l l:=by
  intro l;induction l with
  |nil=>intro _;unfold cvL;trivial
  |cons a l ih=>
   intro h;simp only[Ik,t4] at h;unfold cvL;refine⟨?_,ih h.2⟩;cases a with
   |tr t=>exact .inl rfl
   |agg l'=>unfold cv;exact hcv l' h.1
   |_=>exact absurd h.1 (by simp[AV.plain])
 refine⟨[],[],[],xs,[],res,[],⟨h,IT,rfl,rfl,rfl,rfl,hcv2 xs hx,fun i b' hb=>by simp[ofL] at hb,JX,hl⟩,?_⟩;have:callUp [] [] res []=[]:=rfl;rw[this];exact hK
section
variable {P:Program} {T:Ty} {N:Nat} {ops:Array Oper} {nh:Nat} {g0:Gh} {w0:World}
theorem xZ.at2{R:Nat->Rc}{s0:AS}:∀(l:List Oper)(i:Nat)(s:AS)(cs:List Rc)(sf:AS),xZ P N ops nh l i s cs sf->(∀j o,l[j]?=some o->ops[i+j]?=some o)->(∀j,j<l.length->R (i+j)=recAt cs j)->s=ar ops R s0 (List.range i) ->
  sf=ar ops R s0 (List.range (i+l.length))/\cs.length=l.length/\∀j o,l[j]?=some o->dstOk N o.dst=true/\bV ops (ar ops R s0 (List.range (i+j))).t o (R (i+j)).run/\mN (ar ops R s0 (List.range (i+j))).m (nh+(i+j)) (R (i+j)).rd (R (i+j)).up /\
   ((R (i+j)).run=true->gA P o (nh+(i+j)) (evR ops o (ar ops R s0 (List.range (i+j))).t) (R (i+j)).rd (R (i+j)).up (R (i+j)).a false)/\((R (i+j)).run=false->(R (i+j)).a=.und/\(R (i+j)).up=[]):=by
 intro l;induction l with
 |nil=>
  intro i s cs sf h _ _ hs;cases cs with
  |nil=>exact⟨by rw[show sf=s from h,hs];rfl,rfl,fun j o h=>by simp at h⟩
  |cons=>exact h.elim
 |cons o r ih=>
  intro i s cs sf h hl hR hs;cases cs with
  |nil=>exact h.elim
  |cons c cs=>
   obtain⟨h1,h2,h3,h4,h5,h6⟩:=h;have hRi:R i=c:=by have:=hR 0 JX;simpa[recAt] using this
   have ho:ops[i]?=some o:=by have:=hl 0 o JX;simpa using this
   have hd:dG ops i=o.dst:=by simp[dG,ho]
   obtain⟨q1,q2,q3⟩:=ih (i+1) (s.put o.dst c.a c.up) cs sf h6 (fun j o' ho'=>by have:=hl (j+1) o' (by simpa using ho');rw[(JQ:i+(j+1)=i+1+j)] at this;exact this)
    (fun j hj=>by have:=hR (j+1) (by simp;omega);rw[(JQ:i+(j+1)=i+1+j)] at this;simpa[recAt] using this)
    (by rw[Hk,foldS_snoc,hd,hRi,<-hs])
   refine⟨by rw[q1,E0,(JQ:i+(r.length+1)=i+1+r.length)],by simp[q2],fun j o' hj=>?_⟩;cases j with
   |zero=>
    simp at hj;subst hj;rw[HR,hRi,<-hs];exact⟨h1,h2,h3,h4,h5⟩
   |succ j=>
    have:=q3 j o' (by simpa using hj)
    rwa [(JQ:i+1+j=i+(j+1))] at this
theorem wk{pz:Bool}{cs:List Rc}{s0:AS}{Q:Exit->Act->World->Prop}(hok:bN ops (cs.map Rc.ft)=true)
  (F:∀i o,ops[i]?=some o->dstOk N o.dst=true/\bV ops (ar ops (recAt cs) s0 (List.range i)).t o (recAt cs i).run/\mN (ar ops (recAt cs) s0 (List.range i)).m (nh+i) (recAt cs i).rd (recAt cs i).up /\
   ((recAt cs i).run=true->gA P o (nh+i) (evR ops o (ar ops (recAt cs) s0 (List.range i)).t) (recAt cs i).rd (recAt cs i).up (recAt cs i).a (pz&&Nat.beq (i+1) ops.size))/\((recAt cs i).run=false->(recAt cs i).a=.und/\(recAt cs i).up=[]))
  (hz:pz=true->∀j,j+1<ops.size->bef ops ops.size (ops.size-1) j=true)
  (hP:pz=true->∀act w g,act.tmps.size=N->act.defers=g0.D->(∀x a,(ar ops (recAt cs) s0 (List.range (ops.size-1))).t x=some a->x<N/\Rep g w (act.tmps.getD x undef) a)->MSt g w (ar ops (recAt cs) s0 (List.range (ops.size-1))).m ->
   (∀h,nh+(ops.size-1)<=h % HMod->g h=.un)->Grow g0 w0 g w->∀v w' g',Rep g' w' v (recAt cs (ops.size-1)).a->MSt g' w' (bL (ar ops (recAt cs) s0 (List.range (ops.size-1))).m (recAt cs (ops.size-1)).up)->Grow g w g' w' ->
   (∀h,h % HMod≠nh+(ops.size-1)->g h=.un->g' h=.un)->Q (.panic [{ v,recovered:=false }]) act w')
  (hrz:pz=true->0<ops.size/\(recAt cs (ops.size-1)).run=true)
  (hQ:∀act w g,pz=false->St g0 w0 N g act w { ar ops (recAt cs) s0 (List.range ops.size) with nx:=nh+ops.size }->Q .normal act w) :
  ∀(fuel:Nat)(listed:Array Bool)(act:Act)(w:World),listed.size=ops.size->listed.toList.countP (fun b=>!b)<=fuel->(∀i,i<ops.size->listed.getD i true=true->∀d∈deps ops i,listed.getD d true=true)->(pz=true->listed.getD (ops.size-1) true=false) ->
   Inv g0 w0 N ops nh (recAt cs) s0 (fun i=>listed.getD i true) act w->wpAny P .any ops Q fuel listed act w:=by
 intro fuel listed act w hs hc hcl hnl hI;refine f0 (sp:=fun i=>pz&&Nat.beq (i+1) ops.size) (M:=fun listed=>pz=true->listed.getD (ops.size-1) true=false) hok (fun i o hf ho=>?_) (fun listed i hm hf hq=>?_) (fun i o hf ho fuel listed act w hm hs hc hcl h2 h3' hI=>?_) (fun listed act w hm hall hI=>?_) fuel listed act w hs hc hcl hnl hI
 ·have:=F i o ho;rw[hf] at this;exact this
 ·rw[hq,GS] at hf;by_cases hi:i=ops.size-1
  ·have h1:=(hrz hq).1;rw[(JQ:i+1=ops.size),HC] at hf;cases hf
  ·rw[dd _ (Kb hi)];exact hm hq
 ·have h1:i<ops.size:=(GI.1 ho).1;have hup:=lq hok;obtain⟨f1,f2,f3,f4,f5⟩:=F i o ho;obtain⟨t1,t2,t3⟩:=gE (s0:=s0) hok hcl h1 h2 h3' ho;obtain⟨g,g1,g2,g3,g4⟩:=hI.rest;have hf':=hf;simp only[t4] at hf;obtain⟨hq,hf⟩:=hf;have hiz:i=ops.size-1:=by have:=xx hf;omega
  unfold wpOp;rw[ho];simp only;have hrun:(recAt cs i).run=true:=by rw[hiz];exact(hrz hq).2
  rw[oG hI.size t1 g1 f2,hrun,Gw rfl];refine .inl (f4 hrun g w _ act _ _ g2 (CR h1 h2 g3) (fun p hp=>?_) (jP t1 g1) (fun h=>by rw[hf'] at h;cases h) (fun _ v w' g' e1 e2 e3 e4=>?_))
  ·rw[t2 p.1 (GM.2 ⟨p,hp,rfl⟩)];exact f3.1 p hp
  ·have hall:∀k,k<ops.size->listed.getD k true = !Nat.beq k i:=fun k hk=>by
    by_cases hki:k=i;·rw[hki,h2,HC];rfl
    ·rw[bA hki];have hb:=hz hq k JQ;rw[<-hiz] at hb;exact(eQ (E:=fun j=>listed.getD j true=true/\j<ops.size) (fun j hj d hd'=>⟨hcl j hj.2 hj.1 d hd',Ig (hup j hj.2 d hd') hj.2⟩) ops.size i k hb (fun d hd'=>⟨h3' d hd',Ig (hup i h1 d hd') h1⟩)).1
   have e:(List.range ops.size).filter (fun k=>listed.getD k true)=List.range i:=by
    have e1:List.range ops.size=List.range i++[i]:=by rw[<-Hk];congr 1;omega
    rw[e1,Ho];have e2:(List.range i).filter (fun k=>listed.getD k true)=List.range i:=IC.2 fun k hk=>by have:=G3.1 hk;rw[hall k JQ,bA JQ];rfl
    rw[e2];simp only[List.filter,h2,G7]
   rw[e] at g1 g2 e2;subst hiz;exact hP hq act w g hI.size hI.defers g1 g2 (fun h hh=>g3 h JQ fun k hk hEk=>by
    have:=hall k hk;have hEk:listed.getD k true=true:=hEk;rw[hEk] at this;have hki:Nat.beq k (ops.size-1)=false:=by
     cases hb:Nat.beq k (ops.size-1) with
     |false=>rfl
     |true=>rw[hb] at this;cases this
    intro e3;have:k≠ops.size-1:=fun e4=>by rw[e4,HC] at hki;cases hki
    omega) g4 v w' g' e1 e2 e3 e4
 ·obtain⟨g,h⟩:=iP hall hI;have hpz:pz=false:=by
   cases hq:pz with
   |false=>rfl
   |true=>have h1:=hm hq;have h2:=(hrz hq).1;rw[hall _ JQ] at h1;cases h1
  exact hQ act w g hpz h
end
end Go.Proofs.YtapmdfcmpglieaaGreatDoor.am
