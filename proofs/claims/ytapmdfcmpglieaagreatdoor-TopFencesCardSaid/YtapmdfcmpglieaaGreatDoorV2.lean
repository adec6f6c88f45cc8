/- The abstract machine: operations: picks, maps, slices of a length, comparisons of structs and interfaces. The abstract machine: operations on slices -/
import Derived.Test.YtapmdfcmpglieaaGreatDoorV1
import Derived.Laws.StructEq
import Derived.Lib.AppendStr
import Derived.Lib.ConvBytes
import Derived.Laws.BytesArg
import Derived.Lib.AppendZeros
import Derived.Maps.RangeRun
set_option linter.all false
namespace Go.Proofs.YtapmdfcmpglieaaGreatDoor.am
open Go
set_option linter.unusedSimpArgs false
section
variable {P:Program} {T:Ty} {o:Oper} {m:Mem} {nh:Nat} {ev:Operand->Option AV} {K:KK}
theorem l_pick{c x y:Operand}{b:Bool}(ho:o.op=.pick c x y)(hc:ev c=some (.tr (.v (.bool b))))(h:cond b (match ev x with|some a=>K a [] []|none=>False) (match ev y with|some a=>K a [] []|none=>False)):LOk P o m nh ev K:=by
 cases b with
 |true=>
  rw[r7] at h;split at h;case h_2=>exact h.elim
  rename_i a e;refine LOk.pure _ _ h JX fun g w m' ρ hm hrd hev=>⟨_,?_,hev _ _ e⟩;simp[execOp,ho,(al (hev _ _ hc)).1,asBool]
 |false=>
  rw[lh] at h;split at h;case h_2=>exact h.elim
  rename_i a e;refine LOk.pure _ _ h JX fun g w m' ρ hm hrd hev=>⟨_,?_,hev _ _ e⟩;simp[execOp,ho,(al (hev _ _ hc)).1,asBool]
theorem vF{t:Nat}{kd:D}(ho:o.op=.makeMap t none)(hK:K (.mp nh) [] [(nh,some (.map kd []))]):LOk P o m nh ev K:=by refine⟨_,_,_,hK,JX,JX,fun g w m' ρ hm hn hrd hev=>?_⟩;refine kC.new hm hn (.map #[] 0) (.blk w.heap.size) (fun b e=>by cases e;rfl) _ (.map (some w.heap.size)) ?_ (fun _=>⟨_,_,_,rfl,Hq w _,⟨rfl,rfl,JX⟩,JX,JX⟩) (.mp (be ..));simp[execOp,ho,Instr.makeMap]
theorem pb(hT:TOk P T){t:Nat}{l c:Operand}{lz cz:Int}{k k':IntKind}(ho:o.op=.makeSlice t l c)(hl:ev l=some (.tr (.v (.int k lz))))(hc:ev c=some (.tr (.v (.int k' cz))))(h:ii T nh t lz cz K):LOk P o m nh ev K:=by
 unfold ii at h;split at h;case h_2=>exact h.elim
 rename_i e s1 s2 s3 s4 e1;split at h;case h_2=>exact h.elim
 rename_i te e2;cases hb:(Nat.ble 1 te.size&&Nat.ble 1 te.bytes) with
 |false=>rw[hb] at h;exact h.elim
 |true=>
 rw[hb,r7] at h;simp only[t4] at hb;have hs1:=oo hb.1;have hb1:=oo hb.2;obtain⟨h0,h1,h2,hK⟩:=h;refine⟨_,_,_,hK,JX,JX,fun g w m' ρ hm hn hrd hev=>?_⟩;obtain⟨u,u1,u2,_⟩:=aI hT e1 w;obtain rfl:=aR u2;obtain⟨ti',u',z',i1,_,_,i4,i5,i6,i7,i8⟩:=hT.info e2;have hz:=(bd i7).1;have hzs:z'.cells.size=te.size:=by rw[hz];simpa using i8
 have hcb:cz<=140737488351232:=by have:cz*1<=cz*te.bytes:=Int.mul_le_mul_of_nonneg_left JQ JQ;omega
 obtain⟨hlv,_⟩:=al (hev _ _ hl);obtain⟨hcv,_⟩:=al (hev _ _ hc);have w1:IntKind.i64.wrap lz=lz:=by
  simp only[IntKind.wrap,IntKind.signed,IntKind.bits,GS,Nat.reduceSub,Int.reducePow];split;·rename_i h;have:=of_decide_eq_true h;omega
  ·rename_i h;have:¬ _:=fun e=>h (GC e);omega
 have w2:IntKind.i64.wrap cz=cz:=by
  simp only[IntKind.wrap,IntKind.signed,IntKind.bits,GS,Nat.reduceSub,Int.reducePow];split;·rename_i h;have:=of_decide_eq_true h;omega
  ·rename_i h;have:¬ _:=fun e=>h (GC e);omega
 obtain⟨cn,rfl⟩:=Jy (JQ:0<=cz);obtain⟨ln,rfl⟩:=Jy h0;have hlc:ln<=cn:=JQ;have hmul:cn*te.bytes<=140737488351232:=by
  have:((cn*te.bytes:Nat):Int)<=140737488351232:=by rw[Int.natCast_mul];exact h2
  omega
 have hsm:∀n:Nat,n<=cn->¬ ((ti'.bytes:Int)*(n:Int) > 281474976710656):=fun n hn=>by
  have e3:(ti'.bytes:Int)*(n:Int)=((n*te.bytes:Nat):Int):=by rw[i5,Int.natCast_mul,Int.mul_comm]
  have:n*te.bytes<=cn*te.bytes:=Eb _ hn;rw[e3];omega
 generalize hcl:(Array.range (cn*te.size)).map (z'.cells[· % z'.cells.size]!)=cl;have hclsz:cl.size=cn*te.size:=by rw[<-hcl];simp
 have hloc:∀b,Loc.b (.row w.heap.size cn)=some b->b=w.heap.size:=fun b e=>by cases e;rfl
 have hg:=bS (w:=w) hm.xlt hn (.cells cl e) hloc;refine kC.new hm hn (.cells cl e) (.row w.heap.size cn) hloc _ (.slice (some ⟨w.heap.size,0,none⟩) ln cn) ?_ (fun _=>⟨?_,JQ,.inr ⟨_,cn,cl,rfl,Hq w _,by simpa using hlc,JQ,hclsz,fun row hr=>?_,fun i t hi=>?_⟩⟩) (.sl (be ..) hlc)
 ·have hrun:(Instr.makeSlice t (.int k (ln:Int)) (.int k' (cn:Int))).run P w=.ok (.slice (some ⟨w.heap.size,0,none⟩) ln cn) (w.alloc (.cells cl e)):=by
   have q1:=hsm cn (t9 _);have q2:¬ (ln:Int) > cn:=JQ;have q3:¬ (cn:Int)<0:=JQ;have q4:¬ (ln:Int)<0:=JQ;by_cases hz0:cn*te.size=0
   ·have hcl0:cl = #[]:=by rw[<-hcl,hz0];simp
    subst hcl0;simp only[Instr.makeSlice,E9,u1,De,asInt,asIntOf,Hj,typeInfo,run_program,i1];simp[w1,w2,q1,q2,q3,q4,sizeOf,typeInfo,i1,i4,hz0,newRow];rw[(JX:(Array.map (fun _=>(default:Value)) (Array.range 0)) = #[])]
   ·simp only[Instr.makeSlice,E9,u1,De,asInt,asIntOf,Hj,typeInfo,run_program,i1];simp[w1,w2,q1,q2,q3,q4,sizeOf,typeInfo,i1,i4,hz0,zeroValue,i6,newRow,hcl]
  simp only[execOp,ho,E9,hlv,hcv];show((Instr.makeSlice t (.int k (ln:Int)) (.int k' (cn:Int))).run P w).andThen _=_;rw[hrun];rfl
 ·simp only[GE,GY];have:ln*te.bytes<=cn*te.bytes:=Eb _ hlc;omega
 ·rw[IE hr];simpa[ztrs] using i8
 ·have hfl:∀(n:Nat)(r:List Tr)(i:Nat),(List.replicate n r).flatten[i]?=if i<n*r.length then r[i % r.length]? else none:=by
   intro n r;induction n with
   |zero=>intro i;simp
   |succ n ih=>
    intro i;rw[Ie,Hw];by_cases h1:i<r.length;·rw[v9 h1,Gw (by rw[G4];omega),Ht h1]
    ·rw[wS JQ,ih];by_cases h2:i<(n+1)*r.length;·rw[Gw (by rw[G4] at h2;omega),Gw h2,<-Nat.mod_eq_sub_mod JQ]
     ·rw[GN (by rw[G4] at h2;omega),GN h2]
  have hlen:(ztrs te.zero).length=te.size:=by simpa[ztrs] using i8
  rw[hfl,hlen] at hi;split at hi;case isFalse=>cases hi
  rename_i hilt;simp only[GY] at hilt;have hic:i<cn*te.size:=Hb hilt (Eb _ hlc);simp only[ztrs,z5,z9] at hi;obtain⟨z,z1,rfl⟩:=hi;refine⟨z.val,?_,.v (eE z)⟩;rw[<-hcl];have hmod:i % te.size<te.zero.length:=by rw[i8];exact Nat.mod_lt _ JQ
  simp only[Array.getElem?_map,Array.getElem?_range,Gw hic,G5,hzs];rw[hz];have z2:te.zero[i % te.size]'hmod=z:=by simpa[hmod] using z1
  congr 1;rw[getElem!_pos _ _ (by simpa using hmod)];simp[z2]
theorem C6{u:TypeDesc}{k e:Nat}(h:D.of u=.map k e):u=.map k e:=by cases u<;>first|(cases h;done)|(cases h;rfl)
theorem u0(hT:TOk P T){g:Gh}{w:World}{xs ys:Array Value}(d:Nat):∀(F:List Field)(i:Nat)(l l':List AV)(b:Bool),zX T (F.map fun f=>(f.type,f.offset)) i l l'=some b->(∀f∈F,f.name≠ "_") ->
  (∀(j:Nat)(a:AV),l[j]?=some a->∃c,xs[i+j]?=some c/\Rep g w c a)->(∀(j:Nat)(a:AV),l'[j]?=some a->∃c,ys[i+j]?=some c/\Rep g w c a)->(Op.eqFields (d+1) xs ys F).run P w=.ok b w:=by
 intro F;induction F with
 |nil=>
  intro i l l' b h _ _ _;cases l with
  |nil=>cases l' with
   |nil=>cases h;rfl
   |cons=>cases h
  |cons=>cases l'<;>cases h
 |cons f F ih=>
  intro i l l' b h hn hl hl';cases l with
  |nil=>cases h
  |cons a l=>
  cases l' with
  |nil=>cases a<;>first|cases h|(rename_i t;cases t<;>cases h)
  |cons a' l'=>
  cases a with
  |tr t=>
   cases t with
   |v x=>
    cases a' with
    |tr t'=>
     cases t' with
     |v y=>
      simp only[GO] at h;unfold zX at h;cases hb:Nat.beq f.offset i with
      |false=>rw[hb] at h;cases h
      |true=>
      rw[hb,r7] at h;have hoff:=xx hb;obtain⟨cx,c1,c2⟩:=hl 0 _ rfl;obtain⟨cy,d1,d2⟩:=hl' 0 _ rfl;rw[(al c2).1] at c1;rw[(al d2).1] at d1;have ih':∀r,zX T (F.map fun f=>(f.type,f.offset)) (i+1) l l'=some r->(Op.eqFields (d+1) xs ys F).run P w=.ok r w:=fun r hr=>
       ih (i+1) l l' r hr (fun f hf=>hn f (by simp[hf])) (fun j a hj=>by rw[(JQ:i+1+j=i+(j+1))];exact hl (j+1) a (by simpa using hj)) (fun j a hj=>by rw[(JQ:i+1+j=i+(j+1))];exact hl' (j+1) a (by simpa using hj))
      have step:∀(u:TypeDesc)(e:Bool),P.underlying f.type=some u->(∀fs,u≠.struct fs)->(∀n e,u≠.array n e)->(Op.equalIn (d+1) f.type x y).run P w=.ok e w->∀r,zX T (F.map fun f=>(f.type,f.offset)) (i+1) l l'=some r->(Op.eqFields (d+1) xs ys (f::F)).run P w=.ok (e&&r) w:=by
       intro u e hu hns hna he r hr;have hpart:∀(zs:Array Value)(z:Value),zs[i]?=some z->(part f.type zs f.offset).run P w=.ok z w:=fun zs z hz=>by
        have hag:(isAgg f.type).run P w=.ok false w:=by unfold isAgg;rw[E9,GP hu w];cases u<;>first|rfl|exact absurd rfl (hns _)|exact absurd rfl (hna _ _)
        unfold part;simp only[E9,hag,De,IJ,I9,hoff,hz,Hj]
       unfold Op.eqFields;rw[Gw (hn f JX)];simp only[E9,hpart xs x (by simpa using c1),hpart ys y (by simpa using d1),De,he];cases e with
       |true=>simp[ih' r hr]
       |false=>simp
      split at h
      ·rename_i q k n k' n' hd;by_cases hk:k=k'
       ·subst hk;rw[Gw rfl] at h;split at h
        ·rename_i r hr;cases h;obtain⟨u,u1,u2⟩:=bu hT hd;obtain rfl:=yc u2;exact step _ _ u1 (fun _=>JX) (fun _ _=>JX) (Jc w d _ _ _ _ _ u1) r hr
        ·cases h
       ·rw[GN hk] at h;cases h
      ·rename_i a1 a2 hd;split at h
       ·rename_i r hr;cases h;obtain⟨u,u1,u2⟩:=bu hT hd;obtain rfl:=cR u2;exact step _ _ u1 (fun _=>JX) (fun _ _=>JX) (run_equalIn_string w d _ _ _ u1) r hr
       ·cases h
      ·rename_i a1 a2 hd;split at h
       ·rename_i r hr;cases h;obtain⟨u,u1,u2⟩:=bu hT hd;obtain rfl:=ny u2;exact step _ _ u1 (fun _=>JX) (fun _ _=>JX) (IQ w d _ _ _ u1) r hr
       ·cases h
      ·cases h
     |lst=>cases h
    |_=>cases h
   |lst=>cases a'<;>cases h
  |_=>cases h
theorem jG(hT:TOk P T){t k bb:Nat}{fs:List (Nat×Nat)}{z:List Z}(e1:lk T t=some ⟨.struct fs,k,bb,z,true⟩):∃fds:Array Field,P.underlying t=some (.struct fds)/\fs=fds.toList.map (fun f=>(f.type,f.offset))/\P.fieldsOf t=fds /\
  P.stoodInHeld t=false/\P.eqGuardType P.depth t=false/\∀f∈fds.toList,f.name≠ "_":=by
 obtain⟨ti,u,z,q1,q2,q3,_⟩:=hT.info e1;have hq:Fx P t u=true:=by
  have:=(hT t _ e1).1;unfold E1 at this;rw[q1,q2] at this;simp only at this;split at this;case h_2=>cases this
  split at this;case h_2=>cases this
  split at this
  ·simp only[HG,TyI.mk.injEq] at this;exact this.2.2.2.2
  ·cases this
 obtain⟨fds,rfl,rfl⟩:=iR q3;unfold Fx at hq;simp only[t4,Ha] at hq;obtain⟨⟨hs,hgd⟩,hnm⟩:=hq;exact⟨fds,q2,rfl,by simp[Program.fieldsOf,q2],hs,hgd,fun f hf=>by have:=Ji.1 hnm f (by simpa using hf);simpa using this⟩
theorem C4(hT:TOk P T){g:Gh}{w:World}(d t:Nat){a b:AV}{r:Bool}(h:Fh (dOf T t) a b=some r){x y:Value}(hx:Rep g w x a)(hy:Rep g w y b):
  (isAgg t).run P w=.ok false w/\(Op.equalIn (d+1) t x y).run P w=.ok r w:=by
 have agg:∀ {u:TypeDesc},P.underlying t=some u->(∀fs,u≠.struct fs)->(∀n e,u≠.array n e)->(isAgg t).run P w=.ok false w:=fun{u} hu hns hna=>by unfold isAgg;rw[E9,GP hu w];cases u<;>first|rfl|exact absurd rfl (hns _)|exact absurd rfl (hna _ _)
 unfold Fh at h;split at h;case h_2=>cases h
 rename_i a b;rw[(al hx).1,(al hy).1];split at h
 ·rename_i q k n k' n' hd;by_cases hk:k=k'
  ·subst hk;rw[Gw rfl] at h;cases h;obtain⟨u,u1,u2⟩:=bu hT hd;obtain rfl:=yc u2;exact⟨agg u1 (fun _=>JX) (fun _ _=>JX),Jc w d _ _ _ _ _ u1⟩
  ·rw[GN hk] at h;cases h
 ·rename_i a1 a2 hd;cases h;obtain⟨u,u1,u2⟩:=bu hT hd;obtain rfl:=cR u2;exact⟨agg u1 (fun _=>JX) (fun _ _=>JX),run_equalIn_string w d _ _ _ u1⟩
 ·rename_i a1 a2 hd;cases h;obtain⟨u,u1,u2⟩:=bu hT hd;obtain rfl:=ny u2;exact⟨agg u1 (fun _=>JX) (fun _ _=>JX),IQ w d _ _ _ u1⟩
 ·cases h
theorem Cq(hT:TOk P T){g:Gh}{w:World}{xs ys:Array Value}(d:Nat):∀(F:List Field)(i:Nat)(l l':List AV)(b:Bool),EN T (F.map fun f=>(f.type,f.offset)) i l l'=some b->(∀f∈F,f.name≠ "_") ->
  (∀(j:Nat)(a:AV),l[j]?=some a->∃c,xs[i+j]?=some c/\Rep g w c a)->(∀(j:Nat)(a:AV),l'[j]?=some a->∃c,ys[i+j]?=some c/\Rep g w c a)->(Op.eqFields (d+2) xs ys F).run P w=.ok b w:=by
 intro F;induction F with
 |nil=>
  intro i l l' b h _ _ _;cases l with
  |nil=>cases l' with
   |nil=>cases h;rfl
   |cons=>cases h
  |cons=>cases l'<;>cases h
 |cons f F ih=>
  intro i l l' b h hn hl hl';rw[GO] at h;unfold EN at h;cases hb:Nat.beq f.offset i with
  |false=>rw[hb] at h;cases h
  |true=>
  rw[hb,r7] at h;have hoff:=xx hb;have step:∀(x y:Value)(a r:Bool),(part f.type xs f.offset).run P w=.ok x w->(part f.type ys f.offset).run P w=.ok y w->(Op.equalIn (d+2) f.type x y).run P w=.ok a w->(Op.eqFields (d+2) xs ys F).run P w=.ok r w->(Op.eqFields (d+2) xs ys (f::F)).run P w=.ok (a&&r) w:=by
   intro x y a r hp1 hp2 he hr;unfold Op.eqFields;rw[Gw (hn f JX)];simp only[E9,hp1,hp2,De,he];cases a with
   |true=>simp[hr]
   |false=>simp
  split at h
  ·rename_i gs k hs;unfold F3 at hs;split at hs;case h_2=>cases hs
   rename_i gs' k' bb z e1;cases hs;split at h;case h_2=>cases h
   rename_i a r h1 h2;cases h;obtain⟨fds,u1,rfl,u2,u3,_,u5⟩:=jG hT e1;have hag:(isAgg f.type).run P w=.ok true w:=by unfold isAgg;rw[E9,GP u1 w];rfl
   have hsz:=aW hT e1 w;have hpart:∀zs:Array Value,(part f.type zs f.offset).run P w=.ok (.agg (zs.extract i (i+k))) w:=fun zs=>by unfold part;simp only[E9,hag,De,I6,hsz,hoff,Hj]
   have hget:∀(zs:Array Value)(m:List AV),(∀(j:Nat)(a:AV),m[j]?=some a->∃c,zs[i+j]?=some c/\Rep g w c a)->∀(j:Nat)(a:AV),(m.take k)[j]?=some a->∃c,(zs.extract i (i+k))[0+j]?=some c/\Rep g w c a:=fun zs m hm j a hj=>by
    rw[Ba] at hj;split at hj
    ·rename_i hjk;obtain⟨c,c1,c2⟩:=hm j a hj;refine⟨c,?_,c2⟩;have hlt:i+j<zs.size:=(GI.1 c1).1;rw[E7,Hc,Gw JQ];exact c1
    ·cases hj
   have hin:=u0 hT (g:=g) (w:=w) d fds.toList 0 _ _ a h1 u5 (hget xs l hl) (hget ys l' hl');have heq:=Jj (P:=P) w (d+1) f.type (xs.extract i (i+k)) (ys.extract i (i+k)) (by rw[u2];exact u1) u3;rw[u2,hin] at heq;refine step _ _ a r (hpart xs) (hpart ys) heq (ih (i+k) _ _ r h2 (fun f hf=>hn f (by simp[hf])) (fun j a hj=>?_) (fun j a hj=>?_))
   ·rw[GA] at hj;rw[(JQ:i+k+j=i+(k+j))];exact hl (k+j) a hj
   ·rw[GA] at hj;rw[(JQ:i+k+j=i+(k+j))];exact hl' (k+j) a hj
  ·split at h;case h_2=>cases h
   rename_i x l y l';split at h;case h_2=>cases h
   rename_i a r h1 h2;cases h;obtain⟨cx,c1,c2⟩:=hl 0 _ rfl;obtain⟨cy,d1,d2⟩:=hl' 0 _ rfl;obtain⟨hag,heq⟩:=C4 hT (d+1) f.type h1 c2 d2;have hpart:∀(zs:Array Value)(z:Value),zs[i]?=some z->(part f.type zs f.offset).run P w=.ok z w:=fun zs z hz=>by unfold part;simp only[E9,hag,De,IJ,I9,hoff,hz,Hj]
   exact step _ _ a r (hpart xs cx (by simpa using c1)) (hpart ys cy (by simpa using d1)) heq (ih (i+1) _ _ r h2 (fun f hf=>hn f (by simp[hf])) (fun j a hj=>by rw[(JQ:i+1+j=i+(j+1))];exact hl (j+1) a (by simpa using hj)) (fun j a hj=>by rw[(JQ:i+1+j=i+(j+1))];exact hl' (j+1) a (by simpa using hj)))
theorem Du(hT:TOk P T){t:Nat}{l l':List AV}{b:Bool}(h:EY T t l l'=some b){g:Gh}{w:World}{xs ys:Array Value}(hx:ca g w xs l)(hy:ca g w ys l')(xo yo:Operand):
  (do eqGuard .eql t xo yo (.agg xs) (.agg ys);binOp .eql t (.agg xs) (.agg ys):Sem Value).run P w=.ok (.bool b) w/\(do eqGuard .neq t xo yo (.agg xs) (.agg ys);binOp .neq t (.agg xs) (.agg ys):Sem Value).run P w=.ok (.bool !b) w:=by
 unfold EY at h;split at h;case h_2=>cases h
 rename_i fs s1 s2 s3 e1;obtain⟨fds,q2,rfl,hfd,hs,hgd,hnm⟩:=jG hT e1;have hag:=fun op=>run_eqGuard_agg (P:=P) w op t xo yo xs ys hgd;have heq:=Jj (P:=P) w 9999 t xs ys (by rw[hfd];exact q2) hs;have hl1:∀(j:Nat)(a:AV),l[j]?=some a->∃c,xs[0+j]?=some c/\Rep g w c a:=fun j a hj=>by rw[E7];exact cW hx hj
 have hl2:∀(j:Nat)(a:AV),l'[j]?=some a->∃c,ys[0+j]?=some c/\Rep g w c a:=fun j a hj=>by rw[E7];exact cW hy hj
 have hgo:(Op.eqFields 9999 xs ys fds.toList).run P w=.ok b w:=by
  split at h
  ·rename_i b' hb;cases h;exact u0 hT (g:=g) (w:=w) (xs:=xs) (ys:=ys) 9998 fds.toList 0 l l' b hb hnm hl1 hl2
  ·exact Cq hT (g:=g) (w:=w) (xs:=xs) (ys:=ys) 9997 fds.toList 0 l l' b h hnm hl1 hl2
 rw[hfd,hgo] at heq;constructor;·simp only[E9,hag,De,run_eql_struct,heq]
 ·simp only[E9,hag,De,run_neq_struct,heq]
theorem l_eqS(hT:TOk P T){op:BinOp}{ty ty2:Nat}{x y:Operand}{l l':List AV}{b r:Bool}(ho:o.op=.binOp op ty x y ty2)(hx:ev x=some (.agg l))(hy:ev y=some (.agg l'))(h:EY T ty l l'=some b)(hop:(op=.eql/\r=b)\/(op=.neq/\r = !b))
  (hK:K (.tr (.v (.bool r))) [] []):LOk P o m nh ev K:=by
 refine LOk.pure _ _ hK JX fun g w m' ρ hm hrd hev=>?_;have hcells:∀(v:Value)(l:List AV),Rep g w v (.agg l)->∃cs,v=.agg cs/\ca g w cs l:=fun v l hr=>by
  cases hr with
  |agg h1 h2 h3=>exact⟨_,rfl,h1,h2,h3⟩
 obtain⟨xs,e1,c1⟩:=hcells _ _ (hev _ _ hx);obtain⟨ys,e2,c2⟩:=hcells _ _ (hev _ _ hy);obtain⟨r1,r2⟩:=Du hT h c1 c2 x y;refine⟨.bool r,?_,.tr (.v trivial)⟩;simp only[E9] at r1 r2;rcases hop with⟨rfl,rfl⟩|⟨rfl,rfl⟩
 ·simp only[execOp,ho,e1,e2,E9,r1,De,Hj]
 ·simp only[execOp,ho,e1,e2,E9,r2,De,Hj]
theorem vX{u:TypeDesc}(h:D.of u=.iface):∃ms,u=.interface ms:=by cases u<;>first|(cases h;done)|exact⟨_,rfl⟩
theorem l_eqNil(hT:TOk P T){t:Nat}(hlt:t<HMod){op:BinOp}{ty ty2:Nat}{x y:Operand}{a:AV}{r:Bool}(ho:o.op=.binOp op ty x y ty2)(hx:ev x=some (.ifc t a))(hy:ev y=some (.tr (.v .nilIface)))(hd:dOf T ty=some .iface)(hop:(op=.eql/\r=false)\/(op=.neq/\r=true))
  (hK:K (.tr (.v (.bool r))) [] []):LOk P o m nh ev K:=by
 refine LOk.pure _ _ hK JX fun g w m' ρ hm hrd hev=>?_;obtain⟨u,u1,u2⟩:=bu hT hd;obtain⟨ms,rfl⟩:=vX u2;have e2:=(al (hev _ _ hy)).1;have hr:=hev _ _ hx;generalize hv:ρ x=v at hr;cases hr with
 |bnd _ hr=>omega
 |psl hr=>omega
 |frz _ _ hr=>omega
 |win hr=>omega
 |ifc _ hr=>
  rename_i xv _;have heq:(Op.equal ty (.iface t xv) .nilIface).run P w=.ok false w:=by show(Op.equalIn (9999+1) ty (.iface t xv) .nilIface).run P w=.ok false w;generalize 9999=n;simp[Op.equalIn,GP u1]
  refine⟨.bool r,?_,.tr (.v trivial)⟩;rcases hop with⟨rfl,rfl⟩|⟨rfl,rfl⟩
  ·simp[execOp,ho,hv,e2,eqGuard,binOp,heq]
  ·simp[execOp,ho,hv,e2,eqGuard,binOp,heq]
theorem EG{u:TypeDesc}{e:Nat}(h:D.of u=.ptr e):u=.pointer e:=by cases u<;>first|(cases h;done)|(cases h;rfl)
theorem As{u:TypeDesc}(h:D.of u=.func):∃a b c,u=.func a b c:=by cases u<;>first|(cases h;done)|exact⟨_,_,_,rfl⟩
theorem l_fnNil(hT:TOk P T){op:BinOp}{ty ty2 f:Nat}{l:List AV}{x y:Operand}{r:Bool}(ho:o.op=.binOp op ty x y ty2)(hx:ev x=some (.fn f l))(hy:ev y=some (.tr (.v .nilFunc)))(hd:dOf T ty=some .func)(hop:(op=.eql/\r=false)\/(op=.neq/\r=true))
  (hK:K (.tr (.v (.bool r))) [] []):LOk P o m nh ev K:=by
 refine LOk.pure _ _ hK JX fun g w m' ρ hm hrd hev=>?_;obtain⟨u,u1,u2⟩:=bu hT hd;obtain⟨a,b,c,rfl⟩:=As u2;have e2:=(al (hev _ _ hy)).1;have hr:=hev _ _ hx;generalize hv:ρ x=v at hr;cases hr with
 |fn _ _=>
  rename_i cs _ _;have heq:(Op.equal ty (.func (.func f) #[] cs) .nilFunc).run P w=.ok false w:=by show(Op.equalIn (9999+1) ty (.func (.func f) #[] cs) .nilFunc).run P w=.ok false w;generalize 9999=n;simp[Op.equalIn,GP u1]
  refine⟨.bool r,?_,.tr (.v trivial)⟩;rcases hop with⟨rfl,rfl⟩|⟨rfl,rfl⟩
  ·simp[execOp,ho,hv,e2,eqGuard,binOp,heq]
  ·simp[execOp,ho,hv,e2,eqGuard,binOp,heq]
theorem AI(hT:TOk P T){op:BinOp}{ty ty2:Nat}{x y:Operand}{a b:Value}{r:Bool}(ho:o.op=.binOp op ty x y ty2)(hx:ev x=some (.tr (.v a)))(hy:ev y=some (.tr (.v b)))(hd:Fy (dOf T ty) y a b=true)(hop:(op=.eql/\r=true)\/(op=.neq/\r=false))
  (hK:K (.tr (.v (.bool r))) [] []):LOk P o m nh ev K:=by
 refine LOk.pure _ _ hK JX fun g w m' ρ hm hrd hev=>?_;have e1:=(al (hev _ _ hx)).1;have e2:=(al (hev _ _ hy)).1;unfold Fy at hd;split at hd
 ·split at hd;case h_2=>cases hd
  rename_i v hd';obtain⟨u,u1,u2⟩:=bu hT hd';obtain⟨ms,rfl⟩:=vX u2;have heq:(Op.equal ty .nilIface .nilIface).run P w=.ok true w:=by show(Op.equalIn (9999+1) ty .nilIface .nilIface).run P w=.ok true w;generalize 9999=n;simp[Op.equalIn,GP u1]
  refine⟨.bool r,?_,.tr (.v trivial)⟩;rcases hop with⟨rfl,rfl⟩|⟨rfl,rfl⟩
  ·simp[execOp,ho,e1,e2,eqGuard,binOp,heq]
  ·simp[execOp,ho,e1,e2,eqGuard,binOp,heq]
 ·split at hd;case h_2=>cases hd
  rename_i e hd';obtain⟨u,u1,u2⟩:=bu hT hd';obtain rfl:=EG u2;have heq:(Op.equal ty (.pointer none) (.pointer none)).run P w=.ok true w:=by show(Op.equalIn (9999+1) ty (.pointer none) (.pointer none)).run P w=.ok true w;generalize 9999=n;simp[Op.equalIn,GP u1]
  refine⟨.bool r,?_,.tr (.v trivial)⟩;rcases hop with⟨rfl,rfl⟩|⟨rfl,rfl⟩
  ·simp[execOp,ho,e1,e2,eqGuard,binOp,heq]
  ·simp[execOp,ho,e1,e2,eqGuard,binOp,heq]
 ·split at hd;case h_2=>cases hd
  rename_i e hd';obtain⟨u,u1,u2⟩:=bu hT hd';obtain rfl:=aR u2;have heq:(Op.equal ty (.slice none 0 0) (.slice none 0 0)).run P w=.ok true w:=by show(Op.equalIn (9999+1) ty (.slice none 0 0) (.slice none 0 0)).run P w=.ok true w;generalize 9999=n;simp[Op.equalIn,GP u1]
  refine⟨.bool r,?_,.tr (.v trivial)⟩;rcases hop with⟨rfl,rfl⟩|⟨rfl,rfl⟩
  ·simp[execOp,ho,e1,e2,eqGuard,binOp,heq]
  ·simp[execOp,ho,e1,e2,eqGuard,binOp,heq]
 ·split at hd;case h_2=>cases hd
  rename_i hd';obtain⟨u,u1,u2⟩:=bu hT hd';obtain⟨_,_,_,rfl⟩:=As u2;have heq:(Op.equal ty .nilFunc .nilFunc).run P w=.ok true w:=by show(Op.equalIn (9999+1) ty .nilFunc .nilFunc).run P w=.ok true w;generalize 9999=n;simp[Op.equalIn,GP u1]
  refine⟨.bool r,?_,.tr (.v trivial)⟩;rcases hop with⟨rfl,rfl⟩|⟨rfl,rfl⟩
  ·simp[execOp,ho,e1,e2,eqGuard,binOp,heq]
  ·simp[execOp,ho,e1,e2,eqGuard,binOp,heq]
 ·cases hd
theorem l_ptrNil(hT:TOk P T){op:BinOp}{ty ty2 e:Nat}{x y:Operand}{hd off:Nat}{b:Blk}{r:Bool}(ho:o.op=.binOp op ty x y ty2)(hx:ev x=some (.ptr hd off))(hy:ev y=some (.tr (.v (.pointer none))))(hde:dOf T ty=some (.ptr e))(hm0:m hd=some b)(hop:(op=.eql/\r=false)\/(op=.neq/\r=true))
  (hK:K (.tr (.v (.bool r))) [(hd,b)] []):LOk P o m nh ev K:=by
 refine LOk.pure _ _ hK (fun p hp=>by simp at hp;subst hp;exact hm0) fun g w m' ρ hm hrd hev=>?_;have e2:=(al (hev _ _ hy)).1;obtain⟨u,u1,u2⟩:=bu hT hde;obtain rfl:=EG u2;obtain⟨l,g1,g2⟩:=hm.blk hd _ (hrd (hd,b) JX);have hr:=hev _ _ hx;generalize hv:ρ x=v at hr;cases hr with
 |ptrD e=>rw[g1] at e;cases e
 |ptr eq=>
  rename_i k;have heq:(Op.equal ty (.pointer (some ⟨k,off,none⟩)) (.pointer none)).run P w=.ok false w:=by show(Op.equalIn (9999+1) ty _ _).run P w=.ok false w;generalize 9999=n;simp[Op.equalIn,GP u1]
  refine⟨.bool r,?_,.tr (.v trivial)⟩;rcases hop with⟨rfl,rfl⟩|⟨rfl,rfl⟩
  ·simp[execOp,ho,hv,e2,eqGuard,binOp,heq]
  ·simp[execOp,ho,hv,e2,eqGuard,binOp,heq]
theorem nq(hT:TOk P T){t:Nat}(hlt:t<HMod){x:Operand}{xt:Nat}{a:AV}{d:D}(ho:o.op=.typeAssert x xt t false)(hx:ev x=some (.ifc t a))(hd:dOf T t=some d)(hni:d≠.iface)(hK:K a [] []):LOk P o m nh ev K:=by
 refine LOk.pure _ _ hK JX fun g w m' ρ hm hrd hev=>?_;obtain⟨u,u1,u2⟩:=bu hT hd;have hr:=hev _ _ hx;generalize hv:ρ x=v at hr;cases hr with
 |bnd _ hr=>omega
 |psl hr=>omega
 |frz _ _ hr=>omega
 |win hr=>omega
 |ifc _ hr=>
  rename_i xv _;refine⟨xv,?_,hr⟩;have:(Instr.typeAssert (.iface t xv) xt t false).run P w=.ok xv w:=by unfold Instr.typeAssert;simp only[E9,GP u1,De];cases u<;>first|(exact absurd u2.symm hni)|simp
  simp only[execOp,ho,hv,E9,this,De];rfl
end
def gfoc(g:Gh)(h nh:Nat)(l':Loc)(Fo Fn:Nat->Prop):Gh:=⟨fun k=>if k=nh then .live l' else g k,g.X,[],fun k b=>(k=nh/\Fn b)\/(k≠nh/\g.F k b/\(k=h->¬ Fo b))⟩
theorem iT{g:Gh}{h nh:Nat}{l':Loc}{Fo Fn:Nat->Prop}:gfoc g h nh l' Fo Fn nh=.live l':=by simp[gfoc]
theorem fR{g:Gh}{h nh k:Nat}{l':Loc}{Fo Fn:Nat->Prop}(hk:k≠nh):gfoc g h nh l' Fo Fn k=g k:=by simp[gfoc,hk]
theorem nu{g:Gh}{h nh:Nat}{l':Loc}{Fo Fn:Nat->Prop}:(gfoc g h nh l' Fo Fn).F nh=Fn:=by funext b;simp[gfoc]
theorem Ci{g:Gh}{h nh:Nat}{l':Loc}{Fo Fn:Nat->Prop}(hk:h≠nh):(gfoc g h nh l' Fo Fn).F h=fun b=>g.F h b/\¬ Fo b:=by funext b;simp[gfoc,hk]
theorem EI{g:Gh}{h nh k:Nat}{l':Loc}{Fo Fn:Nat->Prop}(hk:k≠nh)(hh:k≠h):(gfoc g h nh l' Fo Fn).F k=g.F k:=by funext b;simp[gfoc,hk,hh]
theorem gfoc_owns{g:Gh}{h nh k b:Nat}{l':Loc}{Fo Fn:Nat->Prop}(hl':∀b,l'.b=some b->Fo b)(hFn:∀b,Fn b->Fo b)(ho:cd (gfoc g h nh l' Fo Fn) k b):
  (k=nh/\Fo b)\/(k≠nh/\cd g k b/\(k=h->∀l,g h=.live l->l.b≠some b->¬ Fo b)):=by
 obtain⟨l,e1,e2⟩:=ho;by_cases hk:k=nh
 ·subst hk;rw[iT] at e1;cases e1;rw[nu] at e2;exact .inl ⟨rfl,e2.elim (hl' b) (hFn b)⟩
 ·rw[fR hk] at e1;change l.b=some b\/((k=nh/\Fn b)\/(k≠nh/\g.F k b/\(k=h->¬ Fo b))) at e2;refine .inr ⟨hk,⟨l,e1,?_⟩,fun hh l1 q1 q2=>?_⟩
  ·rcases e2 with e2|⟨q,_⟩|⟨_,q,_⟩
   ·exact .inl e2
   ·exact absurd q hk
   ·exact .inr q
  ·subst hh;rw[e1] at q1;cases q1;rcases e2 with e2|⟨q,_⟩|⟨_,_,q⟩
   ·exact absurd e2 q2
   ·exact absurd q hk
   ·exact q rfl
section
variable {g:Gh} {w:World} {m:Mem} {h nh:Nat} {l l':Loc} {Fo Fn:Nat->Prop}
theorem eR(hn:g nh=.un)(hl:g h=.live l)(hFo:∀b,Fo b->g.F h b)(hl':∀b,l'.b=some b->Fo b)(hFn:∀b,Fn b->Fo b):Grow g w (gfoc g h nh l' Fo Fn) w:=by
 refine⟨rfl,rfl,rfl,t9 _,fun _ _=>rfl,fun _ _=>rfl,rfl,fun k hk=>?_,fun k lx hk=>?_,fun k b hk=>?_⟩
 ·by_cases e:k=nh;·subst e;exact absurd hn hk
  ·rw[fR e];exact hk
 ·by_cases e:k=nh;·subst e;exact .inr hn
  ·rw[fR e] at hk;exact .inl hk
 ·rcases gfoc_owns hl' hFn hk with⟨_,q⟩|⟨_,q,_⟩
  ·exact .inl ⟨h,l,hl,.inr (hFo b q)⟩
  ·exact .inl ⟨k,q⟩
theorem nZ(hm:MSt g w m)(hn:g nh=.un)(hl:g h=.live l)(hFo:∀b,Fo b->g.F h b)(hroot:∀b,l.b=some b->¬ Fo b)(hl':∀b,l'.b=some b->Fo b)(hFn:∀b,Fn b->Fo b){child parent:Blk}
  (hc:fE (gfoc g h nh l' Fo Fn) w l' Fn child) (hp:fE (gfoc g h nh l' Fo Fn) w l (fun b=>g.F h b/\¬ Fo b) parent):MSt (gfoc g h nh l' Fo Fn) w (bL m [(nh,some child),(h,some parent)]):=by
 have hhn:h≠nh:=fun e=>by rw[e,hn] at hl;cases hl
 have hg:=eR (w:=w) hn hl hFo hl' hFn;refine⟨fun k b hb=>?_,fun k k' b e1 e2=>?_,fun k b e1=>?_,hm.xlt,fun k b e1=>?_,hm.gl.grow hg⟩
 ·by_cases e:k=nh
  ·subst e;have:b=child:=by simpa[bL,lk] using hb.symm
   subst this;exact⟨l',iT,by rw[nu];exact hc⟩
  ·have e':Nat.beq nh k=false:=bA fun q=>e q.symm;by_cases e2:k=h
   ·subst e2;have:b=parent:=by simpa[bL,lk,e'] using hb.symm
    subst this;exact⟨l,(fR e).trans hl,by rw[Ci e];exact hp⟩
   ·have e3:Nat.beq h k=false:=bA fun q=>e2 q.symm;have hb':m k=some b:=by simpa[bL,lk,e',e3] using hb
    obtain⟨l1,q1,q2⟩:=hm.blk k b hb';exact⟨l1,(fR e).trans q1,by rw[EI e e2];exact q2.grow hg fun _ _=>rfl⟩
 ·have key:∀ {k},cd g k b->(k=h->∀l,g h=.live l->l.b≠some b->¬ Fo b)->¬ Fo b:=fun{k} q1 q2 q3=>by
   have:=hm.inj k h b q1 ⟨l,hl,.inr (hFo b q3)⟩;exact q2 this l hl (fun e=>hroot b e q3) q3
  rcases gfoc_owns hl' hFn e1 with⟨a1,a2⟩|⟨a1,a2,a3⟩<;>rcases gfoc_owns hl' hFn e2 with⟨b1,b2⟩|⟨b1,b2,b3⟩
  ·rw[a1,b1]
  ·exact absurd a2 (key b2 b3)
  ·exact absurd b2 (key a2 a3)
  ·exact hm.inj k k' b a2 b2
 ·rcases gfoc_owns hl' hFn e1 with⟨_,q⟩|⟨_,q,_⟩
  ·exact hm.lt h b ⟨l,hl,.inr (hFo b q)⟩
  ·exact hm.lt k b q
 ·rcases gfoc_owns hl' hFn e1 with⟨_,q⟩|⟨_,q,_⟩
  ·exact hm.xl h b ⟨l,hl,.inr (hFo b q)⟩
  ·exact hm.xl k b q
end
theorem bm(ln:List ((Nat×Nat)×(Nat×Nat)))(i j i' j':Nat)(x:Nat×Nat):lnk (((i,j),x)::ln) i' j'=if i=i'/\j=j' then some x else lnk ln i' j':=by
 show(bif Nat.beq j j'&&Nat.beq i i' then some x else lnk ln i' j')=_;by_cases h1:i=i'
 ·by_cases h2:j=j';·subst h1;subst h2;simp
  ·rw[bA h2];simp[h2]
 ·rw[bA h1,It];simp[h1]
theorem n7{g:Gh}{w:World}{m':Mem}{hd nh n B b cap i off n2 B2 e:Nat}{rows:List (List Tr)}{ln:List ((Nat×Nat)×(Nat×Nat))}{cur:Array Value}{Fs:Nat->Nat->Nat->Prop}{row:List Tr}{rows2:List (List Tr)}{v:Value}
  (hm:MSt g w m') (hn:g nh=.un) (g1:g hd=.live (.row b cap)) (g3:w.heap[b]?=some (.cells cur e (0,0))) (g4:rows.length<=cap) (g5:cap<=9223372036854775807) (g6:cur.size=cap*n) (g7:∀row∈rows,row.length=n)
  (g8:∀i j c,Fs i j c->g.F hd c/\c≠b) (g9:∀i j i' j' c,Fs i j c->Fs i' j' c->i=i'/\j=j')
  (g10:∀(i j:Nat)(row:List Tr)(t:Tr)(c:Value),rows[i]?=some row->row[j]?=some t->cur[i*n+j]?=some c->(lnk ln i j=none->fw w (Fs i j) c t)/\∀h len,lnk ln i j=some (h,len)->Rep g w c (.sl h len))
  (hB:rows.length*B<=150000000000000) (hn0:0<n) (hrow:rows[i]?=some row) (hto:row[off]?=some (.lst n2 B2 rows2)) (hc:cur[i*n+off]?=some v) (hlk:lnk ln i off=none) (hn2:0<n2) :
  ∃g',Rep g' w v (.sl nh rows2.length)/\MSt g' w (bL m' [(nh,some (.own n2 B2 rows2 [])),(hd,some (.own n B rows (((i,off),(nh,rows2.length))::ln)))])/\Grow g w g' w/\∀k,k≠nh->g k=.un->g' k=.un:=by
 have hrep:=(g10 i off row _ v hrow hto hc).1 hlk;have hFo:∀c,Fs i off c->g.F hd c:=fun c hc=>(g8 i off c hc).1;have hroot:∀c,(Loc.row b cap).b=some c->¬ Fs i off c:=fun c e hc=>by cases e;exact(g8 i off _ hc).2 rfl
 have hnl:∀ {l':Loc} {Fn:Nat->Prop} {v:Value},(∀c,l'.b=some c->Fs i off c)->(∀c,Fn c->Fs i off c)->cur[i*n+off]?=some v->Rep (gfoc g hd nh l' (Fs i off) Fn) w v (.sl nh rows2.length) ->
   fE (gfoc g hd nh l' (Fs i off) Fn) w (.row b cap) (fun c=>g.F hd c/\¬ Fs i off c) (.own n B rows (((i,off),(nh,rows2.length))::ln)):=fun{l' Fn v} hl' hFn hcv hsl=>by
  have hG:=eR (w:=w) (l':=l') (Fo:=Fs i off) (Fn:=Fn) hn g1 hFo hl' hFn;refine⟨hB,hn0,.inr ⟨b,cap,cur,e,fun i' j' c=>Fs i' j' c/\¬ (i'=i/\j'=off),rfl,g3,g4,g5,g6,g7,fun i' j' c hc=>⟨⟨(g8 i' j' c hc.1).1,fun q=>hc.2 ((g9 i' j' i off c hc.1 q))⟩,(g8 i' j' c hc.1).2⟩,fun a1 a2 a3 a4 c q1 q2=>g9 a1 a2 a3 a4 c q1.1 q2.1,fun i' j' row' t' c' q1 q2 q3=>?_⟩⟩;rw[bm];by_cases hij:i=i'/\off=j'
  ·rw[Gw hij];refine⟨fun q=>(by cases q),fun h' len' q=>?_⟩;cases q;obtain⟨rfl,rfl⟩:=hij;rw[hcv] at q3;cases q3;exact hsl
  ·rw[GN hij];obtain⟨u1,u2⟩:=g10 i' j' row' t' c' q1 q2 q3;exact⟨fun q=>(u1 q).mono fun c hc=>⟨hc,fun q=>hij ⟨q.1.symm,q.2.symm⟩⟩,fun h' len' q=>(u2 h' len' q).grow hG⟩
 cases hrep with
 |nil=>
  have hl':∀c,Loc.nil.b=some c->Fs i off c:=fun c e=>by cases e
  have hFn:∀c,(fun _:Nat=>False) c->Fs i off c:=fun c e=>e.elim;have hsl:Rep (gfoc g hd nh .nil (Fs i off) fun _=>False) w (.slice none 0 0) (.sl nh 0):=.slN iT;refine⟨gfoc g hd nh .nil (Fs i off) fun _=>False,hsl,?_,eR hn g1 hFo hl' hFn,fun k q1 q2=>(fR q1).trans q2⟩;exact nZ hm hn g1 hFo hroot hl' hFn ⟨JX,hn2,.inl JY⟩ (hnl hl' hFn hc hsl)
 | @lst _ b' cap' _ _ e' _ cur' Fs' h1 h2 h3 h4 h5 h6 h7 h8 h9 h10 h11=>
  have hl':∀c,(Loc.row b' cap').b=some c->Fs i off c:=fun c e=>by cases e;exact h8
  have hFn:∀c,(fun c=>∃i j,Fs' i j c) c->Fs i off c:=fun c ⟨i1,j1,q⟩=>(h9 i1 j1 c q).1;have hsl:Rep (gfoc g hd nh (.row b' cap') (Fs i off) fun c=>∃i j,Fs' i j c) w (.slice (some ⟨b',0,none⟩) rows2.length cap') (.sl nh rows2.length):=.sl iT h4;refine⟨gfoc g hd nh (.row b' cap') (Fs i off) fun c=>∃i j,Fs' i j c,hsl,?_,eR hn g1 hFo hl' hFn,fun k q1 q2=>(fR q1).trans q2⟩;refine nZ hm hn g1 hFo hroot hl' hFn ⟨h1,h2,.inr ⟨b',cap',cur',e',Fs',rfl,h3,h4,h5,h6,h7,fun i1 j1 c q=>⟨⟨i1,j1,q⟩,(h9 i1 j1 c q).2⟩,h10,fun i1 j1 row1 t1 c1 q1 q2 q3=>⟨fun _=>h11 i1 j1 row1 t1 c1 q1 q2 q3,fun _ _ q=>by cases q⟩⟩⟩ (hnl hl' hFn hc hsl)
theorem fX{ln:List ((Nat×Nat)×(Nat×Nat))}{i:Nat}:∀ {l:List Tr} {j:Nat},(sw ln i j l).length=l.length
 |[],_=>rfl
 | _::r,j=>by show(sw ln i (j+1) r).length+1=r.length+1;rw[fX]
theorem iV{ln:List ((Nat×Nat)×(Nat×Nat))}{i:Nat}:∀ {l:List Tr} {j k:Nat} {t:Tr},l[k]?=some t->(sw ln i j l)[k]?=some (match lnk ln i (j+k) with|some (h,len)=>.sl h len|none=>.tr t)
 |[],_,_,_,h=>by simp at h
 | x::r,j,0,t,h=>by simp at h;subst h;rfl
 | x::r,j,k+1,t,h=>by
   have h:r[k]?=some t:=by simpa using h
   have:=iV (ln:=ln) (i:=i) (j:=j+1) h;rw[(JQ:j+1+k=j+(k+1))] at this;show(sw ln i (j+1) r)[k]?=_;exact this
section
variable {P:Program} {T:Ty} {o:Oper} {m:Mem} {nh:Nat} {ev:Operand->Option AV} {K:KK}
theorem vQ(hT:TOk P T){ty:TypeId}{x:Operand}{a:AV}(ho:o.op=.load ty x)(hx:ev x=some a)(h:qV T m nh ty K a):LOk P o m nh ev K:=by
 have hrun:∀(ρ:Operand->Value)(w:World)(v u:Value),ρ x=u->(Instr.loadAt ty u).run P w=.ok v w->(execOp ρ o).run P w=.ok (.value v) w:=fun ρ w v u hu e=>by subst hu;simp[execOp,ho,e]
 unfold qV at h;split at h;case h_2=>exact vh hT ho hx h
 rename_i hd n i off;split at h;case h_2=>exact vh hT ho hx h
 rename_i n' B rows ln e2;split at h;case h_2=>exact h.elim
 rename_i ti e1;have rdok:∀p∈[(hd,Blk.own n' B rows ln)],m p.1=some p.2:=fun p hp=>by simp at hp;subst hp;exact e2
 cases hag:ti.d.agg with
 |true=>
  rw[hag,r7] at h;cases hsl:hasSl ti.zero with
  |true=>
   rw[hsl,r7] at h;obtain⟨rfl,hi,h⟩:=h;obtain⟨row,hrow⟩:∃row,rows[i]?=some row:=⟨rows[i],by simp[hi]⟩;obtain⟨hs,h⟩:=h row hrow;have base:∀(g:Gh)(w:World)(m':Mem)(ρ:Operand->Value),MSt g w m'->(∀p∈[(hd,Blk.own n B rows ln)],m' p.1=some p.2)->(∀x b,ev x=some b->Rep g w (ρ x) b) ->
     ∃(b cap:Nat)(cur:Array Value)(e:Nat)(Fs:Nat->Nat->Nat->Prop),g hd=.live (.row b cap)/\w.heap[b]?=some (.cells cur e (0,0))/\rows.length<=cap/\cap<=9223372036854775807/\cur.size=cap*n/\(∀row∈rows,row.length=n)/\(∀i j c,Fs i j c->g.F hd c/\c≠b)/\(∀i j i' j' c,Fs i j c->Fs i' j' c->i=i'/\j=j') /\
      (∀(i j:Nat)(row:List Tr)(t:Tr)(c:Value),rows[i]?=some row->row[j]?=some t->cur[i*n+j]?=some c->(lnk ln i j=none->fw w (Fs i j) c t)/\∀h len,lnk ln i j=some (h,len)->Rep g w c (.sl h len)) /\
      rows.length*B<=150000000000000/\0<n/\i*n+n<=cur.size/\row.length=n/\(execOp ρ o).run P w=.ok (.value (.agg (cur.extract (i*n+off) (i*n+off+ti.size)))) w:=by
    intro g w m' ρ hm hrd hev;obtain⟨lc,g1,hB,hn,⟨_,hv⟩|⟨b,cap,cur,e,Fs,rfl,g3,g4,g5,g6,g7,g8,g9,g10⟩⟩:=hm.blk hd _ (hrd (hd,.own n B rows ln) JX);·rw[hv] at hi;simp at hi
    obtain⟨b',cap',e3,e4⟩:=(hev _ _ hx).vpt_inv g1;cases e3;have hl:=g7 row (i3 hrow);have hsz:i*n+n<=cur.size:=by have:(i+1)*n<=cap*n:=Eb _ JQ;rw[G4] at this;omega
    refine⟨b,cap,cur,e,Fs,g1,g3,g4,g5,g6,g7,g8,g9,g10,hB,hn,hsz,hl,hrun ρ w _ _ e4 ?_⟩;have:=dI hT e1 hag (w:=w) (b:=b) (o:=i*n+off) (cur.extract (i*n+off) (i*n+off+ti.size)).toList (by simp;omega) fun j v hj=>by
     rw[aD g3];simp only[Gx,Hc] at hj;split at hj;·exact hj
     ·cases hj
    rw[I8] at this;exact this
   have cell:∀ {cur:Array Value} {k:Nat} {c:Value} {t:Tr},(cur.extract (i*n+off) (i*n+off+ti.size))[k]?=some c->((row.drop off).take ti.size)[k]?=some t->cur[i*n+(off+k)]?=some c/\row[off+k]?=some t/\k<ti.size:=fun{cur k c t} h1 h2=>by
    simp only[Hc] at h1;rw[Ba] at h2;split at h2
    ·rename_i hk;rw[GA] at h2;split at h1;·exact⟨by rw[<-Hn];exact h1,h2,hk⟩
     ·cases h1
    ·cases h2
   rcases h with⟨hlf,h⟩|⟨j,n2,B2,rows2,j0,j1,hj,hn2,hln,hlf,h⟩
   ·refine LOk.pure _ _ h rdok fun g w m' ρ hm hrd hev=>?_;obtain⟨b,cap,cur,e,Fs,g1,g3,g4,g5,g6,g7,g8,g9,g10,hB,hn0,hsz,hl,hr⟩:=base g w m' ρ hm hrd hev;refine⟨_,hr,.agg (by rw[fX];simp;omega) (fun a ha=>?_) fun k c a h1 h2=>?_⟩
    ·obtain⟨k,hk⟩:=Gv.1 ha;have hlt:k<((row.drop off).take ti.size).length:=by have:=(a9.1 hk).1;rwa [fX] at this
     rw[iV (ab hlt)] at hk;obtain rfl:=vx hk;split<;>rfl
    ·have hlt:k<((row.drop off).take ti.size).length:=by have:=(a9.1 h2).1;rwa [fX] at this
     have ht:=ab hlt;rw[iV ht] at h2;obtain rfl:=vx h2;obtain⟨q1,q2,q3⟩:=cell h1 ht;generalize (List.take ti.size (List.drop off row))[k]=t at ht q2;obtain⟨u1,u2⟩:=g10 i (off+k) row t c hrow q2 q1;cases hlk:lnk ln i (off+k) with
     |some p=>exact u2 p.1 p.2 hlk
     |none=>
      obtain⟨y,rfl⟩:=hlf (off+k) t JQ JQ q2 hlk;cases u1 hlk with
      |v hy=>exact .tr (.v hy)
   ·refine⟨_,_,_,h,rdok,fun p hp=>?_,fun g w m' ρ hm hn hrd hev=>?_⟩
    ·simp at hp;rcases hp with rfl|rfl
     ·exact .inl rfl
     ·exact .inr ⟨(hd,.own n B rows ln),JX,rfl⟩
    obtain⟨b,cap,cur,e,Fs,g1,g3,g4,g5,g6,g7,g8,g9,g10,hB,hn0,hsz,hl,hr⟩:=base g w m' ρ hm hrd hev;have hjr:j<n:=by rw[<-hl];exact(a9.1 hj).1
    have hcj:cur[i*n+j]?=some (cur[i*n+j]' JQ):=by simp[(JQ:i*n+j<cur.size)]
    obtain⟨g',f1,f2,f3,f4⟩:=n7 hm hn g1 g3 g4 g5 g6 g7 g8 g9 g10 hB hn0 hrow hj hcj (hln j j0 j1) hn2;refine⟨g',w,.inl ⟨_,hr,.agg (by simp;omega) (fun a ha=>?_) fun k c a h1 h2=>?_⟩,f2,f3,f4⟩
    ·rcases HM ha with ha|rfl
     ·obtain⟨t,_,rfl⟩:=GM.1 ha;rfl
     ·rfl
    ·by_cases hk:j-off=k
     ·subst hk;rw[GD (by simp;omega)] at h2;obtain rfl:=vx h2;simp only[Hc] at h1;split at h1
      ·rw[(JQ:i*n+off+(j-off)=i*n+j),hcj] at h1;obtain rfl:=vx h1;exact f1
      ·cases h1
     ·rw[GW hk,z5,z9] at h2;obtain⟨t,ht,rfl⟩:=h2;obtain⟨q1,q2,q3⟩:=cell h1 ht;obtain⟨y,rfl⟩:=hlf (off+k) t JQ JQ JQ q2;cases (g10 i (off+k) row _ c hrow q2 q1).1 (hln _ JQ JQ) with
      |v hy=>exact .tr (.v hy)
  |false=>
  rw[hsl,lh] at h;obtain⟨rfl,hi,h⟩:=h;obtain⟨row,hrow⟩:∃row,rows[i]?=some row:=⟨rows[i],by simp[hi]⟩;obtain⟨hs,hlf,hln,h⟩:=h row hrow;refine LOk.pure _ _ h rdok fun g w m' ρ hm hrd hev=>?_;obtain⟨lc,g1,hB,hn,⟨_,hv⟩|⟨b,cap,cur,e,Fs,rfl,g3,g4,g5,g6,g7,g8,g9,g10⟩⟩:=hm.blk hd _ (hrd (hd,.own n B rows ln) JX);·rw[hv] at hi;simp at hi
  obtain⟨b',cap',e3,e4⟩:=(hev _ _ hx).vpt_inv g1;cases e3;have hl:=g7 row (i3 hrow);have hsz:i*n+n<=cur.size:=by have:(i+1)*n<=cap*n:=Eb _ JQ;rw[G4] at this;omega
  have hcs:ca g w (cur.extract (i*n+off) (i*n+off+ti.size)).toList.toArray (((row.drop off).take ti.size).map .tr):=by
   refine pm (by simp;omega) fun k c t h1 h2=>?_;have hmem:=i3 h2;simp only[Gx,Hc] at h1;rw[Ba] at h2;split at h2
   ·rename_i hk;rw[GA] at h2;split at h1
    ·have hc:=(g10 i (off+k) row t c hrow h2 (by rw[<-Hn];exact h1)).1 (hln (off+k) JQ JQ);obtain⟨y,rfl⟩:=hlf t hmem;cases hc with
     |v hy=>exact .v hy
    ·cases h1
   ·cases h2
  refine⟨_,hrun ρ w _ _ e4 (dI hT e1 hag (cur.extract (i*n+off) (i*n+off+ti.size)).toList (by simp;omega) fun j v hj=>?_),hcs.agg⟩;rw[aD g3];simp only[Gx,Hc] at hj;split at hj;·exact hj
  ·cases hj
 |false=>
  rw[hag,lh] at h;obtain⟨rfl,hi,h⟩:=h;obtain⟨row,hrow⟩:∃row,rows[i]?=some row:=⟨rows[i],by simp[hi]⟩;obtain⟨hlo,h⟩:=h row hrow;have hto:row[off]?=some row[off]:=by simp[hlo]
  have h:=h _ hto;generalize row[off]=t at h hto;have base:∀(g:Gh)(w:World)(m':Mem)(ρ:Operand->Value),MSt g w m'->(∀p∈[(hd,Blk.own n B rows ln)],m' p.1=some p.2)->(∀x b,ev x=some b->Rep g w (ρ x) b) ->
    ∃(b cap:Nat)(cur:Array Value)(e:Nat)(Fs:Nat->Nat->Nat->Prop)(c:Value),g hd=.live (.row b cap)/\w.heap[b]?=some (.cells cur e (0,0))/\rows.length<=cap/\cap<=9223372036854775807/\cur.size=cap*n/\(∀row∈rows,row.length=n)/\(∀i j c,Fs i j c->g.F hd c/\c≠b)/\(∀i j i' j' c,Fs i j c->Fs i' j' c->i=i'/\j=j') /\
     (∀(i j:Nat)(row:List Tr)(t:Tr)(c:Value),rows[i]?=some row->row[j]?=some t->cur[i*n+j]?=some c->(lnk ln i j=none->fw w (Fs i j) c t)/\∀h len,lnk ln i j=some (h,len)->Rep g w c (.sl h len)) /\
     cur[i*n+off]?=some c/\(execOp ρ o).run P w=.ok (.value c) w/\rows.length*B<=150000000000000/\0<n:=by
   intro g w m' ρ hm hrd hev;obtain⟨lc,g1,hB,hn,⟨_,hv⟩|⟨b,cap,cur,e,Fs,rfl,g3,g4,g5,g6,g7,g8,g9,g10⟩⟩:=hm.blk hd _ (hrd (hd,.own n B rows ln) JX);·rw[hv] at hi;simp at hi
   obtain⟨b',cap',e3,e4⟩:=(hev _ _ hx).vpt_inv g1;cases e3;have hl:=g7 row (i3 hrow);have hsz:i*n+n<=cur.size:=by have:(i+1)*n<=cap*n:=Eb _ JQ;rw[G4] at this;omega
   have hc:cur[i*n+off]?=some cur[i*n+off]:=by simp[(JQ:i*n+off<cur.size)]
   exact⟨b,cap,cur,e,Fs,_,g1,g3,g4,g5,g6,g7,g8,g9,g10,hc,hrun ρ w _ _ e4 (de hT e1 hag (by rw[aD g3];exact hc)),hB,hn⟩
  split at h
  ·rename_i c len hlk;refine LOk.pure _ _ h rdok fun g w m' ρ hm hrd hev=>?_;obtain⟨b,cap,cur,e,Fs,v,g1,g3,g4,g5,g6,g7,g8,g9,g10,hc,hr,_⟩:=base g w m' ρ hm hrd hev;exact⟨v,hr,(g10 i off row t v hrow hto hc).2 c len hlk⟩
  ·rename_i hlk;split at h
   ·rename_i y;refine LOk.pure _ _ h rdok fun g w m' ρ hm hrd hev=>?_;obtain⟨b,cap,cur,e,Fs,v,g1,g3,g4,g5,g6,g7,g8,g9,g10,hc,hr,_⟩:=base g w m' ρ hm hrd hev;refine⟨v,hr,?_⟩;cases (g10 i off row _ v hrow hto hc).1 hlk with
    |v hy=>exact .tr (.v hy)
   ·rename_i n2 B2 rows2;obtain⟨hn2,h⟩:=h;refine⟨_,_,_,h,rdok,fun p hp=>?_,fun g w m' ρ hm hn hrd hev=>?_⟩
    ·simp at hp;rcases hp with rfl|rfl
     ·exact .inl rfl
     ·exact .inr ⟨(hd,.own n B rows ln),JX,rfl⟩
    obtain⟨b,cap,cur,e,Fs,v,g1,g3,g4,g5,g6,g7,g8,g9,g10,hc,hr,hB,hn0⟩:=base g w m' ρ hm hrd hev;obtain⟨g',f1,f2,f3,f4⟩:=n7 hm hn g1 g3 g4 g5 g6 g7 g8 g9 g10 hB hn0 hrow hto hc hlk hn2;exact⟨g',w,.inl ⟨_,hr,f1⟩,f2,f3,f4⟩
theorem fo(a b:List ((Nat×Nat)×(Nat×Nat)))(i j:Nat):lnk (a++b) i j=match lnk a i j with|some x=>some x|none=>lnk b i j:=by
 induction a with
 |nil=>rfl
 |cons p a ih=>
  obtain⟨⟨i',j'⟩,x⟩:=p;rw[H8,bm,bm,ih];split<;>rfl
theorem DD{i off k:Nat}:∀ {ln:List ((Nat×Nat)×(Nat×Nat))},Fm i off k ln->∀i' j',lnk (sG off k ln) i' j'=if i'=i/\off<=j'/\j'<off+k then none else lnk ln i' j':=by
 intro ln;induction ln with
 |nil=>intro _ i' j';show(none:Option (Nat×Nat))=_;split<;>rfl
 |cons p r ih=>
  obtain⟨⟨a,b⟩,x⟩:=p;intro h i' j';obtain⟨h1,h2⟩:=h;have h1:(Nat.ble off b&&Nat.blt b (off+k))=true->a=i:=h1;show lnk (bif Nat.ble off b&&Nat.blt b (off+k) then sG off k r else((a,b),x)::sG off k r) i' j'=_;cases hc:(Nat.ble off b&&Nat.blt b (off+k)) with
  |true=>
   have ha:=h1 hc;rw[r7,ih h2,bm];simp only[t4] at hc;have q1:=oo hc.1;have q2:b<off+k:=oo hc.2;by_cases q:i'=i/\off<=j'/\j'<off+k;·rw[Gw q,Gw q]
   ·rw[GN q,GN q];by_cases q3:a=i'/\b=j';·exact absurd ⟨JQ,JQ,JQ⟩ q
    ·rw[GN q3]
  |false=>
   rw[lh,bm,bm,ih h2];by_cases q3:a=i'/\b=j'
   ·rw[Gw q3,Gw q3];have:¬ (i'=i/\off<=j'/\j'<off+k):=fun q=>by
     obtain⟨rfl,rfl⟩:=q3;have e1:Nat.ble off b=true:=G6 q.2.1;have e2:Nat.blt b (off+k)=true:=G6 q.2.2;rw[e1,e2] at hc;cases hc
    rw[GN this]
   ·rw[GN q3,GN q3]
theorem mP{i:Nat}:∀ {as:List AV} {off:Nat} {ts:List Tr} {ls:List ((Nat×Nat)×(Nat×Nat))},k9 i off as=some (ts,ls)->ts.length=as.length/\(∀i' j',lnk ls i' j'≠none->i'=i/\off<=j'/\j'<off+as.length) /\
  ∀(k:Nat)(a:AV),as[k]?=some a->(∃x,a=.tr (.v x)/\ts[k]?=some (.v x)/\lnk ls i (off+k)=none)\/∃h len,a=.sl h len/\lnk ls i (off+k)=some (h,len):=by
 intro as;induction as with
 |nil=>
  intro off ts ls h;cases h;exact⟨rfl,fun i' j' q=>absurd rfl q,fun k a q=>by simp at q⟩
 |cons a r ih=>
  intro off ts ls h;unfold k9 at h;split at h;case h_2=>cases h
  rename_i t l ts' ls' e1 e2;cases h;obtain⟨h1,h2,h3⟩:=ih e2;have hz:lnk ls' i off=none:=by
   cases q:lnk ls' i off with
   |none=>rfl
   |some x=>have:=h2 i off (by rw[q];simp);omega
  have hcons:∀ {x},(match l with|some x=>((i,off),x)::ls'|none=>ls')=x->True:=fun _=>trivial;cases l with
  |none=>
   refine⟨by simp[h1],fun i' j' q=>?_,fun k b q=>?_⟩;·have:=h2 i' j' q;simp only[E0];omega
   ·cases k with
    |zero=>
     simp at q;subst q;unfold Dy at e1;split at e1<;>cases e1;exact .inl ⟨_,rfl,rfl,hz⟩
    |succ k=>
     have:=h3 k b (by simpa using q);rw[(JQ:off+1+k=off+(k+1))] at this;simpa using this
  |some x=>
   refine⟨by simp[h1],fun i' j' q=>?_,fun k b q=>?_⟩
   ·rw[bm] at q;simp only[E0];by_cases q1:i=i'/\off=j';·omega
    ·rw[GN q1] at q;have:=h2 i' j' q;omega
   ·cases k with
    |zero=>
     simp at q;subst q;unfold Dy at e1;split at e1<;>cases e1;exact .inr ⟨_,_,rfl,by rw[bm,Gw ⟨rfl,rfl⟩]⟩
    |succ k=>
     have:=h3 k b (by simpa using q);rw[(JQ:off+1+k=off+(k+1))] at this;rw[bm,GN JQ];simpa using this
theorem xe{i off k:Nat}:∀ {ln:List ((Nat×Nat)×(Nat×Nat))},Cy i off k ln->∀i' j',lnk ln i' j'=if i'=i/\off<=j'/\j'<off+k then none else lnk ln i' j':=by
 intro ln;induction ln with
 |nil=>intro _ i' j';show(none:Option (Nat×Nat))=_;split<;>rfl
 |cons p r ih=>
  obtain⟨⟨a,b⟩,x⟩:=p;intro h i' j';obtain⟨h1,h2⟩:=h;have h1:(Nat.ble off b&&Nat.blt b (off+k))=true->a≠i:=h1;by_cases q:i'=i/\off<=j'/\j'<off+k
  ·have:=ih h2 i' j';rw[Gw q] at this |-
   rw[bm,GN,this];rintro⟨rfl,rfl⟩;refine h1 ?_ q.1;rw[G6 q.2.1,show Nat.blt b (off+k)=true from G6 q.2.2];rfl
  ·rw[GN q]
theorem l_storeO(hT:TOk P T){ty:TypeId}{x y:Operand}{a b:AV}(ho:o.op=.store ty x y)(hx:ev x=some a)(hy:ev y=some b)(h:pU T m ty b K a):LOk P o m nh ev K:=by
 have hrun:∀(ρ:Operand->Value)(w w':World)(u:Value),ρ x=u->(Instr.storeAt ty u (ρ y)).run P w=.ok () w'->(execOp ρ o).run P w=.ok .skip w':=fun ρ w w' u hu e=>by subst hu;simp[execOp,ho,e]
 unfold pU at h;split at h;case h_2=>exact vl hT ho hx hy h
 rename_i hd n i off;split at h;case h_2=>exact vl hT ho hx hy h
 rename_i n' B rows ln e2;split at h;case h_2=>exact h.elim
 rename_i ti as e1 e3;split at h;case h_2=>exact h.elim
 rename_i ts ls e4;obtain⟨ln2,hcut,rfl,c0,c1,c2,h⟩:∃ln2,(∀i' j',lnk ln2 i' j'=if i'=i/\off<=j'/\j'<off+as.length then none else lnk ln i' j')/\n=n'/\as.all AV.one=true/\as.length=ti.size/\i<rows.length/\∀row,rows[i]?=some row->off+as.length<=row.length /\
   K .und [(hd,.own n' B rows ln)] [(hd,some (.own n' B (rows.set i (row.take off++ts++row.drop (off+ts.length))) (ls++ln2)))]:=by
  cases ln with
  |nil=>obtain⟨q1,q2,q3,q4,_,q5⟩:=h;exact⟨[],xe trivial,q1,q2,q3,q4,q5⟩
  |cons p r=>
   rcases h with⟨q1,q2,q3,q4,q6,q5⟩|⟨q1,q2,q3,q4,q6,q5⟩
   ·exact⟨_,DD q6,q1,q2,q3,q4,q5⟩
   ·exact⟨_,xe q6,q1,q2,q3,q4,q5⟩
 obtain⟨row,hrow⟩:∃row,rows[i]?=some row:=⟨rows[i],by simp[c2]⟩;obtain⟨c3,h⟩:=h row hrow;obtain⟨o1,o2,o3⟩:=mP e4;refine⟨_,_,_,h,fun p hp=>by simp at hp;subst hp;exact e2,fun p hp=>.inr ⟨(hd,.own n B rows ln),JX,by simp at hp;rw[hp]⟩,fun g w m' ρ hm hn hrd hev=>?_⟩;obtain⟨lc,g1,hB,hn0,⟨_,hv⟩|⟨k,cap,cur,e,Fs,rfl,g3,g4,g5,g6,g7,g8,g9,g10⟩⟩:=hm.blk hd _ (hrd (hd,.own n B rows ln) JX);·rw[hv] at c2;simp at c2
 obtain⟨b',cap',q1,q2⟩:=(hev _ _ hx).vpt_inv g1;cases q1;have hcs:=(hev _ _ hy).cells e3 c0;have hcz:=hcs.1;have hrl:=g7 row (i3 hrow);have hsz:i*n+n<=cur.size:=by have:(i+1)*n<=cap*n:=Eb _ JQ;rw[G4] at this;omega
 have hr:=gV (P:=P) hT e1 g3 (x:=ρ y) (o:=i*n+off) JQ (fun v hv=>by
   obtain⟨j,hj⟩:=Gv.1 hv;have hj':j<as.length:=by have:=(a9.1 hj).1;simp at this;omega
   exact(hcs.2.2 j v as[j] (by simpa using hj) (by simp[hj'])).one (hcs.2.1 _ JX)) JQ
 have hk2:=Jr w k cur (cur.toList.take (i*n+off)++(ρ y).cells.toList++cur.toList.drop (i*n+off+(ρ y).cells.size)).toArray e _ g3;have hko:=fun j hj=>Iw w k j (cur.toList.take (i*n+off)++(ρ y).cells.toList++cur.toList.drop (i*n+off+(ρ y).cells.size)).toArray hj;have hg:=cq (b:=k) (hm.xl hd k (.root g1 rfl)) (.root g1 rfl) (w:=w) (w':=w.setRow k (cur.toList.take (i*n+off)++(ρ y).cells.toList++cur.toList.drop (i*n+off+(ρ y).cells.size)).toArray) rfl rfl rfl JX hko;have hsz2:(w.setRow k (cur.toList.take (i*n+off)++(ρ y).cells.toList++cur.toList.drop (i*n+off+(ρ y).cells.size)).toArray).heap.size=w.heap.size:=JX;generalize w.setRow k (cur.toList.take (i*n+off)++(ρ y).cells.toList++cur.toList.drop (i*n+off+(ρ y).cells.size)).toArray=w2 at *
 refine⟨g,_,.inr ⟨hrun ρ w _ _ q2 hr,rfl⟩,?_,hg,fun _ _ h=>h⟩;refine dD hm g1 JZ hg hsz2 hko ⟨by simpa using hB,hn0,.inr ⟨k,cap,_,e,Fs,rfl,hk2,by simpa using g4,g5,by simp;omega,fun r hr=>?_,g8,g9,fun i' j' row' t' c' r1 r2 r3=>?_⟩⟩
 ·rcases HM hr with hr|rfl
  ·exact g7 r hr
  ·simp;omega
 have hold:∀ {i' j' row0 t0},rows[i']?=some row0->row0[j']?=some t0->cur[i'*n+j']?=some c'->(lnk ln i' j'=none->fw w2 (Fs i' j') c' t0)/\∀h len,lnk ln i' j'=some (h,len)->Rep g w2 c' (.sl h len):=fun{i' j' row0 t0} a1 a2 a3=>by obtain⟨u1,u2⟩:=g10 i' j' row0 t0 c' a1 a2 a3;exact⟨fun q=>(u1 q).world fun b hb=>hko b (g8 i' j' b hb).2,fun h len q=>(u2 h len q).grow hg⟩
 have hlk:∀i' j',¬ (i'=i/\off<=j'/\j'<off+as.length)->lnk (ls++ln2) i' j'=lnk ln i' j':=fun i' j' q=>by
  have:lnk ls i' j'=none:=by
   cases e:lnk ls i' j' with
   |none=>rfl
   |some x=>exact absurd (o2 i' j' (by rw[e];simp)) q
  rw[fo,this,hcut,GN q]
 simp only[He,GH] at r3;by_cases hi':i'=i
 ·subst hi';have hr':row'=row.take off++ts++row.drop (off+ts.length):=by
   rw[GD c2] at r1;exact(vx r1).symm
  subst hr';rw[GH] at r2;have hjn:j'<n:=by have:=(a9.1 r2).1;simp at this;omega
  by_cases k1:j'<off
  ·rw[v9 (by rw[DK];omega),Ba,Gw k1] at r2;rw[v9 (by rw[DK,BQ];omega),Ba,Gw JQ] at r3;rw[hlk i' j' JQ];exact hold hrow r2 (by simpa using r3)
  ·rw[wS (by rw[DK];omega),DK,Hf JQ] at r2;rw[wS (by rw[DK,BQ];omega),DK,BQ,Hf JQ,(JQ:i'*n+j'-(i'*n+off)=j'-off)] at r3;by_cases k2:j'-off<as.length
   ·rw[v9 JQ] at r2;rw[v9 (by rw[BQ];omega)] at r3;have ha:as[j'-off]?=some as[j'-off]:=by simp[k2]
    have hrep:=hcs.2.2 (j'-off) c' _ (by simpa using r3) ha;rcases o3 (j'-off) _ ha with⟨x1,a1,a2,a3⟩|⟨h1,len1,a1,a2⟩
    ·rw[(JQ:off+(j'-off)=j')] at a3;rw[a2] at r2;cases r2;rw[a1] at hrep;have hl:lnk (ls++ln2) i' j'=none:=by rw[fo,a3,hcut,Gw ⟨rfl,JQ,JQ⟩]
     rw[hl];refine⟨fun _=>?_,fun _ _ q=>(by cases q)⟩;cases hrep.tr_inv with
     |v hx=>exact .v hx
    ·rw[(JQ:off+(j'-off)=j')] at a2;rw[a1] at hrep;rw[fo,a2];exact⟨fun q=>(by cases q),fun _ _ q=>(by cases q;exact hrep.grow hg)⟩
   ·rw[wS JQ,GA] at r2;rw[wS (by rw[BQ];omega),GA,BQ] at r3;rw[hlk i' j' JQ];rw[(JQ:off+ts.length+(j'-off-ts.length)=j')] at r2;exact hold hrow r2 (by rw[<-Gx,<-r3];congr 1;omega)
 ·rw[GW (fun q=>hi' q.symm)] at r1;have hl':=g7 row' (i3 r1);have hjn:j'<n:=by rw[<-hl'];exact(a9.1 r2).1
  rw[hlk i' j' JQ];refine hold r1 r2 ?_;rcases Nat.lt_or_gt_of_ne hi' with q|q
  ·have:(i'+1)*n<=i*n:=Eb _ q;rw[G4] at this;rw[v9 (by rw[DK,BQ];omega),Ba,Gw JQ] at r3;simpa using r3
  ·have:(i+1)*n<=i'*n:=Eb _ q;rw[G4] at this;rw[wS (by rw[DK,BQ];omega),DK,BQ,Hf JQ,wS (by rw[BQ];omega),GA,BQ] at r3;rw[<-Gx,<-r3];congr 1;omega
theorem zO(hT:TOk P T){t:Nat}{i:TyI}(ho:o.op=.alloc t)(ht:lk T t=some i)(h1:1<=i.size)(hK:K (.vpt nh i.size 0 0) [] [(nh,some (.own i.size i.bytes [ztrs i.zero] []))]):LOk P o m nh ev K:=by
 refine⟨_,_,_,hK,JX,JX,fun g w m' ρ hm hn hrd hev=>?_⟩;obtain⟨z,z1,z2,z3,z4⟩:=fg hT ht w;have hby:=(hT t i ht).2;have hp:Rep (gset g nh (.live (.row w.heap.size 1))) (w.alloc (.cells z.cells t)) (.pointer (some ⟨w.heap.size,0*i.size+0,none⟩)) (.vpt nh i.size 0 0):=.vpt (be ..);rw[(JQ:0*i.size+0=0)] at hp;refine kC.new hm hn (.cells z.cells t) (.row w.heap.size 1) (fun b e=>by cases e;rfl) _ (.pointer (some ⟨w.heap.size,0,none⟩)) ?_ (fun F=>⟨by simp;omega,h1,.inr ⟨_,1,_,t,fun _ _ _=>False,rfl,Hq w _,t9 _,JS,by rw[z2];simp[z3],fun row hr=>?_,fun _ _ _ h=>h.elim,fun _ _ _ _ _ h=>h.elim,fun a b row t' c q1 q2 q3=>⟨fun _=>?_,fun _ _ q=>by cases q⟩⟩⟩) hp;·simp[execOp,ho,Instr.alloc,z1,newVar,newRow]
 ·obtain rfl:=xB.1 hr;simp[ztrs,z3]
 ·have ha:a=0:=by have:=(a9.1 q1).1;simp at this;exact this
  subst ha;obtain rfl:ztrs i.zero=row:=by simpa using q1
  simp only[ztrs,z5,z9] at q2;obtain⟨y,y1,rfl⟩:=q2;rw[z2] at q3;simp only[JB,E7,He,z5,z9] at q3;obtain⟨y',y2,rfl⟩:=q3;rw[y1] at y2;cases y2;exact .v (eE y)
theorem D5(hT:TOk P T){t:Nat}{i:TyI}{x:Operand}{a:AV}{cs:List AV}{ts:List Tr}{ls:List ((Nat×Nat)×(Nat×Nat))}(ho:o.op=.box t x)(hx:ev x=some a)(hc:a.cells=some cs)(h1:cs.all AV.one=true)(ht:lk T t=some i)(hsz:1<=i.size)(hl:cs.length=i.size)
  (hoc:k9 0 0 cs=some (ts,ls)) (hK:K (.vpt nh i.size 0 0) [] [(nh,some (.own i.size i.bytes [ts] ls))]):LOk P o m nh ev K:=by
 refine⟨_,_,_,hK,JX,JX,fun g w m' ρ hm hn hrd hev=>?_⟩;obtain⟨o1,o2,o3⟩:=mP hoc;have hby:=(hT t i ht).2;have hg:=bS (w:=w) hm.xlt hn (.cells (ρ x).cells t) (l:=.row w.heap.size 1) (fun b e=>by cases e;rfl);have hcs:=Rep.cells ((hev _ _ hx).grow hg) hc h1;have hp:Rep (gset g nh (.live (.row w.heap.size 1))) (w.alloc (.cells (ρ x).cells t)) (.pointer (some ⟨w.heap.size,0*i.size+0,none⟩)) (.vpt nh i.size 0 0):=.vpt (be ..);rw[(JQ:0*i.size+0=0)] at hp;refine kC.new hm hn (.cells (ρ x).cells t) (.row w.heap.size 1) (fun b e=>by cases e;rfl) _ (.pointer (some ⟨w.heap.size,0,none⟩)) ?_ (fun F=>⟨by simp;omega,hsz,.inr ⟨_,1,_,t,fun _ _ _=>False,rfl,Hq w _,t9 _,JS,by rw[hcs.1,hl,Nat.one_mul],fun row hr=>?_,fun _ _ _ h=>h.elim,fun _ _ _ _ _ h=>h.elim,fun a b row t' c q1 q2 q3=>?_⟩⟩) hp;·simp[execOp,ho,Instr.box,newVar,newRow]
 ·obtain rfl:=xB.1 hr;omega
 ·have ha:a=0:=by have:=(a9.1 q1).1;simp at this;exact this
  subst ha;obtain rfl:ts=row:=by simpa using q1
  have hb:b<cs.length:=by rw[<-o1];exact(a9.1 q2).1
  have hcb:cs[b]?=some cs[b]:=by simp[hb]
  rw[JB,E7] at q3;have hrep:=hcs.2.2 b c _ q3 hcb;rcases o3 b _ hcb with⟨y,a1,a2,a3⟩|⟨h',len,a1,a2⟩
  ·rw[E7] at a3;rw[a2] at q2;cases q2;rw[a1] at hrep;refine⟨fun _=>?_,fun _ _ q=>(by rw[a3] at q;cases q)⟩;cases hrep.tr_inv with
   |v hx=>exact .v hx
  ·rw[E7] at a2;rw[a1] at hrep;exact⟨fun q=>(by rw[a2] at q;cases q),fun _ _ q=>(by rw[a2] at q;cases q;exact hrep)⟩
theorem io(hT:TOk P T){ty:Nat}{x i:Operand}{a:AV}{k:IntKind}{z:Int}(ho:o.op=.indexAddr ty x i)(hx:ev x=some a)(hi:ev i=some (.tr (.v (.int k z))))(h:dT T m ty z K a):LOk P o m nh ev K:=by
 unfold dT at h;split at h;case h_4=>exact jr hT ho hx hi h
 case h_3=>
  rename_i hd n q off;split at h;case h_2=>exact h.elim
  rename_i k' e s1 s2 s3 s4 bk e1 em;split at h;case h_2=>exact h.elim
  rename_i te e2;obtain⟨h0,h1,h⟩:=h;refine LOk.pure _ _ h (by simpa using em) fun g w m' ρ hm hrd hev=>?_;obtain⟨u,u1,u2,_⟩:=aI hT e1 w;obtain rfl:=jR u2;obtain⟨hz,_⟩:=db (hev _ _ hi);obtain⟨l,g1,g2⟩:=hm.blk hd _ (hrd (hd,bk) JX);have hr:=hev _ _ hx;generalize hv:ρ x=v at hr;cases hr with
  |vptD e=>rw[g1] at e;cases e
  |vpt e=>
   refine⟨_,?_,.vpt e⟩;simp[execOp,ho,hv,hz,Instr.indexAt,asIntOf,u1,h0,h1,aW hT e2,cG,Instr.sureAddr,Hn]
 case h_2=>
  rename_i q hd off;split at h;case h_2=>exact h.elim
  rename_i e s1 s2 s3 s4 bk e1 em;split at h;case h_2=>exact h.elim
  rename_i te e2;cases hc:(Nat.ble (2*HMod) q&&Nat.beq te.size 1) with
  |false=>rw[hc] at h;exact h.elim
  |true=>
   rw[hc,r7] at h;rw[t4] at hc;have hq:=oo hc.1;have hq2:=xx hc.2;obtain⟨h0,h1,h⟩:=h;refine LOk.pure _ _ h (by simpa using em) fun g w m' ρ hm hrd hev=>?_;obtain⟨u,u1,u2,_⟩:=aI hT e1 w;obtain rfl:=aR u2;obtain⟨hz,_⟩:=db (hev _ _ hi);obtain⟨l,g1,g2⟩:=hm.blk hd _ (hrd (hd,bk) JX);have hr:=hev _ _ hx;generalize hv:ρ x=v at hr;cases hr with
   |ifc h1 _=>omega
   |bnd h1 _=>omega
   |psl hp=>
    rename_i len b;generalize hpv:Value.pointer (some ⟨b,0,none⟩)=pv at hp;cases hp with
    |ptrD e=>rw[g1] at e;cases e
    |ptr e=>
     cases hpv;refine⟨.pointer (some ⟨b,0+z.toNat*te.size,none⟩),?_,?_⟩
     ·have h2:z<len:=JQ;simp[execOp,ho,hv,hz,Instr.indexAt,asIntOf,u1,h0,h2,aW hT e2,cG]
     ·rw[hq2,JJ];exact .ptr e
 rename_i hd len;split at h;case h_2=>exact jr hT ho hx hi h
 rename_i n B rows ln em;split at h;case h_2=>exact h.elim
 rename_i e s1 s2 s3 s4 e1;split at h;case h_2=>exact h.elim
 rename_i te e2;obtain⟨hn,h0,h1,h⟩:=h;refine LOk.pure _ _ h (by simpa using em) fun g w m' ρ hm hrd hev=>?_;obtain⟨u,u1,u2,_⟩:=aI hT e1 w;obtain rfl:=aR u2;obtain⟨hz,_⟩:=db (hev _ _ hi);obtain⟨l,g1,g2⟩:=hm.blk hd _ (hrd (hd,.own n B rows ln) JX);rcases(hev _ _ hx).sl_inv g1 with⟨b,cap,rfl,hle,hv⟩|⟨rfl,rfl,hv⟩
 ·refine⟨.pointer (some ⟨b,z.toNat*n+0,none⟩),?_,.vpt g1⟩;simp[execOp,ho,hv,hz,Instr.indexAt,asIntOf,u1,h0,h1,aW hT e2,hn,cG]
 ·omega
end
section
variable {P:Program} {T:Ty} {o:Oper} {m:Mem} {nh:Nat} {ev:Operand->Option AV} {K:KK}
theorem ot{g:Gh}{w:World}{ρ:Operand->Value}(hev:∀x b,ev x=some b->Rep g w (ρ x) b):∀(ps:List (Nat×Operand))(k:Nat)(l:List AV),im k (ps.map fun p=>(p.1,ev p.2))=some l ->
  ly ρ ps=((ps.map fun p=>ρ p.2).zipIdx k).map (fun x=>(x.2,x.1))/\l.length=ps.length/\(∀v∈ps.map (fun p=>ρ p.2),v.cells = #[v])/\(∀a∈l,a.one=true) /\
   ∀(i:Nat)(c:Value)(a:AV),(ps.map fun p=>ρ p.2)[i]?=some c->l[i]?=some a->Rep g w c a
 |[],k,l,h=>by cases h;exact⟨rfl,rfl,JX,JX,fun i c a h=>by simp at h⟩
 |(i,x)::ps,k,l,h=>by
  simp only[GO] at h;unfold im at h;cases hb:Nat.beq i k with
  |false=>rw[hb] at h;cases h
  |true=>
   rw[hb,r7] at h;have hik:=xx hb;subst hik;have key:∀(av:AV)(l':List AV),ev x=some av->im (i+1) (ps.map fun p=>(p.1,ev p.2))=some l'->l=av::l'->av.one=true->(ρ x).cells = #[ρ x] ->
     ly ρ ((i,x)::ps)=((((i,x)::ps).map fun p=>ρ p.2).zipIdx i).map (fun x=>(x.2,x.1))/\l.length=((i,x)::ps).length/\(∀v∈((i,x)::ps).map (fun p=>ρ p.2),v.cells = #[v])/\(∀a∈l,a.one=true) /\
     ∀(j:Nat)(c:Value)(a:AV),(((i,x)::ps).map fun p=>ρ p.2)[j]?=some c->l[j]?=some a->Rep g w c a:=fun av l' e1 e3 hl h1o hc=>by
    subst hl;obtain⟨h1,h2,h3,h4,h5⟩:=ot hev ps _ l' e3;refine⟨?_,by simp[h2],fun v hv=>?_,fun a ha=>?_,fun j c a e1 e2=>?_⟩
    ·show(i,ρ x)::ly ρ ps=_;rw[h1];rfl
    ·simp only[GO,F5] at hv;rcases hv with rfl|hv
     ·exact hc
     ·exact h3 v hv
    ·simp only[F5] at ha;rcases ha with rfl|ha
     ·exact h1o
     ·exact h4 a ha
    ·cases j with
     |zero=>simp at e1 e2;subst e1;subst e2;exact hev x _ (by assumption)
     |succ j=>exact h5 j c a (by simpa using e1) (by simpa using e2)
   split at h;case h_4=>cases h
   case h_3=>
    rename_i a _ _ e1;cases ho:a.one with
    |false=>rw[ho] at h;cases h
    |true=>
     rw[ho,r7] at h;split at h;case h_2=>cases h
     rename_i l' e3;cases h;refine key _ l' e1 e3 rfl ho ?_;have:=(hev x _ e1).one ho;generalize ρ x=v at this;cases v<;>first|rfl|cases this
   case h_1=>
    rename_i hd off e1;split at h;case h_2=>cases h
    rename_i l' e3;cases h;refine key _ l' e1 e3 rfl rfl ?_;have hr:=hev x _ e1;generalize hv:ρ x=v at hr;have:=hr.one rfl;cases hr with
    |ptr=>rfl
    |ptrD _ h1=>cases v<;>first|rfl|cases h1
   case h_2=>
    rename_i fd cs e1;split at h;case h_2=>cases h
    rename_i l' e3;cases h;refine key _ l' e1 e3 rfl rfl ?_;have hr:=hev x _ e1;generalize hv:ρ x=v at hr;cases hr with
    |fn=>rfl
theorem lm:∀(l:List Value),(∀v∈l,v.cells = #[v])->(l.flatMap fun v=>v.cells.toList)=l
 |[],_=>rfl
 |v::l,h=>by rw[Js,h v JX,lm l fun x hx=>h x (by simp[hx])];rfl
theorem lW(hT:TOk P T){t e len:Nat}{te:TyI}{ps:Array (Nat×Operand)}{a b:Nat}{z:List Z}{q:Bool}{l:List AV}(ho:o.op=.buildSlice t len ps)(ht:lk T t=some ⟨.slice e,a,b,z,q⟩)(he:lk T e=some te)
  (hr:im 0 (parts ev ps)=some l) (hl:l.length=len) (h1:te.size=1) (h2:len<=16777216) (h3:len*te.bytes<=140737488351232) (h0:1<=len) (hK:K (.ifc (2*HMod+len) (.ptr nh 0)) [] [(nh,some (.cells e l))]):LOk P o m nh ev K:=by
 refine⟨_,_,_,hK,JX,JX,fun g w m' ρ hm hn hrd hev=>?_⟩;obtain⟨ti,u,zt,_,u2,u3,_⟩:=hT.info ht;obtain rfl:=aR u3;obtain⟨ti',u',z',i1,_,_,i4,_,i6,i7,i8⟩:=hT.info he;obtain⟨q1,q2,q3,q4,q5⟩:=ot hev ps.toList 0 l hr;have e1:(Array.map (fun x=>(x.fst,ρ x.snd)) ps).toList=ly ρ ps.toList:=by simp[ly]
 have hz:=(bd i7).1;have hfl:=Great.fill_whole (s:=te.size) JQ (ps.toList.map fun p=>ρ p.2) ((Array.range (len*te.size)).map (z'.cells[· % z'.cells.size]!)) (fun v hv=>by rw[q3 v hv,h1];rfl) (by simp;rw[<-hl,q2];simp);have hrun:=run_buildSlice (P:=P) w t e len (Array.map (fun x=>(x.fst,ρ x.snd)) ps) _ ti' z' u2 i1 i6 (by rw[i4,h1];omega) (by rw[i4,h1];omega) (by rw[i4,e1,q1];exact hfl);rw[lm _ q3] at hrun;have hloc:∀b,Loc.b (.blk w.heap.size)=some b->b=w.heap.size:=fun b e=>by cases e;rfl
 have hg:=bS (w:=w) hm.xlt hn (.cells (ps.toList.map fun p=>ρ p.2).toArray e) hloc;refine kC.new hm hn (.cells (ps.toList.map fun p=>ρ p.2).toArray e) (.blk w.heap.size) hloc _ (.slice (some ⟨w.heap.size,0,none⟩) len len) ?_ (fun _=>⟨_,_,rfl,Hq w _,by simpa using q2.symm,q4,fun i c a e1 e2=>?_⟩) (.psl (.ptr (be ..)))
 ·simp only[execOp,ho,E9,hrun,De];rfl
 ·exact(q5 i c a (by simpa using e1) e2).grow hg
theorem mz(hT:TOk P T){t e len:Nat}{te:TyI}{ps:Array (Nat×Operand)}{a b:Nat}{z:List Z}{q:Bool}{rows:List (List Tr)}{ln:List ((Nat×Nat)×(Nat×Nat))}(ho:o.op=.buildSlice t len ps)(ht:lk T t=some ⟨.slice e,a,b,z,q⟩)(he:lk T e=some te)
  (hr:Bd te.size 0 (parts ev ps)=some (rows,ln)) (hl:rows.length=len) (h1:1<=te.size) (h2:len*te.size<=16777216) (h3:len*te.bytes<=140737488351232) (h0:1<=len) (hK:K (.sl nh len) [] [(nh,some (.own te.size te.bytes rows ln))]):LOk P o m nh ev K:=by cases hr
end
set_option linter.unusedVariables false
def gpack(g:Gh)(h c:Nat):Gh:=⟨fun k=>if k=c then .dead else g k,g.X,[],fun k b=>g.F k b\/(k=h/\cd g c b)⟩
section
variable {g:Gh} {w:World} {m:Mem} {h c:Nat}
theorem cU{k:Nat}(hk:k≠c):gpack g h c k=g k:=by simp[gpack,hk]
theorem DI{k:Nat}(hk:k≠h):(gpack g h c).F k=g.F k:=by funext b;simp[gpack,hk]
theorem gpack_owns{k b:Nat}(ho:cd (gpack g h c) k b):k≠c/\(cd g k b\/(k=h/\cd g c b)):=by
 obtain⟨l,e1,e2⟩:=ho;change(if k=c then HS.dead else g k)=.live l at e1;split at e1;·cases e1
 ·rename_i hk;refine⟨hk,?_⟩;rcases e2 with e2|e2|e2
  ·exact .inl ⟨l,e1,.inl e2⟩
  ·exact .inl ⟨l,e1,.inr e2⟩
  ·exact .inr e2
theorem jj{l:Loc}(hc:g c=.live l):Grow g w (gpack g h c) w:=by
 refine⟨rfl,rfl,rfl,t9 _,fun _ _=>rfl,fun _ _=>rfl,rfl,fun k hk=>?_,fun k lx hk=>?_,fun k b hk=>?_⟩
 ·by_cases e:k=c;·subst e;simp[gpack]
  ·rw[cU e];exact hk
 ·by_cases e:k=c
  ·subst e;have:gpack g h k k=.dead:=by simp[gpack]
   rw[this] at hk;cases hk
  ·rw[cU e] at hk;exact .inl hk
 ·rcases(gpack_owns hk).2 with q|⟨_,q⟩
  ·exact .inl ⟨k,q⟩
  ·exact .inl ⟨c,q⟩
theorem fE.monoF{l:Loc}{F F':Nat->Prop}{b:Blk}(hb:fE g w l F b)(hF:∀k,F k->F' k):fE g w l F' b:=by
 cases b with
 |cells t as=>exact hb
 |vec e n B rows=>exact hb
 |map kd es=>exact hb
 |mpa kd es=>exact hb
 |itr h0 n seen=>exact hb
 |fns e B h0 fs=>exact hb
 |own n B rows ln=>
  obtain⟨hB,hn,hv⟩:=hb;refine⟨hB,hn,?_⟩;rcases hv with hv|⟨k,cap,cur,e,Fs,rfl,e1,e2,e3,e4,e5,e6,e7,e8⟩
  ·exact .inl hv
  ·exact .inr ⟨k,cap,cur,e,Fs,rfl,e1,e2,e3,e4,e5,fun i j c h=>⟨hF c (e6 i j c h).1,(e6 i j c h).2⟩,e7,e8⟩
theorem sY{l l2:Loc}(hm:MSt g w m)(hh:g h=.live l)(hc:g c=.live l2)(hne:h≠c):MSt (gpack g h c) w (bL m [(c,none)]):=by
 have hg:=jj (w:=w) (h:=h) hc;refine⟨fun k b hb=>?_,fun k k' b e1 e2=>?_,fun k b e1=>?_,hm.xlt,fun k b e1=>?_,hm.gl.grow hg⟩
 ·by_cases e:c=k;·subst e;simp[bL,lk] at hb
  ·have e':Nat.beq c k=false:=bA e;have hb':m k=some b:=by simpa[bL,lk,e'] using hb
   obtain⟨l1,e1,e2⟩:=hm.blk k b hb';refine⟨l1,by rw[cU (fun q=>e q.symm),e1],fE.monoF (e2.grow hg fun k hk=>rfl) fun x hx=>.inl hx⟩
 ·obtain⟨q1,q2⟩:=gpack_owns e1;obtain⟨q3,q4⟩:=gpack_owns e2;rcases q2 with q2|⟨q2,q5⟩<;>rcases q4 with q4|⟨q4,q6⟩
  ·exact hm.inj k k' b q2 q4
  ·exact absurd (hm.inj k c b q2 q6) q1
  ·exact absurd (hm.inj k' c b q4 q5) q3
  ·rw[q2,q4]
 ·rcases(gpack_owns e1).2 with q|⟨_,q⟩
  ·exact hm.lt k b q
  ·exact hm.lt c b q
 ·rcases(gpack_owns e1).2 with q|⟨_,q⟩
  ·exact hm.xl k b q
  ·exact hm.xl c b q
theorem oS{l:Loc}{F:Nat->Prop}{b:Blk}{n B:Nat}{rows:List (List Tr)}{ln:List ((Nat×Nat)×(Nat×Nat))}{fl:Bool}(hb:fE g w l F b)(ha:b.asO=some (n,B,rows,ln,fl))(hl:zj fl rows):fE g w l F (.own n B rows ln):=by
 unfold Blk.asO at ha;split at ha;·cases ha;exact hb
 ·cases ha;obtain⟨hB,hn,hv⟩:=hb;refine⟨hB,hn,?_⟩;rcases hv with hv|⟨k,cap,cur,rfl,e1,e2,e3,e4,e5,e6⟩
  ·exact .inl hv
  ·refine .inr ⟨k,cap,cur,_,fun _ _ _=>False,rfl,e1,e2,e3,e4,e5,fun _ _ _ h=>h.elim,fun _ _ _ _ _ h=>h.elim,fun i j row t c q1 q2 q3=>⟨fun _=>?_,fun _ _ q=>by cases q⟩⟩;obtain⟨c',c1,c2⟩:=fP e5 e6 q1 q2;rw[q3] at c1;cases c1;obtain⟨x,rfl⟩:=hl row (i3 q1) t (i3 q2);cases c2 with
   |v hx=>exact fw.v hx
 ·cases ha
end
theorem jH(k:Nat):∀(ln:List ((Nat×Nat)×(Nat×Nat)))(i j:Nat),(i<k->lnk (eD k ln) i j=none)/\lnk (eD k ln) (k+i) j=lnk ln i j
 |[],i,j=>⟨fun _=>rfl,rfl⟩
 |((a,b),x)::r,i,j=>by
  obtain⟨h1,h2⟩:=jH k r i j;refine⟨fun h=>?_,?_⟩
  ·show lnk (((k+a,b),x)::eD k r) i j=none;rw[bm,GN JQ,h1 h]
  ·show lnk (((k+a,b),x)::eD k r) (k+i) j=_;rw[bm,bm,h2];by_cases q:a=i/\b=j;·rw[Gw q,Gw JQ]
   ·rw[GN q,GN JQ]
theorem AY{k:Nat}:∀ {ln:List ((Nat×Nat)×(Nat×Nat))},Fj k ln->∀i j,k<=i->lnk ln i j=none
 |[],_,i,j,_=>rfl
 |((a,b),x)::r,h,i,j,hi=>by have h1:a<k:=h.1;rw[bm,GN JQ,AY h.2 i j hi]
section
variable {P:Program} {T:Ty}
theorem ji(hT:TOk P T){w:World}{t e ty:Nat}{te:TyI}{a b:Nat}{z:List Z}{q:Bool}(ht:lk T t=some ⟨.slice e,a,b,z,q⟩)(he:lk T e=some te)(hn:1<=te.size)
  {b2 o2 mm c:Nat} {cl:List Value} (hl:cl.length=mm*te.size) (hmm:1<=mm)
  (hc:∀(j:Nat)(u:Value),cl[j]?=some u->w.cell? ⟨b2,o2+j,none⟩=some u) (h1:∀u∈cl,u.oneCell'=true) (h63:mm<=9223372036854775807) (hB:mm*te.bytes<=150000000000000) (row:Option Nat) :
  ∃w' k' cap' cur' e',(Builtin.append_ #[t,t] ty #[.slice none 0 0,.slice (some ⟨b2,o2,none⟩) mm c]).run P w=.ok (.slice (some ⟨k',0,none⟩) mm cap') w'/\w.grownBy w' row /\
   w'.heap[k']?=some (.cells cur' e' (0,0))/\mm<=cap'/\cap'<=9223372036854775807/\cur'.size=cap'*te.size/\(∀(j:Nat)(u:Value),cl[j]?=some u->cur'[j]?=some u)/\k'=w.heap.size:=by
 obtain⟨v',w',r1,r2,r3,r4⟩:=fm (ty:=ty) hT (g:=⟨fun _=>.un,fun _=>False,[],fun _ _=>False⟩) ht he hn (IP w 0 e te.size) (ao:=some ⟨b2,o2,none⟩) (mm:=mm) (c:=c) hl (fun j u hj=>⟨b2,o2,rfl,hc j u hj⟩) h1 JQ (by rw[E7];exact hB);rw[E7,HA] at r2;obtain⟨_,⟨rfl,rn⟩|⟨k,cap,cur,rfl,_,k1,k2,k3,k4,k5⟩⟩:=r2;·omega
 ·have hk:k=w.heap.size:=by
   rcases r4 with r4|r4
   ·simp[Value.ownBlock] at r4
   ·simpa[Value.ownBlock] using r4
  refine⟨w',k,cap,cur,e,r1,⟨r3.os,r3.tape,r3.output,r3.size,fun i hi _=>r3.block i hi (by simp[Value.ownBlock])⟩,k1,k2,by simpa[maxLen] using k3,k4,fun j u hj=>?_,hk⟩;rw[<-k5,Ba] at hj;split at hj;·simpa using hj
  ·cases hj
end
section
variable {P:Program} {T:Ty} {o:Oper} {m:Mem} {nh:Nat} {ev:Operand->Option AV} {K:KK}
theorem AP{h:Nat}{b:Blk}{x:Nat×Nat×List (List Tr)×List ((Nat×Nat)×(Nat×Nat))×Bool}(hm:mO m h=some (b,x)):m h=some b/\b.asO=some x:=by
 unfold mO at hm;split at hm
 ·rename_i b0 e0;split at hm
  ·rename_i x0 e1;cases hm;exact⟨e0,e1⟩
  ·cases hm
 ·cases hm
theorem wt{g:Gh}{w:World}{h len n B:Nat}{rows:List (List Tr)}{ln:List ((Nat×Nat)×(Nat×Nat))}{l:Loc}{v:Value}(g1:g h=.live l)(hb:fE g w l (g.F h) (.own n B rows ln))(hv:Rep g w v (.sl h len))(hl:len=rows.length)(h1:1<=len):
  ∃b cap cur e,∃Fs:Nat->Nat->Nat->Prop,l=.row b cap/\v=.slice (some ⟨b,0,none⟩) len cap/\w.heap[b]?=some (.cells cur e (0,0))/\rows.length<=cap/\cap<=9223372036854775807/\cur.size=cap*n /\
   (∀row∈rows,row.length=n)/\(∀i j c,Fs i j c->g.F h c/\c≠b)/\(∀i j i' j' c,Fs i j c->Fs i' j' c->i=i'/\j=j') /\
   (∀(i j:Nat)(row:List Tr)(t:Tr)(c:Value),rows[i]?=some row->row[j]?=some t->cur[i*n+j]?=some c->(lnk ln i j=none->fw w (Fs i j) c t)/\∀h len,lnk ln i j=some (h,len)->Rep g w c (.sl h len)):=by
 obtain⟨hB,hn,hx⟩:=hb;rcases hx with⟨_,hr⟩|⟨b,cap,cur,e,Fs,rfl,q1,q2,q3,q4,q5,q6,q7,q8⟩
 ·rw[hr] at hl;simp at hl;omega
 ·rcases hv.sl_inv g1 with⟨b',cap',e0,e1,e2⟩|⟨e0,_⟩
  ·cases e0;exact⟨b,cap,cur,e,Fs,rfl,e2,q1,q2,q3,q4,q5,q6,q7,q8⟩
  ·cases e0
theorem n6{g:Gh}{w:World}{b e n len cap:Nat}{rows:List (List Tr)}{ln:List ((Nat×Nat)×(Nat×Nat))}{cur:Array Value}{Fs:Nat->Nat->Nat->Prop}(hn:0<n)(h1:w.heap[b]?=some (.cells cur e (0,0)))(hcap:rows.length<=cap)(h4:cur.size=cap*n)(h5:∀row∈rows,row.length=n)
  (h8:∀(i j:Nat)(row:List Tr)(t:Tr)(c:Value),rows[i]?=some row->row[j]?=some t->cur[i*n+j]?=some c->(lnk ln i j=none->fw w (Fs i j) c t)/\∀h len,lnk ln i j=some (h,len)->Rep g w c (.sl h len)) (hl:len=rows.length) :
  ∃cl:List Value,cl.length=len*n/\(∀(j:Nat)(u:Value),cl[j]?=some u->w.cell? ⟨b,0+j,none⟩=some u)/\(∀u∈cl,u.oneCell'=true)/\∀j,j<len*n->cl[j]?=cur[j]? :=by
 have hle:len*n<=cap*n:=Eb _ JQ;refine⟨cur.toList.take (len*n),by simp;omega,fun j u hj=>?_,fun u hu=>?_,fun j hj=>by rw[Ba,Gw hj,Gx]⟩
 ·rw[E7,aD h1];rw[Ba] at hj;split at hj;·simpa using hj
  ·cases hj
 ·obtain⟨j,hj⟩:=Gv.1 hu;rw[Ba] at hj;split at hj
  ·rename_i hjl;have hd:j / n<rows.length:=by rw[<-hl];exact Ja (by rw[Jf];exact hjl)
   have hr:rows[j / n]?=some rows[j / n]:=by simp[hd]
   have hrl:=h5 _ (i3 hr);have hm:=Nat.mod_lt j hn;have ht:(rows[j / n])[j % n]?=some (rows[j / n])[j % n]:=by simp[hrl,hm]
   have hdm:j / n*n+j % n=j:=by have:=Nat.div_add_mod j n;rw[Jf] at this;exact this
   obtain⟨u1,u2⟩:=h8 (j / n) (j % n) _ _ u hr ht (by rw[hdm];simpa using hj);cases hlk:lnk ln (j / n) (j % n) with
   |none=>exact(u1 hlk).one
   |some p=>obtain⟨a,b⟩:=p;exact(u2 a b hlk).one rfl
  ·cases hj
theorem mB{n:Nat}(hn:0<n):∀ {rows:List (List Tr)},(∀r∈rows,r.length=n)->∀ {i:Nat} {t:Tr},rows.flatten[i]?=some t->∃i1 j1 row,rows[i1]?=some row/\row[j1]?=some t/\i=i1*n+j1
 |[],_,i,t,h=>by simp at h
 |r::rows,hr,i,t,h=>by
  have h0:=hr r JX;rw[Hw] at h;by_cases hi:i<n
  ·rw[v9 JQ] at h;exact⟨0,i,r,rfl,h,JQ⟩
  ·rw[wS JQ,h0] at h;obtain⟨i1,j1,row,h1,h2,h3⟩:=mB hn (fun r h'=>hr r (by simp[h'])) h;exact⟨i1+1,j1,row,by simpa using h1,h2,by rw[G4];omega⟩
theorem BY{g:Gh}{w:World}{m':Mem}(hm:MSt g w m'){h n B len:Nat}{rows:List (List Tr)}(hn:0<n)(em:m' h=some (.own n B rows []))(hlf:ll rows)(hl:len=rows.length){v:Value}(hv:Rep g w v (.sl h len)):
  (∀r∈rows,r.length=n)/\∃(ao:Option Addr)(c:Nat)(cl:List Value),v=.slice ao rows.length c/\cl.length=rows.length*n/\(∀(j:Nat)(u:Value),cl[j]?=some u->∃b o,ao=some ⟨b,o,none⟩/\w.cell? ⟨b,o+j,none⟩=some u) /\
   ∀(j:Nat)(t:Tr),rows.flatten[j]?=some t->∃u,cl[j]?=some u/\RepT (okB g w) w u t:=by
 subst hl;obtain⟨l,g1,hB,_,⟨rfl,hr⟩|⟨b,cap,cur,e,Fs,rfl,k1,k2,k3,k4,k5,k6,k7,k8⟩⟩:=hm.blk h _ em
 ·subst hr;rcases hv.sl_inv g1 with⟨b,cap,e0,_,_⟩|⟨_,_,rfl⟩
  ·cases e0
  ·exact⟨JX,none,0,[],rfl,JX,JX,JX⟩
 ·rcases hv.sl_inv g1 with⟨b',cap',e0,hle,rfl⟩|⟨e0,_,_⟩
  ·cases e0;have hsz:rows.length*n<=cur.size:=by rw[k4];exact Eb _ k2
   have hcl:(cur.toList.take (rows.length*n)).length=rows.length*n:=by
    have hs2:rows.length*n<=cur.toList.length:=by simpa using hsz
    simp only[DK];exact Hf hs2
   refine⟨k5,_,_,cur.toList.take (rows.length*n),rfl,hcl,fun j u hj=>⟨b,0,rfl,?_⟩,fun j t hj=>?_⟩
   ·rw[Ba] at hj;split at hj;·rw[aD k1,E7];simpa using hj
    ·cases hj
   ·have hjl:j<rows.length*n:=by
     have:=(a9.1 hj).1
     rwa [bC _ k5] at this
    obtain⟨i1,j1,row,h1,h2,rfl⟩:=mB hn k5 hj;obtain⟨c,hcur⟩:∃c,cur[i1*n+j1]?=some c:=⟨cur[i1*n+j1]' JQ,by simp[(JQ:i1*n+j1<cur.size)]⟩;obtain⟨u1,_⟩:=k8 i1 j1 row t c h1 h2 hcur;obtain⟨x,rfl⟩:=hlf row (i3 h1) t (i3 h2);refine⟨c,?_,?_⟩;·rw[Ba,Gw hjl,Gx];exact hcur
    ·cases u1 rfl with
     |v hg=>exact .v hg
  ·cases e0
theorem vo(hT:TOk P T){t:Nat}{x y:Operand}{ax ay:AV}(ho:o.op=.call { callee:=.builtin .append,args:=#[x,y],argTypes:=#[t,t] })(hx:ev x=some ax)(hy:ev y=some ay)(h:mn T m nh t ax ay K):LOk P o m nh ev K:=by
 have hrun:∀(ρ:Operand->Value)(w w':World)(v:Value),(Builtin.append_ #[t,t] o.type #[ρ x,ρ y]).run P w=.ok v w'->(execOp ρ o).run P w=.ok (.value v) w':=fun ρ w w' v e=>by simp[execOp,ho,resolve,invoke,builtin,e]
 unfold mn at h;split at h;case h_2=>exact zM hT ho hx hy h
 split at h;case h_2=>exact h.elim
 rename_i e a0 b0 z0 q0 e1;split at h;case h_2=>exact h.elim
 rename_i te h2 len2 e2 ey;split at h;case h_2=>exact h.elim
 rename_i b2 n2 B2 rows2 ln2 f2 e3;obtain⟨m2,o2⟩:=AP e3;cases hcond:(Nat.beq n2 te.size&&Nat.beq B2 te.bytes&&Nat.ble 1 te.size&&Nat.ble 1 te.bytes) with
 |false=>rw[hcond] at h;exact h.elim
 |true=>
 rw[hcond,r7] at h;simp only[t4] at hcond;obtain⟨⟨⟨c1,c2⟩,c3⟩,c4⟩:=hcond;have c1:=xx c1;have c2:=xx c2;subst c1;subst c2;have hs1:=oo c3;have hb1:=oo c4;split at h
 ·
  obtain⟨hl2,h12,hlf,hK⟩:=h;refine⟨_,_,_,hK,fun p hp=>?_,fun p hp=>?_,fun g w m' ρ hm hn hrd hev=>?_⟩;·simp at hp;subst hp;exact m2
  ·simp at hp;rcases hp with rfl|rfl
   ·exact .inl rfl
   ·exact .inr ⟨(h2,b2),JX,rfl⟩
  obtain⟨l2,g1,g2⟩:=hm.blk h2 _ (hrd (h2,b2) JX);have g2:=oS g2 o2 hlf;have hB2:=g2.1;obtain⟨b,cap,cur,e0,Fs,rfl,v1,q1,q2,q3,q4,q5,q6,q7,q8⟩:=wt g1 g2 (hev _ _ hy) hl2 h12;obtain⟨cl,r1,r2,r3,r4⟩:=n6 JQ q1 q2 q4 q5 q8 hl2;have hv0:ρ x=.slice none 0 0:=(al (hev _ _ hx)).1;have h63:len2*1<=len2*te.bytes:=H4 _ hb1;obtain⟨w',k',cap',cur',e',s1,s2,s3,s4,s5,s6,s7,rfl⟩:=ji (w:=w) (ty:=o.type) (c:=cap) hT e1 e2 hs1 r1 h12 r2 r3 (by rw[<-hl2] at hB2;omega) (by rw[<-hl2] at hB2;omega) (some b);rw[<-v1,<-hv0] at s1;have hnew:∀c,(Loc.row w.heap.size cap').b=some c->(Loc.row b cap).b=some c\/w.heap.size<=c:=fun c ec=>by cases ec;exact .inr (t9 _)
  have hG:=aM hm (l:=.row b cap) (l':=.row w.heap.size cap') (hd:=some h2) hn (fun h e=>by cases e;exact g1) s2 JX hnew;refine⟨_,w',.inl ⟨_,hrun ρ w w' _ s1,.sl (b:=w.heap.size) (cap:=cap') (bK ..) s4⟩,aY (l:=.row b cap) (l':=.row w.heap.size cap') (hd:=some h2) hm hn (fun h e=>by cases e;exact g1) s2 JX hnew (fun c ec=>by cases ec;exact(GI.1 s3).1) ?_,hG,fun k k1 k2=>?_⟩
  ·refine⟨hB2,JQ,.inr ⟨w.heap.size,cap',cur',e',Fs,rfl,s3,JQ,s5,s6,q5,fun i j c hc=>⟨.inl ⟨rfl,h2,rfl,(q6 i j c hc).1⟩,fun ec=>?_⟩,q7,fun i j row t c p1 p2 p3=>?_⟩⟩;·have:=hm.lt h2 c ⟨_,g1,.inr (q6 i j c hc).1⟩;omega
   ·have hrl:=q5 row (i3 p1);have hil:=(a9.1 p1).1;have hjl:=(a9.1 p2).1;have hlt:i*te.size+j<len2*te.size:=by
     have:(i+1)*te.size<=len2*te.size:=Eb _ JQ;rw[G4] at this;omega
    have hcl:cl[i*te.size+j]?=some (cl[i*te.size+j]'(by rw[r1];exact hlt)):=by simp[r1,hlt]
    have:=s7 _ _ hcl;rw[p3] at this;have hcc:cur[i*te.size+j]?=some c:=by rw[<-r4 _ hlt,hcl,this]
    obtain⟨u1,u2⟩:=q8 i j row t c p1 p2 hcc;exact⟨fun hk=>(u1 hk).world fun b' hb'=>s2.block b' (hm.lt h2 b' ⟨_,g1,.inr (q6 i j b' hb').1⟩) fun ee=>(q6 i j b' hb').2 (by cases ee;rfl),fun h' len' hk=>(u2 h' len' hk).grow hG⟩
  ·have:h2≠k:=fun e=>by rw[e] at g1;rw[k2] at g1;cases g1
   rw[b7 k1 (by simp[this]),k2]
 ·
  rename_i hh len;split at h;case h_2=>exact h.elim
  rename_i b n B rows ln f e4;obtain⟨m1,o1⟩:=AP e4;cases hfl:(f && !f2&&ln2.isEmpty) with
  |true=>
   rw[hfl,r7] at h;obtain⟨hlf,hl2,h⟩:=h;simp only[t4,Ha] at hfl;obtain⟨⟨_,hf2⟩,hln⟩:=hfl;have hln:=List.isEmpty_iff.1 hln;subst hln;have hb2:b2=.own te.size te.bytes rows2 []:=by cases b2<;>first|(cases o2;first|rfl|cases hf2)|cases o2
   subst hb2;exact AM hT ho hx hy e1 e2 hs1 hb1 (by simpa using m2) (fun g w m' v hm hrd hv=>BY hm JQ (hrd (h2,.own te.size te.bytes rows2 []) JX) hlf hl2 hv) h
  |false=>
  rw[hfl,lh] at h;cases hcond:(Nat.beq n te.size&&Nat.beq B te.bytes && !Nat.beq hh h2) with
  |false=>rw[hcond] at h;exact h.elim
  |true=>
  rw[hcond,r7] at h;simp only[t4,Ha] at hcond;obtain⟨⟨c1,c2⟩,hne⟩:=hcond;have c1:=xx c1;have c2:=xx c2;have hne:hh≠h2:=GG hne;subst c1;subst c2;obtain⟨hl,hl2,h12,hB,hlf,hlf2,hlt,hK⟩:=h;refine⟨_,_,_,hK,fun p hp=>?_,fun p hp=>?_,fun g w m' ρ hm hn hrd hev=>?_⟩
  ·simp at hp;rcases hp with rfl|rfl
   ·exact m1
   ·exact m2
  ·simp at hp;rcases hp with rfl|rfl|rfl
   ·exact .inl rfl
   ·exact .inr ⟨(hh,b),JX,rfl⟩
   ·exact .inr ⟨(h2,b2),JX,rfl⟩
  obtain⟨l2,g3,g4⟩:=hm.blk h2 _ (hrd (h2,b2) JX);have g4:=oS g4 o2 hlf2;obtain⟨l1,g1,g2⟩:=hm.blk hh _ (hrd (hh,b) JX);have g2:=oS g2 o1 hlf;obtain⟨kb2,cap2,cur2,e02,Fs2,rfl,v2,q1,q2,q3,q4,q5,q6,q7,q8⟩:=wt g3 g4 (hev _ _ hy) hl2 h12;obtain⟨cl,r1,r2,r3,r4⟩:=n6 JQ q1 q2 q4 q5 q8 hl2;have hsm:(len+len2)*1<=(len+len2)*te.bytes:=H4 _ hb1;obtain⟨w',k',cap',cur',e',Fs1,s1,s2,s3,s4,s5,s6,s7,hk',hr1,hF1,hI1,hC1⟩:∃w' k' cap' cur' e',∃Fs1:Nat->Nat->Nat->Prop,(Builtin.append_ #[t,t] o.type #[ρ x,ρ y]).run P w=.ok (.slice (some ⟨k',0,none⟩) (len+len2) cap') w'/\w.grownBy w' l1.b /\
    w'.heap[k']?=some (.cells cur' e' (0,0))/\len+len2<=cap'/\cap'<=9223372036854775807/\cur'.size=cap'*te.size/\(∀(j:Nat)(u:Value),cl[j]?=some u->cur'[len*te.size+j]?=some u)/\(l1.b=some k'\/k'=w.heap.size) /\
    (∀row∈rows,row.length=te.size)/\(∀i j c,Fs1 i j c->g.F hh c/\l1.b≠some c)/\(∀i j i' j' c,Fs1 i j c->Fs1 i' j' c->i=i'/\j=j') /\
    ∀(i j:Nat)(row:List Tr)(t:Tr)(c:Value),rows[i]?=some row->row[j]?=some t->cur'[i*te.size+j]?=some c->(lnk ln i j=none->fw w (Fs1 i j) c t)/\∀h len,lnk ln i j=some (h,len)->Rep g w c (.sl h len):=by
   obtain⟨_,_,⟨rfl,hr0⟩|⟨k,cap,cur,e0,Fs,rfl,p1,p2,p3,p4,p5,p6,p7,p8⟩⟩:=g2
   ·subst hr0;have hl0:len=0:=by simpa using hl
    subst hl0;rcases(hev _ _ hx).sl_inv g1 with⟨_,_,e0,_⟩|⟨_,_,ev0⟩
    ·cases e0
    obtain⟨w',k',cap',cur',e',s1,s2,s3,s4,s5,s6,s7,s8⟩:=ji (w:=w) (ty:=o.type) (c:=cap2) hT e1 e2 hs1 r1 h12 r2 r3 JQ (by rw[E7] at hB;omega) none;refine⟨w',k',cap',cur',e',fun _ _ _=>False,by rw[v2,ev0,E7];exact s1,s2,s3,JQ,s5,s6,fun j u hj=>by rw[JB,E7];exact s7 j u hj,.inr s8,JX,fun _ _ _ h=>h.elim,fun _ _ _ _ _ h=>h.elim,fun i j row t c h=>by simp at h⟩
   ·rcases(hev _ _ hx).sl_inv g1 with⟨_,_,e0,hlc,ev0⟩|⟨e0,_⟩
    ·cases e0;obtain⟨w',k',cap',cur',e',s1,s2,s3,s4,s5,s6,s7,s8,s9⟩:=sm (w:=w) (ty:=o.type) (c:=cap2) hT e1 e2 hs1 p1 hlc p3 p4 r1 r2 r3 JQ JQ;refine⟨w',k',cap',cur',e',Fs,by rw[v2,ev0];exact s1,s2,s3,s4,s5,s6,s8,s9.elim (fun q=>.inl (by rw[q];rfl)) .inr,p5,fun i j c hc=>⟨(p6 i j c hc).1,fun q=>(p6 i j c hc).2 (by cases q;rfl)⟩,p7,fun i j row t c w1 w2 w3=>?_⟩;have hrl:=p5 row (i3 w1);have hil:=(a9.1 w1).1;have hjl:=(a9.1 w2).1;have hlt:i*te.size+j<len*te.size:=by
      have:(i+1)*te.size<=len*te.size:=Eb _ JQ;rw[G4] at this;omega
     exact p8 i j row t c w1 w2 (by rw[<-s7 _ hlt];exact w3)
    ·cases e0
  have hn2:nh≠h2:=fun e=>by rw[<-e,hn] at g3;cases g3
  have hnh:nh≠hh:=fun e=>by rw[<-e,hn] at g1;cases g1
  have hm1:=sY hm g1 g3 hne;have hG1:=jj (w:=w) (h:=hh) g3;have hn1:(gpack g hh h2) nh=.un:=by rw[cU hn2,hn]
  have gl1:(gpack g hh h2) hh=.live l1:=by rw[cU hne,g1]
  have hnew:∀c,(Loc.row k' cap').b=some c->l1.b=some c\/w.heap.size<=c:=fun c ec=>by
   cases ec;rcases hk' with hk'|hk'
   ·exact .inl hk'
   ·exact .inr JQ
  have hG2:=aM hm1 (l:=l1) (l':=.row k' cap') (hd:=some hh) hn1 (fun h e=>by cases e;exact gl1) s2 JX hnew;have hup:bL m' [(nh,some (.own te.size te.bytes (rows++rows2) (eD len ln2++ln))),(hh,none),(h2,none)]=bL (bL m' [(h2,none)]) [(nh,some (.own te.size te.bytes (rows++rows2) (eD len ln2++ln))),(hh,none)]:=by funext k;simp only[bL,lk];cases Nat.beq nh k<;>cases Nat.beq hh k<;>rfl
  have hlr:rows.length<=len:=JQ;refine⟨_,w',.inl ⟨_,hrun ρ w w' _ s1,.sl (b:=k') (cap:=cap') (bK ..) s4⟩,?_,hG1.trans hG2,fun k k1 k2=>?_⟩
  ·rw[hup];refine aY (l:=l1) (l':=.row k' cap') (hd:=some hh) hm1 hn1 (fun h e=>by cases e;exact gl1) s2 JX hnew (fun c ec=>by cases ec;exact(GI.1 s3).1) ?_;have apart:∀ {c},cd g hh c->cd g h2 c->False:=fun{c} a1 a2=>hne (hm.inj hh h2 c a1 a2);have hO1:∀ {i j c},Fs1 i j c->cd g hh c:=fun{i j c} hc=>⟨_,g1,.inr (hF1 i j c hc).1⟩;have hO2:∀ {i j c},Fs2 i j c->cd g h2 c:=fun{i j c} hc=>⟨_,g3,.inr (q6 i j c hc).1⟩;have hkn:∀ {c h},cd g h c->c=k'->l1.b=some c:=fun{c h} ho ec=>by
    rcases hk' with hk'|hk'
    ·rw[ec];exact hk'
    ·have:=hm.lt h c ho;omega
   have hblk:∀ {c h},cd g h c->l1.b≠some c->w'.heap[c]?=w.heap[c]? :=fun{c h} ho hc=>s2.block c (hm.lt h c ho) fun ee=>hc ee.symm;refine⟨by rw[uR,<-hl,<-hl2];exact hB,JQ,.inr ⟨k',cap',cur',e',fun i j c=>if i<len then Fs1 i j c else Fs2 (i-len) j c,rfl,s3,by rw[uR];omega,s5,s6,fun row hr=>?_,fun i j c hc=>?_,fun i j i' j' c a1 a2=>?_,fun i j row t c w1 w2 w3=>?_⟩⟩
   ·rw[FK] at hr;rcases hr with hr|hr
    ·exact hr1 row hr
    ·exact q5 row hr
   ·by_cases d1:i<len<;>simp only[Gw,GN,d1,Jt] at hc;·exact⟨.inl ⟨rfl,hh,rfl,.inl (hF1 i j c hc).1⟩,fun ec=>(hF1 i j c hc).2 (hkn (hO1 hc) ec)⟩
    ·refine⟨.inl ⟨rfl,hh,rfl,.inr ⟨rfl,hO2 hc⟩⟩,fun ec=>?_⟩;exact apart ⟨_,g1,.inl (hkn (hO2 hc) ec)⟩ (hO2 hc)
   ·by_cases d1:i<len<;>by_cases d2:i'<len;·simp only[Gw d1] at a1;simp only[Gw d2] at a2;exact hI1 i j i' j' c a1 a2
    ·simp only[Gw d1] at a1;simp only[GN d2] at a2;exact(apart (hO1 a1) (hO2 a2)).elim
    ·simp only[GN d1] at a1;simp only[Gw d2] at a2;exact(apart (hO1 a2) (hO2 a1)).elim
    ·simp only[GN d1] at a1;simp only[GN d2] at a2;have:=q7 _ _ _ _ c a1 a2;omega
   ·rw[fo];by_cases d1:i<len
    ·rw[v9 JQ] at w1;rw[(jH len ln2 i j).1 d1];simp only[Gw d1];obtain⟨u1,u2⟩:=hC1 i j row t c w1 w2 w3;exact⟨fun hk=>(u1 hk).world fun b' hb'=>hblk (hO1 hb') (hF1 i j b' hb').2,fun h' len' hk=>(u2 h' len' hk).grow (hG1.trans hG2)⟩
    ·obtain⟨i2,rfl⟩:∃i2,i=len+i2:=⟨i-len,JQ⟩;rw[wS JQ,<-hl,Hy] at w1;rw[(jH len ln2 i2 j).2,AY hlt (len+i2) j JQ];simp only[GN d1,Hy];have hrl:=q5 row (i3 w1);have hil:=(a9.1 w1).1;have hjl:=(a9.1 w2).1;have hlt2:i2*te.size+j<len2*te.size:=by
      have:(i2+1)*te.size<=len2*te.size:=Eb _ JQ;rw[G4] at this;omega
     have hcl:cl[i2*te.size+j]?=some (cl[i2*te.size+j]'(by rw[r1];exact hlt2)):=by simp[r1,hlt2]
     have:=s7 _ _ hcl;rw[<-Hn,<-Id,w3] at this;have hcc:cur2[i2*te.size+j]?=some c:=by rw[<-r4 _ hlt2,hcl,this]
     obtain⟨u1,u2⟩:=q8 i2 j row t c w1 w2 hcc;refine⟨fun hk=>?_,fun h' len' hk=>?_⟩
     ·refine(u1 ?_).world fun b' hb'=>hblk (hO2 hb') fun ee=>apart ⟨_,g1,.inl ee⟩ (hO2 hb');cases hz:lnk ln2 i2 j with
      |none=>rfl
      |some p=>rw[hz] at hk;cases hk
     ·refine(u2 h' len' ?_).grow (hG1.trans hG2);cases hz:lnk ln2 i2 j with
      |none=>rw[hz] at hk;cases hk
      |some p=>rw[hz] at hk;exact hk
  ·have:hh≠k:=fun e=>by rw[e] at g1;rw[k2] at g1;cases g1
   have h2k:h2≠k:=fun e=>by rw[e] at g3;rw[k2] at g3;cases g3
   rw[b7 k1 (by simp[this]),cU (fun e=>h2k e.symm),k2]
 ·exact h.elim
theorem uN(hT:TOk P T){t:Nat}{x y:Operand}{ax ay:AV}(ho:o.op=.call { callee:=.builtin .append,args:=#[x,y],argTypes:=#[t,t] })(hx:ev x=some ax)(hy:ev y=some ay)(h:qz T m nh t ax ay K):LOk P o m nh ev K:=vo hT ho hx hy h
end
section
variable {P:Program} {T:Ty} {o:Oper} {m:Mem} {nh:Nat} {ev:Operand->Option AV} {K:KK}
theorem l_appendS(hT:TOk P T){t u:Nat}{x y:Operand}{ax:AV}{s:ByteArray}(ho:o.op=.call { callee:=.builtin .append,args:=#[x,y],argTypes:=#[t,u] })(hx:ev x=some ax)(hy:ev y=some (.tr (.v (.string s))))(h:rK T m nh t u ax s K):LOk P o m nh ev K:=(show False from h).elim
end
section
variable {P:Program} {T:Ty} {o:Oper} {m:Mem} {nh:Nat} {ev:Operand->Option AV} {K:KK}
theorem l_copy(hT:TOk P T){t t':Nat}{x y:Operand}{ax ay:AV}(ho:o.op=.call { callee:=.builtin .copy,args:=#[x,y],argTypes:=#[t,t'] })(hx:ev x=some ax)(hy:ev y=some ay)(h:DW T m t ax ay K):LOk P o m nh ev K:=(show False from h).elim
end
section
variable {P:Program} {T:Ty} {o:Oper} {m:Mem} {nh:Nat} {ev:Operand->Option AV} {K:KK}
theorem l_min{x y:Operand}{t:Array TypeId}{k:IntKind}{a b:Int}(ho:o.op=.call { callee:=.builtin .min,args:=#[x,y],argTypes:=t })(hx:ev x=some (.tr (.v (.int k a))))(hy:ev y=some (.tr (.v (.int k b))))(hK:K (.tr (.v (.int k (min a b)))) [] []):LOk P o m nh ev K:=by
 refine LOk.pure _ _ hK JX fun g w m' ρ hm hrd hev=>?_;obtain⟨e1,g1⟩:=al (hev _ _ hx);obtain⟨e2,g2⟩:=al (hev _ _ hy);have hmin:min a b=if b<a then b else a:=by rw[Int.min_def];split<;>split<;>omega
 refine⟨.int k (min a b),?_,.tr (.v ?_)⟩
 ·rw[hmin];simp[execOp,ho,resolve,invoke,builtin,Builtin.min_,Builtin.min2,e1,e2]
 ·rw[hmin];split;·exact g2
  ·exact g1
theorem l_max{x y:Operand}{t:Array TypeId}{k:IntKind}{a b:Int}(ho:o.op=.call { callee:=.builtin .max,args:=#[x,y],argTypes:=t })(hx:ev x=some (.tr (.v (.int k a))))(hy:ev y=some (.tr (.v (.int k b))))(hK:K (.tr (.v (.int k (max a b)))) [] []):LOk P o m nh ev K:=by
 refine LOk.pure _ _ hK JX fun g w m' ρ hm hrd hev=>?_;obtain⟨e1,g1⟩:=al (hev _ _ hx);obtain⟨e2,g2⟩:=al (hev _ _ hy);have hmax:max a b=if b > a then b else a:=by rw[Int.max_def];split<;>split<;>omega
 refine⟨.int k (max a b),?_,.tr (.v ?_)⟩
 ·rw[hmax];simp[execOp,ho,resolve,invoke,builtin,Builtin.max_,Builtin.max2,e1,e2]
 ·rw[hmax];split;·exact g2
  ·exact g1
theorem l_capN(hT:TOk P T){x:Operand}{t e a b:Nat}{z:List Z}{q:Bool}(ho:o.op=.call { callee:=.builtin .cap,args:=#[x],argTypes:=#[t] })(hx:ev x=some (.tr (.v (.slice none 0 0))))(ht:lk T t=some ⟨.slice e,a,b,z,q⟩)(hK:K (.tr (.v (.int .i64 0))) [] []):LOk P o m nh ev K:=by refine LOk.pure _ _ hK JX fun g w m' ρ hm hrd hev=>?_;obtain⟨e2,g2⟩:=al (hev _ _ hx);obtain⟨u,u1,u2,u3⟩:=aI hT ht w;obtain rfl:=aR u2;refine⟨.int .i64 0,?_,.tr (.v (good_of rfl))⟩;simp[execOp,ho,resolve,invoke,builtin,Builtin.cap_,u1,e2,goInt]
theorem l_appendZ(hT:TOk P T){t t':Nat}{x y:Operand}{k:IntKind}{z:Int}(ho:o.op=.call { callee:=.builtin .append,args:=#[x,y],argTypes:=#[t,t'] })(hx:ev x=some (.tr (.v (.slice none 0 0))))(hy:ev y=some (.tr (.v (.int k z))))(h:rp T nh t t' z K):LOk P o m nh ev K:=(show False from h).elim
theorem Cu{g:Gh}{w:World}{h b:Nat}{v:Value}(g1:g h=.live (.blk b))(hr:Rep g w v (.mp h)):v=.map (some b):=by
 cases hr with
 |mpD e=>rw[g1] at e;cases e
 |mp e=>rw[g1] at e;cases e;rfl
theorem l_range(hT:TOk P T){t:Nat}{x:Operand}{h k e a b:Nat}{z:List Z}{q:Bool}{kd:D}{es:List (MK×Tr)}(ho:o.op=.range t x)(hx:ev x=some (.mp h))(ht:lk T t=some ⟨.map k e,a,b,z,q⟩)(hm0:m h=some (.map kd es))(hK:K (.ptr nh 0) [(h,.map kd es)] [(nh,some (.itr h es.length []))]):LOk P o m nh ev K:=by
 refine⟨_,_,_,hK,by simpa using hm0,JX,fun g w m' ρ hm hn hrd hev=>?_⟩;obtain⟨lc,g1,bb,ents,clock,rfl,b1,b2,b3,b4⟩:=hm.blk h _ (hrd (h,.map kd es) JX);have hv:ρ x=.map (some bb):=Cu g1 (hev _ _ hx);obtain⟨u,u1,u2,u3⟩:=aI hT ht w;obtain rfl:=C6 u2;have hc:clock=es.length:=b2.2.1.trans b2.1;have hloc:∀b,Loc.b (.blk w.heap.size)=some b->b=w.heap.size:=fun b e=>by cases e;rfl
 refine kC.new hm hn (.mapIter (some bb) clock #[] clock) (.blk w.heap.size) hloc _ (.pointer (some ⟨w.heap.size,0,none⟩)) ?_ (fun _=>⟨_,bb,rfl,?_,?_⟩) (.ptr (be ..))
 ·have hgo:(getObj bb).run P w=.ok (.map ents clock) w:=by simp[getObj,Sem.run,b1]
  simp[execOp,ho,hv,Instr.range,u1,hgo]
 ·rw[Hq w _,hc]
 ·have:=(hev _ _ hx).grow (bS (w:=w) hm.xlt hn (.mapIter (some bb) clock #[] clock) hloc);rw[hv] at this;exact this
theorem tz{ents:Array MapEntry}(h:∀(i:Nat)(en:MapEntry),ents[i]?=some en->en.born=i):(ents.toList.map (·.born)).Nodup:=by
 have:ents.toList.map (·.born)=List.range ents.size:=by
  refine GT fun i=>?_;rw[z5,Gx];by_cases hi:i<ents.size
  ·rw[GZ hi];cases he:ents[i]? with
   |none=>simp at he;omega
   |some en=>rw[G5,h i en he]
  ·rw[yB (by simpa using hi)];simp;omega
 rw[this];exact Jz
theorem BG{x:Operand}{hi h n:Nat}{seen s:List Nat}{i:Nat}{kd:D}{es:List (MK×Tr)}{k:MK}{t:Tr}(ho:o.op=.entry x)(hx:ev x=some (.ptr hi 0))(hm1:m hi=some (.itr h n seen))(hm0:m h=some (.map kd es))(hn0:n=es.length)(hs:seen=s++[i])(he:es[i]?=some (k,t))(hgd:oy k.val)
  (hK:K (.tup [.tr (.v k.val),.tr t]) [(hi,.itr h n seen),(h,.map kd es)] []):LOk P o m nh ev K:=by
 refine LOk.pure _ _ hK (fun p hp=>?_) fun g w m' ρ hm hrd hev=>?_
 ·simp only[F5,Hr,Is] at hp;rcases hp with rfl|rfl
  ·exact hm1
  ·exact hm0
 obtain⟨l1,q1,r,b,rfl,c1,c2⟩:=hm.blk hi _ (hrd (hi,.itr h n seen) JX);obtain⟨lc,g1,bb,ents,clock,rfl,b1,b2,b3,b4⟩:=hm.blk h _ (hrd (h,.map kd es) JX);obtain rfl:b=bb:=by have:=Cu g1 c2;cases this;rfl
 have hv:ρ x=.pointer (some ⟨r,0,none⟩):=(hev _ _ hx).ptr_inv q1;obtain⟨en,d1,d2,d3⟩:=b4 i k t he;have hb:=b2.2.2 i en d1;have hc:clock=n:=by rw[hn0];exact b2.2.1.trans b2.1
 have hrun:=run_entry_at (P:=P) w r b n s.toArray ents clock en (by rw[c1,hs,hb,hc];simp) b1 (by rw[Iu];exact JD d1) (tz b2.2.2);refine⟨.tuple #[en.key,en.val],?_,.tup rfl fun j c a e1 e2=>?_⟩;·simp[execOp,ho,hv,hrun]
 ·match j,e2 with
  |0,e2=>cases e2;cases e1;rw[d2];exact .tr (.v hgd)
  |1,e2=>cases e2;cases e1;exact .tr d3
theorem l_lstNil(hT:TOk P T){op:BinOp}{t q e n B:Nat}{x y:Operand}{rows:List (List Tr)}{v:Bool}(ho:o.op=.binOp op t x y q)(hx:ev x=some (.tr (.lst n B rows)))(hy:ev y=some (.tr (.v (.slice none 0 0))))(hd:dOf T t=some (.slice e))(hlt:0<rows.length)
  (h:(op=.eql/\v=false)\/(op=.neq/\v=true)) (hK:K (.tr (.v (.bool v))) [] []):LOk P o m nh ev K:=by
 refine LOk.pure _ _ hK JX fun g w m' ρ hm hrd hev=>?_;obtain⟨ao,cap,f,hv,q1,q2,q3,q4,q5,q6⟩:=eu (hev _ _ hx).tr_inv;obtain⟨hw,_⟩:=al (hev _ _ hy);obtain⟨u,u1,u2⟩:=bu hT hd;obtain rfl:=aR u2;obtain⟨_,b,of,e1,_⟩:=q5 0 rows[0] (by simp[hlt]);subst e1;have heq:(Op.equal t (.slice (some ⟨b,of,none⟩) rows.length cap) (.slice none 0 0)).run P w=.ok false w:=by show(Op.equalIn (9999+1) t _ _).run P w=_;generalize 9999=k;simp[Op.equalIn,GP u1]
 refine⟨.bool v,?_,.tr (.v trivial)⟩;rcases h with⟨rfl,rfl⟩|⟨rfl,rfl⟩
 ·simp[execOp,ho,hv,hw,eqGuard,binOp,heq]
 ·simp[execOp,ho,hv,hw,eqGuard,binOp,heq]
end
section
variable {P:Program} {T:Ty} {o:Oper} {m:Mem} {nh:Nat} {ev:Operand->Option AV} {K:KK}
theorem Dz{g:Gh}{w:World}{v:Value}{z:Nat}{a:AV}(h:Rep g w v (.ifc (4*HMod) (.fn z [a]))):∃b o u,v=.pointer (some ⟨b,o,none⟩)/\w.cell? ⟨b,o,none⟩=some u/\Rep g w u a:=by
 generalize ht:(4*HMod:Nat)=t at h;generalize ha:(AV.fn z [a])=q at h;cases h with
 |ifc h1 _=>omega
 |bnd h1 _=>omega
 |psl hp=>
  rename_i len b;subst ha;generalize hpv:Value.pointer (some ⟨b,0,none⟩)=pv at hp;cases hp with
  |fn=>cases hpv
 |frz h1 h2 h3=>
  cases ha;exact⟨_,_,_,rfl,h2,h3⟩
 |win _ _=>cases ha
theorem l_loadF(hT:TOk P T){ty:TypeId}{x:Operand}{a:AV}(ho:o.op=.load ty x)(hx:ev x=some a)(h:ue T m nh ty K a):LOk P o m nh ev K:=by
 have hrun:∀(ρ:Operand->Value)(w:World)(v u:Value),ρ x=u->(Instr.loadAt ty u).run P w=.ok v w->(execOp ρ o).run P w=.ok (.value v) w:=fun ρ w v u hu e=>by subst hu;simp[execOp,ho,e]
 unfold ue at h;split at h
 ·rename_i hd n i off;split at h;case h_2=>exact vQ hT ho hx h
  rename_i e B h2 l em;split at h;case h_2=>exact h.elim
  rename_i ti e1;cases hag:ti.d.agg with
  |true=>rw[hag] at h;exact h.elim
  |false=>
  rw[hag,lh] at h;obtain⟨rfl,rfl,hlt,hK⟩:=h;obtain⟨p,hp⟩:∃p,l[i]?=some p:=⟨_,ab hlt⟩;refine LOk.pure _ _ (hK p hp) (by simpa using em) fun g w m' ρ hm hrd hev=>?_;obtain⟨lc,g1,g2⟩:=hm.blk hd _ (hrd (hd,.fns e B h2 l) JX);obtain⟨_,⟨_,rfl⟩|⟨b,cap,cur,rfl,k1,k2,k3,k4,k5⟩⟩:=g2;·simp at hlt
  obtain⟨c,c1,c2⟩:=k5 i p hp;obtain⟨k,cap',e3,e4⟩:=(hev _ _ hx).vpt_inv g1;cases e3;refine⟨c,hrun ρ w _ _ e4 (de hT e1 hag ?_),c2⟩;rw[aD k1,(JQ:i*1+0=i)];exact c1
 ·rename_i t z b;split at h;case h_2=>exact h.elim
  rename_i ti e1;cases hc:(!ti.d.agg&&Nat.beq t (4*HMod)) with
  |false=>rw[hc] at h;exact h.elim
  |true=>
  rw[hc,r7] at h;simp only[t4,Ha] at hc;obtain⟨hag,ht⟩:=hc;obtain rfl:=xx ht;refine LOk.pure _ _ h JX fun g w m' ρ hm hrd hev=>?_;obtain⟨b',o',u,e2,e3,e4⟩:=Dz (hev _ _ hx);exact⟨u,hrun ρ w _ _ e2 (de hT e1 hag e3),e4⟩
 ·exact vQ hT ho hx h
theorem oa(hT:TOk P T){ty:Nat}{x i:Operand}{a:AV}{k:IntKind}{z:Int}(ho:o.op=.indexAddr ty x i)(hx:ev x=some a)(hi:ev i=some (.tr (.v (.int k z))))(h:fW T m ty z K a):LOk P o m nh ev K:=by
 unfold fW at h;split at h;case h_2=>exact io hT ho hx hi h
 rename_i hd len;split at h;case h_2=>exact io hT ho hx hi h
 rename_i e' B h2 l em;split at h;case h_2=>exact h.elim
 rename_i e s1 s2 s3 s4 e1;split at h;case h_2=>exact h.elim
 rename_i te e2;obtain⟨hn,h0,h1,h⟩:=h;refine LOk.pure _ _ h (by simpa using em) fun g w m' ρ hm hrd hev=>?_;obtain⟨u,u1,u2,_⟩:=aI hT e1 w;obtain rfl:=aR u2;obtain⟨hz,_⟩:=db (hev _ _ hi);obtain⟨lc,g1,g2⟩:=hm.blk hd _ (hrd (hd,.fns e' B h2 l) JX);rcases(hev _ _ hx).sl_inv g1 with⟨b,cap,rfl,hle,hv⟩|⟨rfl,rfl,hv⟩
 ·refine⟨.pointer (some ⟨b,z.toNat*1+0,none⟩),?_,.vpt g1⟩;simp[execOp,ho,hv,hz,Instr.indexAt,asIntOf,u1,h0,h1,aW hT e2,hn,cG]
 ·omega
theorem zQ{a:AV}{h f:Nat}{cs:List Tr}(e:Fq a=some (h,f,cs)):a=fnAV h (f,cs):=by
 unfold Fq at e;split at e;case h_2=>cases e
 rename_i f' t z h' o' cs';cases hc:(Nat.beq t (4*HMod)&&Nat.beq z 0&&Nat.beq o' 0) with
 |false=>rw[hc] at e;cases e
 |true=>
  rw[hc] at e;cases e;simp only[t4] at hc;rw[xx hc.1.1,xx hc.1.2,xx hc.2];rfl
theorem Ew{g:Gh}{w:World}{v:Value}{h:Nat}{p:Nat×List Tr}(hr:Rep g w v (fnAV h p)):v.cells = #[v]:=by
 unfold fnAV at hr;cases hr with
 |fn=>rfl
theorem mj(hT:TOk P T){t e len:Nat}{te:TyI}{ps:Array (Nat×Operand)}{a b:Nat}{z:List Z}{q:Bool}{h f:Nat}{cs:List Tr}(ho:o.op=.buildSlice t len ps)(ht:lk T t=some ⟨.slice e,a,b,z,q⟩)(he:lk T e=some te)
  (hr:qg (parts ev ps)=some (h,f,cs)) (hl:len=1) (h1:te.size=1) (h3:te.bytes<=140737488351232) (hK:K (.sl nh 1) [] [(nh,some (.fns e te.bytes h [(f,cs)]))]):LOk P o m nh ev K:=by
 subst hl;obtain⟨x,hps,hx⟩:∃x,ps = #[(0,x)]/\ev x=some (fnAV h (f,cs)):=by
  unfold qg at hr;split at hr;case h_2=>cases hr
  rename_i i a hp;cases hi:Nat.beq i 0 with
  |false=>rw[hi] at hr;cases hr
  |true=>
  rw[hi,r7] at hr;obtain rfl:=xx hi;unfold parts at hp;obtain⟨l⟩:=ps
  match l,hp with
  |[(j,x)],hp=>
   simp only[GO,Kg,Jd,Il,Ka] at hp;obtain⟨rfl,hp⟩:=hp;exact⟨x,rfl,by rw[hp,zQ hr]⟩
  |[],hp=>cases hp
  |_::_::_,hp=>simp at hp
 subst hps;refine⟨_,_,_,hK,JX,JX,fun g w m' ρ hm hn hrd hev=>?_⟩;obtain⟨ti,u,zt,_,u2,u3,_⟩:=hT.info ht;obtain rfl:=aR u3;obtain⟨ti',u',z',i1,_,_,i4,_,i6,i7,i8⟩:=hT.info he;have hrx:=hev _ _ hx;have q3:∀v∈[ρ x],v.cells = #[v]:=fun v hv=>by simp only[xB] at hv;rw[hv];exact Ew hrx
 have hz:=(bd i7).1;have hfl:=Great.fill_whole (s:=te.size) JQ [ρ x] ((Array.range (1*te.size)).map (z'.cells[· % z'.cells.size]!)) (fun v hv=>by rw[q3 v hv,h1];rfl) JX;have hrun:=run_buildSlice (P:=P) w t e 1 #[(0,ρ x)] _ ti' z' u2 i1 i6 (by rw[i4,h1];omega) (by rw[i4,h1];omega) (by rw[i4];exact hfl);rw[lm _ q3] at hrun;have hloc:∀b,Loc.b (.row w.heap.size 1)=some b->b=w.heap.size:=fun b e=>by cases e;rfl
 have hg:=bS (w:=w) hm.xlt hn (.cells [ρ x].toArray e) hloc;refine kC.new hm hn (.cells [ρ x].toArray e) (.row w.heap.size 1) hloc _ (.slice (some ⟨w.heap.size,0,none⟩) 1 1) ?_ (fun _=>⟨by simp;omega,.inr ⟨_,_,_,rfl,Hq w _,t9 _,JS,rfl,fun i p hi=>?_⟩⟩) (.sl (be ..) (t9 _))
 ·simp only[execOp,ho,E9];rw[(JX:Array.map (fun x=>(x.fst,ρ x.snd)) #[(0,x)] = #[(0,ρ x)]),hrun,De];rfl
 ·match i,hi with
  |0,hi=>
   cases hi;exact⟨ρ x,rfl,hrx.grow hg⟩
theorem mS{a:AV}{h len e B k:Nat}{l:List (Nat×List Tr)}(q:An m a=some (h,len,e,B,k,l)):a=.sl h len/\m h=some (.fns e B k l):=by
 unfold An at q;split at q
 ·split at q;·rename_i em;cases q;exact⟨rfl,em⟩
  ·cases q
 ·cases q
theorem l_appendG(hT:TOk P T){t:Nat}{x y:Operand}{ax ay:AV}(ho:o.op=.call { callee:=.builtin .append,args:=#[x,y],argTypes:=#[t,t] })(hx:ev x=some ax)(hy:ev y=some ay)(h:lE T m nh t ax ay K):LOk P o m nh ev K:=by
 have hrun:∀(ρ:Operand->Value)(w w':World)(v:Value),(Builtin.append_ #[t,t] o.type #[ρ x,ρ y]).run P w=.ok v w'->(execOp ρ o).run P w=.ok (.value v) w':=fun ρ w w' v e=>by simp[execOp,ho,resolve,invoke,builtin,e]
 unfold lE at h;split at h;case h_2=>exact uN hT ho hx hy h
 rename_i hd len e1 B1 k1 l1 hd' len' e2 B2 k2 l2 f1 f2;obtain⟨rfl,em1⟩:=mS f1;obtain⟨rfl,em2⟩:=mS f2;split at h;case h_2=>exact h.elim
 rename_i e s1 s2 s3 s4 t1;split at h;case h_2=>exact h.elim
 rename_i te t2;cases hc:(Nat.beq te.size 1&&Nat.ble 1 te.bytes&&Nat.beq k1 k2&&Nat.beq B1 te.bytes&&Nat.beq e1 e && !Nat.beq hd hd') with
 |false=>rw[hc] at h;exact h.elim
 |true=>
 rw[hc,r7] at h;simp only[t4,Ha] at hc;obtain⟨⟨⟨⟨⟨c1,c2⟩,c3⟩,c4⟩,c5⟩,c6⟩:=hc;have hs1:=xx c1;have hb1:=oo c2;obtain rfl:=xx c3;obtain rfl:=xx c5;clear c1 c2 c3 c4 c5;obtain⟨rfl,rfl,hB,hK⟩:=h;refine⟨_,_,_,hK,fun p hp=>?_,fun p hp=>?_,fun g w m' ρ hm hn hrd hev=>?_⟩
 ·simp only[F5,Hr,Is] at hp;rcases hp with rfl|rfl
  ·exact em1
  ·exact em2
 ·simp only[F5,Hr,Is] at hp;rcases hp with rfl|rfl
  ·exact .inl rfl
  ·exact .inr ⟨(hd,.fns e1 B1 k1 l1),JX,rfl⟩
 obtain⟨l,g1,g2⟩:=hm.blk hd _ (hrd (hd,.fns e1 B1 k1 l1) JX);obtain⟨l',g1',g2'⟩:=hm.blk hd' _ (hrd (hd',.fns e2 B2 k1 l2) JX);have h63:l1.length+l2.length<=9223372036854775807:=by have:(l1.length+l2.length)*1<=(l1.length+l2.length)*te.bytes:=H4 _ hb1;omega
 have row:∀ {hq:Nat} {q:Loc} {e B:Nat} {fs:List (Nat×List Tr)} {v:Value},g hq=.live q->fE g w q (g.F hq) (.fns e B k1 fs)->Rep g w v (.sl hq fs.length)->∃xs,w.ownsRow 0 e te.size v fs.length xs/\v.ownBlock=q.b/\xs.length=fs.length /\
   (∀(j:Nat)(p:Nat×List Tr),fs[j]?=some p->∃u,xs[j]?=some u/\Rep g w u (fnAV k1 p))/\∃ao c,v=.slice ao fs.length c/\∀(j:Nat)(u:Value),xs[j]?=some u->∃b o,ao=some ⟨b,o,none⟩/\w.cell? ⟨b,o+j,none⟩=some u:=by
  intro hq q e B fs v hl hbr hv;obtain⟨_,⟨rfl,rfl⟩|⟨b,cap,cur,rfl,k1,k2,k3,k4,k5⟩⟩:=hbr
  ·rcases hv.sl_inv hl with⟨b,cap,e0,_,_⟩|⟨_,_,e5⟩
   ·cases e0
   ·rw[e5];exact⟨[],IP _ _ _ _,rfl,rfl,JX,none,0,rfl,JX⟩
  ·rcases hv.sl_inv hl with⟨b',cap',e0,e4,e5⟩|⟨e0,_⟩
   ·cases e0;rw[e5];refine⟨cur.toList.take (fs.length*te.size),⟨by simp;rw[hs1];omega,.inr ⟨b,cap,cur,rfl,x5 _,k1,e4,by simpa[maxLen] using k3,by rw[hs1,JJ];exact k4,rfl⟩⟩,rfl,by simp;rw[hs1];omega,fun j p hj=>?_,_,_,rfl,fun j u hj=>?_⟩
    ·obtain⟨u,c1,c2⟩:=k5 j p hj;have hlt:=(a9.1 hj).1;exact⟨u,by rw[Ba,Gw (by rw[hs1];omega)];simpa using c1,c2⟩
    ·rw[Ba] at hj;split at hj;·exact⟨b,0,rfl,by rw[aD k1,E7];simpa using hj⟩
     ·cases hj
   ·cases e0
 obtain⟨xs,hown,hlb,hxl,hxs,_⟩:=row g1 g2 (hev _ _ hx);obtain⟨cl,_,_,hcl,hcs,ao,cc,q1,q3⟩:=row g1' g2' (hev _ _ hy);have one:∀u∈cl,u.oneCell'=true:=fun u hu=>by obtain⟨j,hj⟩:=Gv.1 hu;have hlt:=(a9.1 hj).1;obtain⟨p,hp⟩:∃p,l2[j]?=some p:=⟨_,ab JQ⟩;obtain⟨u',c1,c2⟩:=hcs j p hp;rw[hj] at c1;cases c1;exact c2.one rfl
 obtain⟨v',w',r1,r2,r3,r4⟩:=fm (ty:=o.type) hT (g:=g) t1 t2 JQ hown (by rw[hcl,hs1,JJ]) q3 one h63 JQ;rw[<-q1] at r1;rw[hlb] at r3 r4;have hun:∀h,h≠nh->g h=.un->hd≠h:=fun h _ h2 e=>by rw[e] at g1;rw[h2] at g1;cases g1
 obtain⟨_,⟨rfl,rn⟩|⟨k,cap,cur,rfl,_,k1',k2,k3,k4,k5⟩⟩:=r2
 ·have z1:l1=[]:=GF JQ;have z2:l2=[]:=GF JQ;subst z1 z2;exact⟨_,w',.inl ⟨_,hrun ρ w w' _ r1,.slN (bK ..)⟩,aY (l:=l) (l':=.nil) (hd:=some hd) hm hn (fun h e=>by cases e;exact g1) r3 JX (by simp[Loc.b]) (by simp[Loc.b]) ⟨JX,.inl ⟨rfl,JX⟩⟩,aM hm (l:=l) (l':=.nil) (hd:=some hd) hn (fun h e=>by cases e;exact g1) r3 JX (by simp[Loc.b]),fun h h1 h2=>by rw[b7 h1 (by simp[hun h h1 h2]),h2]⟩
 ·have hnew:∀b,(Loc.row k cap).b=some b->l.b=some b\/w.heap.size<=b:=fun b eb=>by
   cases eb;rcases r4 with r4|r4
   ·exact .inl (by rw[<-r4];rfl)
   ·simp[Value.ownBlock] at r4;exact .inr JQ
  have hG:=aM hm (l:=l) (l':=.row k cap) (hd:=some hd) hn (fun h e=>by cases e;exact g1) r3 JX hnew;refine⟨_,w',.inl ⟨_,hrun ρ w w' _ r1,.sl (b:=k) (cap:=cap) (bK ..) k2⟩,aY (l:=l) (l':=.row k cap) (hd:=some hd) hm hn (fun h e=>by cases e;exact g1) r3 JX hnew (fun b eb=>by cases eb;exact(GI.1 k1').1)
   ⟨by rw[uR];exact hB,.inr ⟨k,cap,cur,rfl,k1',by rw[uR];exact k2,by simpa[maxLen] using k3,by rw[k4,hs1,JJ],fun i p hi=>?_⟩⟩,hG,fun h h1 h2=>by rw[b7 h1 (by simp[hun h h1 h2]),h2]⟩
  have:∃u,(xs++cl)[i]?=some u/\Rep g w u (fnAV k1 p):=by
   by_cases c1:i<l1.length
   ·rw[v9 c1] at hi;rw[v9 JQ];exact hxs i p hi
   ·rw[wS JQ] at hi;rw[wS JQ,hxl];exact hcs _ p hi
  obtain⟨u,c1,c2⟩:=this;refine⟨u,?_,c2.grow hG⟩;rw[<-k5,Ba] at c1;split at c1;·simpa using c1
  ·cases c1
end
section
variable {P:Program} {T:Ty} {o:Oper} {m:Mem} {nh:Nat} {ev:Operand->Option AV} {K:KK}
def zc(P:Program)(kt:Nat)(kd:D):Prop:=
 ∀(q:MK),q.fits kd=true->(∀(e:Bool)(w:World),(Instr.checkKey e 10000 kt q.val).run P w=.ok () w) /\
  ∃u,P.underlying kt=some u/\((∀k:MK,k.fits kd=true->Instr.sameNow u q.val k.val=some (q.same k)) \/
   ((∀v,Instr.sameNow u q.val v=none)/\∀(k:MK)(w:World),k.fits kd=true->(Op.equal kt q.val k.val).run P w=.ok (q.same k) w))
theorem MK.of_val{v:Value}{q:MK}(h:MK.of v=some q):v=q.val:=by unfold MK.of at h;split at h<;>first|(cases h;rfl)|cases h
theorem MK.ofA_val{a:AV}{q:MK}(h:MK.ofA a=some q){g:Gh}{w:World}{v:Value}(hr:Rep g w v a):v=q.val:=by
 unfold MK.ofA at h;split at h;·exact(al hr).1.trans (MK.of_val h)
 ·cases h;cases hr with
  |agg h1 h2 h3=>
   rename_i cs;obtain⟨l⟩:=cs
   match l,h1 with
   |[x,y],_=>
    have e1:=(al (h3 0 x _ rfl rfl)).1;have e2:=(al (h3 1 y _ rfl rfl)).1;rw[e1,e2];rfl
 ·cases h;cases hr with
  |agg h1 h2 h3=>
   rename_i cs;obtain⟨l⟩:=cs
   match l,h1 with
   |[x,y],_=>
    have e1:=(al (h3 0 x _ rfl rfl)).1;have e2:=(al (h3 1 y _ rfl rfl)).1;rw[e1,e2];rfl
 ·cases h
theorem rI{q:MK}(h:q.fits .string=true):∃a,q=.ks a:=by cases q<;>first|exact⟨_,rfl⟩|cases h
theorem rQ{k:IntKind}{q:MK}(h:q.fits (.int k)=true):∃n,q=.ki k n:=by
 cases q with
 |ki k' n=>have:k=k':=of_decide_eq_true h;subst this;exact⟨n,rfl⟩
 |_=>cases h
theorem oF{q:MK}(h:q.fits .bool=true):∃b,q=.kb b:=by cases q<;>first|exact⟨_,rfl⟩|cases h
theorem uU{q:MK}(h:q.fits (.struct [(0,0)])=true):∃n b,q=.kib n b:=by cases q<;>first|exact⟨_,_,rfl⟩|cases h
theorem wn{q:MK}(h:q.fits (.struct [(1,0)])=true):∃b n,q=.kbi b n:=by cases q<;>first|exact⟨_,_,rfl⟩|cases h
theorem oW{a:Nat}{k:IntKind}(hT:TOk P T)(h:dOf T a=some (.int k)):P.underlying a=some (.int k):=by obtain⟨u,u1,u2⟩:=bu hT h;rw[u1,yc u2]
theorem lD{a:Nat}(hT:TOk P T)(h:dOf T a=some .bool):P.underlying a=some .bool:=by obtain⟨u,u1,u2⟩:=bu hT h;rw[u1,ny u2]
theorem Bt{α β:Type}{f:α->β}{p q:β}:∀ {l:List α},[p,q]=l.map f->∃a b,l=[a,b]/\p=f a/\q=f b
 |[a,b],h=>by simp only[GO,Kg,Jd,Ka] at h;exact⟨a,b,rfl,h.1,h.2⟩
 |[],h=>by simp at h
 |[_],h=>by simp at h
 |_::_::_::_,h=>by simp at h
theorem ug(hT:TOk P T){kt k bb a b:Nat}{z:List Z}(e1:lk T kt=some ⟨.struct [(a,0),(b,1)],k,bb,z,true⟩)(x y:Value)(hx:∀(n:Nat)(e:Bool)(w:World),(Instr.checkKey e (n+1) a x).run P w=.ok () w)(hy:∀(n:Nat)(e:Bool)(w:World),(Instr.checkKey e (n+1) b y).run P w=.ok () w)
  (ha:∀w,(isAgg a).run P w=.ok false w) (hb:∀w,(isAgg b).run P w=.ok false w) (e:Bool) (w:World):(Instr.checkKey e 10000 kt (.agg #[x,y])).run P w=.ok () w:=by
 obtain⟨fds,q2,q3,_,_,_,hnm⟩:=jG hT e1;obtain⟨l⟩:=fds;obtain⟨f1,f2,rfl,q4,q5⟩:=Bt q3
 ·simp only[Il] at q4 q5;obtain⟨h1,h2⟩:=q4;obtain⟨h3,h4⟩:=q5;subst h1 h3;have n1:=hnm f1 JX;have n2:=hnm f2 JX;show(Instr.checkKey e (9999+1) kt (.agg #[x,y])).run P w=.ok () w;have hp1:∀w,(part f1.type #[x,y] f1.offset).run P w=.ok x w:=fun w=>by
   rw[<-h2];unfold part;simp[ha]
  have hp2:∀w,(part f2.type #[x,y] f2.offset).run P w=.ok y w:=fun w=>by rw[<-h4];unfold part;simp[hb]
  unfold Instr.checkKey;simp only[E9,GP q2,De];rw[<-Array.forIn_toList];simp only[List.forIn_cons,List.forIn_nil,n1,n2,ne_eq,Jt,I6,E9,hp1,hp2,De,hx 9998,hy 9998,Hj]
theorem rO{a:Nat}{u:TypeDesc}(h:P.underlying a=some u)(hn:D.of u=.bool\/∃k,D.of u=.int k)(w:World):(isAgg a).run P w=.ok false w:=by unfold isAgg;rw[E9,GP h w];cases u<;>first|rfl|(rcases hn with hn|⟨k,hn⟩<;>cases hn)
theorem dY{a:Nat}{x:Value}(h:(∃k n,P.underlying a=some (.int k)/\x=.int k n)\/(P.underlying a=some .bool/\∃b,x=.bool b))(n:Nat)(e:Bool)(w:World):(Instr.checkKey e (n+1) a x).run P w=.ok () w:=by rcases h with⟨k,z,h,rfl⟩|⟨h,b,rfl⟩<;>simp[Instr.checkKey,GP h]
theorem AR(hT:TOk P T){kt k bb a b:Nat}{z:List Z}(e1:lk T kt=some ⟨.struct [(a,0),(b,1)],k,bb,z,true⟩){x y x' y':Value}{r1 r2:Bool}(ha:∀w,(isAgg a).run P w=.ok false w)(hb:∀w,(isAgg b).run P w=.ok false w)
  (hx:∀d w,(Op.equalIn (d+1) a x x').run P w=.ok r1 w) (hy:∀d w,(Op.equalIn (d+1) b y y').run P w=.ok r2 w) (w:World):(Op.equal kt (.agg #[x,y]) (.agg #[x',y'])).run P w=.ok (r1&&r2) w:=by
 obtain⟨fds,q2,q3,hfd,hs,hgd,hnm⟩:=jG hT e1;have heq:=Jj (P:=P) w 9999 kt #[x,y] #[x',y'] (by rw[hfd];exact q2) hs;show(Op.equalIn (9999+1) kt _ _).run P w=_;rw[heq,hfd];obtain⟨l⟩:=fds;obtain⟨f1,f2,rfl,q4,q5⟩:=Bt q3
 ·simp only[Il] at q4 q5;obtain⟨h1,h2⟩:=q4;obtain⟨h3,h4⟩:=q5;subst h1 h3;have n1:=hnm f1 JX;have n2:=hnm f2 JX;have hp1:∀(u v:Value) w,(part f1.type #[u,v] f1.offset).run P w=.ok u w:=fun u v w=>by
   rw[<-h2];unfold part;simp[ha]
  have hp2:∀(u v:Value) w,(part f2.type #[u,v] f2.offset).run P w=.ok v w:=fun u v w=>by rw[<-h4];unfold part;simp[hb]
  have e1:=hx 9998 w;have e2:=hy 9998 w;have e3:(Op.eqFields 9999 #[x,y] #[x',y'] [f2]).run P w=.ok r2 w:=by unfold Op.eqFields;rw[Gw n2];simp only[E9,hp2,De,e2];cases r2<;>simp[Op.eqFields]
  show(Op.eqFields 9999 #[x,y] #[x',y'] [f1,f2]).run P w=_;unfold Op.eqFields;rw[Gw n1];simp only[E9,hp1,De,e1];cases r1;·simp
  ·simp[e3]
theorem rN(hT:TOk P T){kt:Nat}{kd:D}(h:BD T kt=some kd):zc P kt kd:=by
 unfold BD at h;intro q hq;split at h
 ·rename_i s1 s2 s3 s4 e1;cases h;obtain⟨a,rfl⟩:=rI hq;obtain⟨u,u1,u2⟩:=bu hT (show dOf T kt=some .string by unfold dOf;rw[e1]);obtain rfl:=cR u2;refine⟨fun e w=>by show(Instr.checkKey e (9999+1) kt _).run P w=_;generalize 9999=d;simp[Instr.checkKey,GP u1,MK.val],_,u1,.inl fun k hk=>?_⟩;obtain⟨c,rfl⟩:=rI hk;simp[Instr.sameNow,MK.val,MK.same,beq_toListBytes]
 ·rename_i k s1 s2 s3 s4 e1;cases h;obtain⟨n,rfl⟩:=rQ hq;have u1:=oW hT (show dOf T kt=some (.int k) by unfold dOf;rw[e1]);refine⟨fun e w=>by show(Instr.checkKey e (9999+1) kt _).run P w=_;generalize 9999=d;simp[Instr.checkKey,GP u1,MK.val],_,u1,.inl fun k' hk=>?_⟩;obtain⟨c,rfl⟩:=rQ hk;simp[Instr.sameNow,MK.val,MK.same]
 ·rename_i s1 s2 s3 s4 e1;cases h;obtain⟨n,rfl⟩:=oF hq;have u1:=lD hT (show dOf T kt=some .bool by unfold dOf;rw[e1]);refine⟨fun e w=>by show(Instr.checkKey e (9999+1) kt _).run P w=_;generalize 9999=d;simp[Instr.checkKey,GP u1,MK.val],_,u1,.inl fun k' hk=>?_⟩;obtain⟨c,rfl⟩:=oF hk;simp[Instr.sameNow,MK.val,MK.same]
 ·rename_i a b s1 s2 s3 e1;obtain⟨fds,q2,_⟩:=jG hT e1;split at h
  ·rename_i h1 h2;cases h;have u1:=oW hT h1;have u2:=lD hT h2;have a1:=rO u1 (.inr ⟨_,rfl⟩);have a2:=rO u2 (.inl rfl);obtain⟨n,c,rfl⟩:=uU hq;refine⟨fun e w=>ug hT e1 _ _ (fun d e w=>dY (.inl ⟨_,n,u1,rfl⟩) d e w) (fun d e w=>dY (.inr ⟨u2,c,rfl⟩) d e w) a1 a2 e w,_,q2,.inr ⟨fun v=>by cases v<;>rfl,fun k w hk=>?_⟩⟩;obtain⟨n',c',rfl⟩:=uU hk;exact AR hT e1 a1 a2 (fun d w=>Jc w d _ _ _ _ _ u1) (fun d w=>IQ w d _ _ _ u2) w
  ·rename_i h1 h2;cases h;have u1:=lD hT h1;have u2:=oW hT h2;have a1:=rO u1 (.inl rfl);have a2:=rO u2 (.inr ⟨_,rfl⟩);obtain⟨c,n,rfl⟩:=wn hq;refine⟨fun e w=>ug hT e1 _ _ (fun d e w=>dY (.inr ⟨u1,c,rfl⟩) d e w) (fun d e w=>dY (.inl ⟨_,n,u2,rfl⟩) d e w) a1 a2 e w,_,q2,.inr ⟨fun v=>by cases v<;>rfl,fun k w hk=>?_⟩⟩;obtain⟨c',n',rfl⟩:=wn hk;exact AR hT e1 a1 a2 (fun d w=>IQ w d _ _ _ u1) (fun d w=>Jc w d _ _ _ _ _ u2) w
  ·cases h
 ·cases h
def l8{α:Type}:List (MK×α)->MK->Nat->Option Nat
 |[],_,_=>none
 |(k,_)::r,q,i=>bif MK.same q k then some i else l8 r q (i+1)
section
variable {α:Type} {Rv:Value->α->Prop}
def rV(Rv:Value->α->Prop)(es:List (MK×α))(q:MK)(i:Nat)(r:Option (Nat×Value)):Prop:=
 (r=none/\ew es q=none/\l8 es q i=none)\/∃j v t,r=some (j,v)/\l8 es q i=some j/\ew es q=some t/\Rv v t
def oL(Rv:Value->α->Prop)(kd:D)(es:List (MK×α))(ents:List MapEntry):Prop:=
 ents.length=es.length/\(∀p∈es,p.1.fits kd=true)/\∀(j:Nat)(k:MK)(t:α),es[j]?=some (k,t)->∃en,ents[j]?=some en/\en.key=k.val/\Rv en.val t
theorem oL.tail{kd:D}{p:MK×α}{es:List (MK×α)}{en:MapEntry}{ents:List MapEntry}(h:oL Rv kd (p::es) (en::ents)):oL Rv kd es ents:=
 ⟨by simpa using h.1,fun p hp=>h.2.1 p (by simp[hp]),fun j k t hj=>by simpa using h.2.2 (j+1) k t (by simpa using hj)⟩
theorem kU{kd:D}{u:TypeDesc}{q:MK}(hs:∀k:MK,k.fits kd=true->Instr.sameNow u q.val k.val=some (q.same k)):∀(es:List (MK×α))(ents:List MapEntry)(i:Nat),oL Rv kd es ents->∃r,Instr.findNow u q.val ents i=some r/\rV Rv es q i r
 |[],[],i,_=>⟨none,rfl,.inl ⟨rfl,rfl,rfl⟩⟩
 |[],_::_,_,h=>absurd h.1 JX
 |_::_,[],_,h=>absurd h.1 JX
 |(k,t)::es,en::ents,i,h=>by
  obtain⟨en',h1,h2,h3⟩:=h.2.2 0 k t rfl;simp at h1;subst h1;unfold Instr.findNow rV ew l8;rw[h2,hs k (h.2.1 (k,t) JX)];cases hb:q.same k with
  |true=>exact⟨_,rfl,.inr ⟨i,en.val,t,rfl,rfl,rfl,h3⟩⟩
  |false=>exact kU hs es ents (i+1) h.tail
theorem kP{kd:D}{kt:Nat}{q:MK}(w:World)(hs:∀k:MK,k.fits kd=true->(Op.equal kt q.val k.val).run P w=.ok (q.same k) w):∀(es:List (MK×α))(ents:List MapEntry)(i:Nat),oL Rv kd es ents->∃r,(Instr.findAsking kt q.val ents i).run P w=.ok r w/\rV Rv es q i r
 |[],[],i,_=>⟨none,rfl,.inl ⟨rfl,rfl,rfl⟩⟩
 |[],_::_,_,h=>absurd h.1 JX
 |_::_,[],_,h=>absurd h.1 JX
 |(k,t)::es,en::ents,i,h=>by
  obtain⟨en',h1,h2,h3⟩:=h.2.2 0 k t rfl;simp at h1;subst h1;have hk:=hs k (h.2.1 (k,t) JX);rw[<-h2] at hk;unfold Instr.findAsking rV ew l8;simp only[E9,hk,De];cases hb:q.same k with
  |true=>exact⟨_,rfl,.inr ⟨i,en.val,t,rfl,rfl,rfl,h3⟩⟩
  |false=>exact kP w hs es ents (i+1) h.tail
theorem xj{kt:Nat}{kd:D}(hK:zc P kt kd){q:MK}(hq:q.fits kd=true)(w:World){es:List (MK×α)}{ents:List MapEntry}(h:oL Rv kd es ents):∃r,(Instr.findKey kt q.val ents).run P w=.ok r w/\rV Rv es q 0 r:=by
 obtain⟨_,u,u1,hs|⟨hn,hs⟩⟩:=hK q hq
 ·obtain⟨r,r1,r2⟩:=kU hs es ents 0 h;exact⟨r,by simp[Instr.findKey,GP u1,r1],r2⟩
 ·obtain⟨r,r1,r2⟩:=kP w (fun k hk=>hs k w hk) es ents 0 h;refine⟨r,?_,r2⟩;cases ents with
  |nil=>
   have:r=none:=by
    rcases r2 with⟨h,_⟩|⟨j,v,t,rfl,q1,_⟩
    ·exact h
    ·cases es with
     |nil=>cases q1
     |cons=>exact absurd h.1 JX
   subst this;simp[Instr.findKey,GP u1,Instr.findNow]
  |cons en ents=>
   have:Instr.findNow u q.val (en::ents) 0=none:=by unfold Instr.findNow;rw[hn]
   simp[Instr.findKey,GP u1,this,r1]
theorem tZ:∀ {es:List (MK×α)} {q:MK} {x:α} {i:Nat},l8 es q i=none->mput es q x=es++[(q,x)]:=by
 intro es;induction es with
 |nil=>intro q x i _;rfl
 |cons p r ih=>
  obtain⟨k,v⟩:=p;intro q x i h;unfold l8 at h;unfold mput;cases hs:q.same k with
  |true=>rw[hs] at h;cases h
  |false=>rw[hs] at h;rw[lh,ih h];rfl
theorem uf:∀ {es:List (MK×α)} {q:MK} {x:α} {i j:Nat},l8 es q i=some j->∃d k t,j=i+d/\es[d]?=some (k,t)/\q.same k=true/\mput es q x=es.set d (q,x):=by
 intro es;induction es with
 |nil=>intro q x i j h;cases h
 |cons p r ih=>
  obtain⟨k,v⟩:=p;intro q x i j h;unfold l8 at h;unfold mput;cases hs:q.same k with
  |true=>rw[hs] at h;cases h;exact⟨0,k,v,rfl,rfl,hs,rfl⟩
  |false=>
   rw[hs] at h;obtain⟨d,k',t',h1,h2,h3,h4⟩:=ih h (x:=x);exact⟨d+1,k',t',JQ,h2,h3,by rw[lh,h4];rfl⟩
end
theorem y6{q k:MK}{kd:D}(hq:q.fits kd=true)(hk:k.fits kd=true)(h:q.same k=true):k.val=q.val:=by
 cases q<;>cases k<;>first|(cases h;done)|skip
 ·rename_i a a';have h:(a.toList==a'.toList)=true:=h;have:a.data.toList=a'.data.toList:=by
   rw[ByteArray.toList_eq,ByteArray.toList_eq] at h;exact eq_of_beq h
  obtain⟨⟨x⟩⟩:=a;obtain⟨⟨y⟩⟩:=a';simp only at this;subst this;rfl
 ·rename_i k1 n k2 n';have h:(n==n')=true:=h;have hkk:k1=k2:=by
   cases kd<;>first|(cases hq;done)|exact(of_decide_eq_true hq:_=k1).symm.trans (of_decide_eq_true hk)|(unfold MK.fits at hq;split at hq<;>simp_all)
  rw[eq_of_beq h,hkk]
 ·rename_i x x';have h:(x==x')=true:=h;rw[eq_of_beq h]
 ·rename_i n b n' b';have h:(n==n'&&b==b')=true:=h;simp only[t4,HH] at h;rw[h.1,h.2]
 ·rename_i b n b' n';have h:(b==b'&&n==n')=true:=h;simp only[t4,HH] at h;rw[h.1,h.2]
theorem mF(q:MK):Instr.sameBits 10000 q.val q.val=true:=by
 show Instr.sameBits (9998+1+1) q.val q.val=true;generalize 9998=n;cases q with
 |ks a=>
  have:(a==a)=true:=by rw[beq_toListBytes];simp
  simp[Instr.sameBits,MK.val,this]
 |_=>simp[Instr.sameBits,MK.val]
theorem qR(hT:TOk P T){e s6 s7:Nat}{d:D}{z:Z}{q:Bool}(e3:lk T e=some ⟨d,s6,s7,[z],q⟩)(hda:d.agg=false)(w:World):(zeroValue e).run P w=.ok z.val w:=by
 obtain⟨zv,z1,z2,_,_⟩:=fg hT e3 w;have hc:zv.cells = #[z.val]:=by simpa using z2
 obtain⟨ti',u',zt,q1,q2,q3,q4,q5,q6,q7,q8⟩:=hT.info e3;have hzz:zt=zv:=by
  have:(zeroValue e).run P w=.ok zt w:=by simp[zeroValue,typeInfo,q1,q6]
  rw[z1] at this;cases this;rfl
 subst hzz;have:zt=z.val:=by
  unfold kD at q7;split at q7
  ·rename_i hag;rw[hda] at hag;cases hag
  ·split at q7;·cases q7
   ·simp only[z9] at q7;obtain⟨z',h1,h2⟩:=q7;cases h2;exact Z.of_val h1
 rw[<-this];exact z1
theorem BR(hT:TOk P T){e:Nat}{i:TyI}(e3:lk T e=some i){a:AV}(h:wW i=some a)(w:World):∃v,(zeroValue e).run P w=.ok v w/\∀g,Rep g w v a:=by
 unfold wW at h;split at h
 ·rename_i ha;cases h;obtain⟨zv,z1,z2,z3,z4⟩:=fg hT e3 w;refine⟨zv,z1,fun g=>?_⟩;rw[z4 ha];exact(d5 g w i.zero).agg
 ·rename_i ha;obtain⟨d,s1,s2,zl,s3⟩:=i;simp only at h;split at h
  ·rename_i z;cases h;exact⟨_,qR hT e3 ha w,fun g=>.tr (.v (eE z))⟩
  ·cases h
section
variable {α:Type} {Rv:Value->α->Prop}
theorem rB(hT:TOk P T){ty k e s1 s2:Nat}{s3:List Z}{s4:Bool}(e1:lk T ty=some ⟨.map k e,s1,s2,s3,s4⟩){kd:D}(hK:zc P k kd){q:MK}(hq:q.fits kd=true){es:List (MK×α)}{w:World}{b clock:Nat}{ents:Array MapEntry}(b1:w.heap[b]?=some (.map ents clock))
  (hst:oL Rv kd es ents.toList) {zv:Value} (hz:(zeroValue e).run P w=.ok zv w) (ok:Bool):∃r,rV Rv es q 0 r/\(Instr.lookup ty (.map (some b)) q.val ok).run P w=.ok (if ok then .tuple #[(r.map (·.2)).getD zv,.bool r.isSome] else(r.map (·.2)).getD zv) w:=by
 obtain⟨u,u1,u2,u3⟩:=aI hT e1 w;obtain rfl:=C6 u2;have hck:=(hK q hq).1 ents.isEmpty w;obtain⟨r,r1,r2⟩:=xj hK hq w hst;have hgo:(getObj b).run P w=.ok (.map ents clock) w:=by simp[getObj,Sem.run,b1]
 refine⟨r,r2,?_⟩;cases r with
 |none=>cases ok<;>simp[Instr.lookup,u1,hgo,hck,r1,hz]
 |some p=>
  obtain⟨j,v⟩:=p;cases ok<;>simp[Instr.lookup,u1,hgo,hck,r1]
end
theorem rP{g:Gh}{w:World}{hd b:Nat}{v:Value}(hr:Rep g w v (.mp hd))(g1:g hd=.live (.blk b)):v=.map (some b):=by
 cases hr with
 |mpD e=>rw[g1] at e;cases e
 |mp e=>rw[g1] at e;cases e;rfl
theorem l_lookup(hT:TOk P T){ty:Nat}{x i:Operand}{ok:Bool}{a kv:AV}(ho:o.op=.lookup ty x i ok)(hx:ev x=some a)(hi:ev i=some kv)(h:pA T m ty kv ok K a):LOk P o m nh ev K:=by
 unfold pA at h;split at h;case h_2=>exact h.elim
 rename_i hd;split at h
 ·rename_i k e s1 s2 s3 s4 kd es q e1 em eq;split at h;case h_2=>exact h.elim
  rename_i kd' d s6 s7 z s8 e2 e3;cases hb:(decide (kd=kd')&&q.fits kd && !d.agg) with
  |false=>rw[hb] at h;exact h.elim
  |true=>
  rw[hb,r7] at h;simp only[t4,GR,Ha] at hb;obtain⟨⟨rfl,hf⟩,hda⟩:=hb;have main:∀(g:Gh)(w:World)(m':Mem)(ρ:Operand->Value),MSt g w m'->(∀p∈[(hd,Blk.map kd es)],m' p.1=some p.2)->(∀x b,ev x=some b->Rep g w (ρ x) b) ->
    ∃v,(Instr.lookup ty (ρ x) (ρ i) ok).run P w=.ok (if ok then .tuple #[v,.bool (ew es q).isSome] else v) w/\RepT (okB g w) w v ((ew es q).getD (.v z.val)):=by
   intro g w m' ρ hm hrd hev;obtain⟨lc,g1,b,ents,clock,rfl,b1,b2,b3,b4⟩:=hm.blk hd _ (hrd (hd,.map kd es) JX);rw[rP (hev _ _ hx) g1,MK.ofA_val eq (hev _ _ hi)];obtain⟨r,r1,r2⟩:=rB hT e1 (rN hT e2) hf b1 (Rv:=fun v t=>RepT (okB g w) w v t) (es:=es) ⟨by simpa using b2.1,b3,fun j k t hj=>by simpa using b4 j k t hj⟩ (qR hT e3 hda w) ok;rcases r1 with⟨rfl,m1,_⟩|⟨j,v,t,rfl,_,m1,m2⟩
   ·exact⟨z.val,by rw[m1];exact r2,by rw[m1];exact .v (eE z)⟩
   ·exact⟨v,by rw[m1];exact r2,by rw[m1];exact m2⟩
  cases hok:ok with
  |true=>
   rw[hok,r7] at h;refine LOk.pure _ _ h (by simpa using em) fun g w m' ρ hm hrd hev=>?_;obtain⟨v,v1,v2⟩:=main g w m' ρ hm hrd hev;rw[hok,Gw rfl] at v1;refine⟨_,by simp only[execOp,ho,hok,E9,v1,De];rfl,.tup rfl fun j c b c1 c2=>?_⟩
   match j with
   |0=>simp at c1 c2;subst c1;subst c2;exact .tr v2
   |1=>simp at c1 c2;subst c1;subst c2;exact .tr (.v trivial)
   |j+2=>simp at c2
  |false=>
   rw[hok,lh] at h;refine LOk.pure _ _ h (by simpa using em) fun g w m' ρ hm hrd hev=>?_;obtain⟨v,v1,v2⟩:=main g w m' ρ hm hrd hev;rw[hok,GN JX] at v1;exact⟨_,by simp only[execOp,ho,hok,E9,v1,De];rfl,.tr v2⟩
 ·rename_i k e s1 s2 s3 s4 kd es q e1 em eq;split at h;case h_2=>exact h.elim
  rename_i kd' i0 e2 e3;split at h;case h_2=>exact h.elim
  rename_i a0 e4;cases hb:(decide (kd=kd')&&q.fits kd) with
  |false=>rw[hb] at h;exact h.elim
  |true=>
  rw[hb,r7] at h;simp only[t4,GR] at hb;obtain⟨rfl,hf⟩:=hb;have main:∀(g:Gh)(w:World)(m':Mem)(ρ:Operand->Value),MSt g w m'->(∀p∈[(hd,Blk.mpa kd es)],m' p.1=some p.2)->(∀x b,ev x=some b->Rep g w (ρ x) b) ->
    ∃v,(Instr.lookup ty (ρ x) (ρ i) ok).run P w=.ok (if ok then .tuple #[v,.bool (ew es q).isSome] else v) w/\Rep g w v ((ew es q).getD a0):=by
   intro g w m' ρ hm hrd hev;obtain⟨lc,g1,b,ents,clock,rfl,b1,b2,b3,b4⟩:=hm.blk hd _ (hrd (hd,.mpa kd es) JX);rw[rP (hev _ _ hx) g1,MK.ofA_val eq (hev _ _ hi)];obtain⟨zv,z1,z2⟩:=BR hT e3 e4 w;obtain⟨r,r1,r2⟩:=rB hT e1 (rN hT e2) hf b1 (Rv:=fun v t=>Rep g w v t) (es:=es) ⟨by simpa using b2.1,b3,fun j k t hj=>by simpa using b4 j k t hj⟩ z1 ok;rcases r1 with⟨rfl,m1,_⟩|⟨j,v,t,rfl,_,m1,m2⟩
   ·exact⟨zv,by rw[m1];exact r2,by rw[m1];exact z2 g⟩
   ·exact⟨v,by rw[m1];exact r2,by rw[m1];exact m2⟩
  cases hok:ok with
  |true=>
   rw[hok,r7] at h;refine LOk.pure _ _ h (by simpa using em) fun g w m' ρ hm hrd hev=>?_;obtain⟨v,v1,v2⟩:=main g w m' ρ hm hrd hev;rw[hok,Gw rfl] at v1;refine⟨_,by simp only[execOp,ho,hok,E9,v1,De];rfl,.tup rfl fun j c b c1 c2=>?_⟩
   match j with
   |0=>simp at c1 c2;subst c1;subst c2;exact v2
   |1=>simp at c1 c2;subst c1;subst c2;exact .tr (.v trivial)
   |j+2=>simp at c2
  |false=>
   rw[hok,lh] at h;refine LOk.pure _ _ h (by simpa using em) fun g w m' ρ hm hrd hev=>?_;obtain⟨v,v1,v2⟩:=main g w m' ρ hm hrd hev;rw[hok,GN JX] at v1;exact⟨_,by simp only[execOp,ho,hok,E9,v1,De];rfl,v2⟩
 ·exact h.elim
section
variable {α:Type} {Rv:Value->α->Prop}
theorem vM(hT:TOk P T){ty k e s1 s2:Nat}{s3:List Z}{s4:Bool}(e1:lk T ty=some ⟨.map k e,s1,s2,s3,s4⟩){kd:D}(hK:zc P k kd){q:MK}(hq:q.fits kd=true){es:List (MK×α)}{w:World}{b clock:Nat}{ents:Array MapEntry}(b1:w.heap[b]?=some (.map ents clock))
  (b2:ents.size=es.length/\clock=ents.size/\∀(i:Nat)(en:MapEntry),ents[i]?=some en->en.born=i) (b3:∀p∈es,p.1.fits kd=true) (b4:∀(j:Nat)(k:MK)(t:α),es[j]?=some (k,t)->∃en,ents[j]?=some en/\en.key=k.val/\Rv en.val t) {y:Value} {t:α} (hy:Rv y t) :
  ∃(ents':Array MapEntry)(clock':Nat),(Instr.mapUpdate ty (.map (some b)) q.val y).run P w=.ok () { w with heap:=w.heap.setIfInBounds b (.map ents' clock') }/\(ents'.size=(mput es q t).length/\clock'=ents'.size/\∀(i:Nat)(en:MapEntry),ents'[i]?=some en->en.born=i) /\
   (∀p∈mput es q t,p.1.fits kd=true)/\∀(j:Nat)(k:MK)(tt:α),(mput es q t)[j]?=some (k,tt)->∃en,ents'[j]?=some en/\en.key=k.val/\Rv en.val tt:=by
 obtain⟨u,u1,u2,u3⟩:=aI hT e1 w;obtain rfl:=C6 u2;have hck:=(hK q hq).1 false w;obtain⟨r,r1,r2⟩:=xj hK hq w (Rv:=Rv) (es:=es) (ents:=ents.toList) ⟨by simpa using b2.1,b3,fun j k t hj=>by simpa using b4 j k t hj⟩;have hgo:(getObj b).run P w=.ok (.map ents clock) w:=by simp[getObj,Sem.run,b1]
 have hset:∀ob,(setObj b ob).run P w=.ok () { w with heap:=w.heap.setIfInBounds b ob }:=fun ob=>by simp[setObj,Sem.run,b1]
 rcases r2 with⟨rfl,_,m1⟩|⟨j,v,t',rfl,m1,_,_⟩
 ·have hmp:=tZ (x:=t) m1;refine⟨ents.push { key:=q.val,val:=y,born:=clock },clock+1,by simp[Instr.mapUpdate,u1,hgo,hck,r1,hset],⟨by rw[hmp];simp[b2.1],by rw[b2.2.1];simp,fun i en hi=>?_⟩,fun p hp=>?_,fun j kk tt hj=>?_⟩
  ·rw[HK] at hi;split at hi;·rename_i e;cases hi;rw[e];exact b2.2.1
   ·exact b2.2.2 i en hi
  ·rw[hmp] at hp;simp only[FK,xB] at hp;rcases hp with hp|rfl
   ·exact b3 p hp
   ·exact hq
  ·rw[hmp] at hj;by_cases hjl:j<es.length
   ·rw[v9 hjl] at hj;obtain⟨en,c1,c2,c3⟩:=b4 j kk tt hj;exact⟨en,by rw[HK,GN (by have:=b2.1;omega)];exact c1,c2,c3⟩
   ·rw[wS JQ] at hj;have hj0:j-es.length=0:=by
     have:=(a9.1 hj).1;simp at this;omega
    rw[hj0] at hj;simp at hj;obtain⟨rfl,rfl⟩:=hj;exact⟨_,by rw[HK,Gw (by have:=b2.1;omega)],rfl,hy⟩
 ·obtain⟨d,k0,t0,d1,d2,d3,hmp⟩:=uf (x:=t) m1;have d1:j=d:=JQ;subst d1;obtain⟨en0,c1,c2,c3⟩:=b4 j k0 t0 d2;have hkk:k0.val=q.val:=y6 hq (b3 (k0,t0) (i3 d2)) d3;have hkey:((ents[j]?).map (·.key)).getD q.val=q.val:=by rw[c1];simp[c2,hkk]
  have hst:(Instr.keyThatStays q.val q.val).run P w=.ok q.val w:=by unfold Instr.keyThatStays;rw[Gw (mF q)];rfl
  refine⟨ents.modify j fun e=>{ e with key:=q.val,val:=y },clock,by simp only[Instr.mapUpdate,E9,u1,De,hgo,hck,r1,hkey,hst,hset],⟨by rw[hmp];simp[b2.1],by rw[b2.2.1];simp,fun i en hi=>?_⟩,fun p hp=>?_,fun i' kk tt hj=>?_⟩
  ·rw[JE] at hi;split at hi
   ·rw[z9] at hi;obtain⟨e0,q1,rfl⟩:=hi;exact b2.2.2 i e0 q1
   ·exact b2.2.2 i en hi
  ·rw[hmp] at hp;rcases HM hp with hp|rfl
   ·exact b3 p hp
   ·exact hq
  ·rw[hmp,IR] at hj;rw[JE];split at hj
   ·rename_i hji;subst hji;split at hj
    ·simp at hj;obtain⟨rfl,rfl⟩:=hj;rw[Gw rfl,c1];exact⟨_,rfl,rfl,hy⟩
    ·cases hj
   ·rename_i hji;rw[GN hji];exact b4 i' kk tt hj
end
theorem xQ{hd b:Nat}{ents ents':Array MapEntry}{clock clock':Nat}{bb:Blk}{x i y:Operand}{ty:Nat}{ρ:Operand->Value}(ho:o.op=.mapUpdate ty x i y\/o.op=.insert ty x i y){g:Gh}{w:World}{m':Mem}(hm:MSt g w m')(g1:g hd=.live (.blk b))(b1:w.heap[b]?=some (.map ents clock))
  (hrun:(Instr.mapUpdate ty (ρ x) (ρ i) (ρ y)).run P w=.ok () { w with heap:=w.heap.setIfInBounds b (.map ents' clock') }) (hb:∀g' w',Grow g w g' w'->w'.heap[b]?=some (.map ents' clock')->fE g' w' (.blk b) (g'.F hd) bb):kC P (execOp ρ o) g w m' nh [(hd,some bb)] .und:=by
 have hlt:b<w.heap.size:=(GI.1 b1).1;have hko:∀j,j≠b->(w.heap.setIfInBounds b (.map ents' clock'))[j]?=w.heap[j]? :=fun j hj=>by rw[IW (Kb hj)]
 have hg:=cq (g:=g) (h:=hd) (b:=b) (w:=w) (w':={ w with heap:=w.heap.setIfInBounds b (.map ents' clock') }) (hm.xl hd b (.root g1 rfl)) (.root g1 rfl) rfl rfl rfl JX hko;refine⟨g,_,.inr ⟨?_,rfl⟩,dD hm g1 JZ hg JX hko (hb g _ hg ?_),hg,fun _ _ h=>h⟩;·rcases ho with ho|ho<;>simp only[execOp,ho,E9,hrun,De,Hj]
 ·show(w.heap.setIfInBounds b _)[b]?=_;simp[hlt]
theorem l_mapUpdate(hT:TOk P T){ty:Nat}{x i y:Operand}{a b kv:AV}(ho:o.op=.mapUpdate ty x i y\/o.op=.insert ty x i y)(hx:ev x=some a)(hi:ev i=some kv)(hy:ev y=some b)(h:fb T m ty kv b K a):LOk P o m nh ev K:=by
 unfold fb at h;split at h;case h_2=>exact h.elim
 rename_i hd;split at h
 ·rename_i k e s1 s2 s3 s4 kd es q e1 em eq;split at h;case h_2=>exact h.elim
  rename_i kd' t e2;cases hb:(decide (kd=kd')&&q.fits kd) with
  |false=>rw[hb] at h;exact h.elim
  |true=>
  rw[hb,r7] at h;simp only[t4,GR] at hb;obtain⟨rfl,hf⟩:=hb;refine⟨_,_,_,h,by simpa using em,fun p hp=>.inr ⟨(hd,.map kd es),JX,by simp at hp;rw[hp]⟩,fun g w m' ρ hm hn hrd hev=>?_⟩;obtain⟨lc,g1,b,ents,clock,rfl,b1,b2,b3,b4⟩:=hm.blk hd _ (hrd (hd,.map kd es) JX);obtain⟨ents',clock',r1,r2,r3,r4⟩:=vM hT e1 (rN hT e2) hf b1 (Rv:=fun v t=>RepT (okB g w) w v t) b2 b3 b4 (hev _ _ hy).tr_inv;refine xQ ho hm g1 b1 (by rw[rP (hev _ _ hx) g1,MK.ofA_val eq (hev _ _ hi)];exact r1) fun g' w' hg hw=>⟨b,ents',clock',rfl,hw,r2,r3,fun j kk tt hj=>?_⟩;obtain⟨en,c1,c2,c3⟩:=r4 j kk tt hj;exact⟨en,c1,c2,c3.grow hg⟩
 ·rename_i k e s1 s2 s3 s4 kd es q e1 em eq;split at h;case h_2=>exact h.elim
  rename_i kd' e2;cases hb:(decide (kd=kd')&&q.fits kd) with
  |false=>rw[hb] at h;exact h.elim
  |true=>
  rw[hb,r7] at h;simp only[t4,GR] at hb;obtain⟨rfl,hf⟩:=hb;refine⟨_,_,_,h,by simpa using em,fun p hp=>.inr ⟨(hd,.mpa kd es),JX,by simp at hp;rw[hp]⟩,fun g w m' ρ hm hn hrd hev=>?_⟩;obtain⟨lc,g1,b,ents,clock,rfl,b1,b2,b3,b4⟩:=hm.blk hd _ (hrd (hd,.mpa kd es) JX);obtain⟨ents',clock',r1,r2,r3,r4⟩:=vM hT e1 (rN hT e2) hf b1 (Rv:=fun v t=>Rep g w v t) b2 b3 b4 (hev _ _ hy);refine xQ ho hm g1 b1 (by rw[rP (hev _ _ hx) g1,MK.ofA_val eq (hev _ _ hi)];exact r1) fun g' w' hg hw=>⟨b,ents',clock',rfl,hw,r2,r3,fun j kk tt hj=>?_⟩;obtain⟨en,c1,c2,c3⟩:=r4 j kk tt hj;exact⟨en,c1,c2,c3.grow hg⟩
 ·exact h.elim
theorem tq{t:Nat}{kd:D}(ho:o.op=.makeMap t none)(hK:K (.mp nh) [] [(nh,some (.mpa kd []))]):LOk P o m nh ev K:=by refine⟨_,_,_,hK,JX,JX,fun g w m' ρ hm hn hrd hev=>?_⟩;refine kC.new hm hn (.map #[] 0) (.blk w.heap.size) (fun b e=>by cases e;rfl) _ (.map (some w.heap.size)) ?_ (fun _=>⟨_,_,_,rfl,Hq w _,⟨rfl,rfl,JX⟩,JX,JX⟩) (.mp (be ..));simp[execOp,ho,Instr.makeMap]
end
section
variable {P:Program} {T:Ty} {o:Oper} {m:Mem} {nh:Nat} {ev:Operand->Option AV} {K:KK}
theorem dh{g:Gh}{w:World}{ρ:Operand->Value}(hev:∀x b,ev x=some b->Rep g w (ρ x) b){lo:Option Operand}{l:Option Int}(h:CP (lo.map ev)=some l):(lo=none/\l=none)\/∃x k z,lo=some x/\l=some z/\ρ x=.int k z:=by
 cases lo with
 |none=>left;simpa[CP,eq_comm] using h
 |some x=>
  right;simp only[G5] at h;unfold CP at h;split at h;·rename_i e;cases e
  ·rename_i k z e;cases h;have e:ev x=some (.tr (.v (.int k z))):=by simpa using e
   exact⟨x,k,z,rfl,rfl,(db (hev x _ e)).1⟩
  ·cases h
theorem dz{P:Program}{w:World}{ρ:Operand->Value}{isS:Bool}{len cap:Nat}{lo hi:Option Operand}{l h:Option Int}(hl:(lo=none/\l=none)\/∃x k z,lo=some x/\l=some z/\ρ x=.int k z)(hh:(hi=none/\h=none)\/∃x k z,hi=some x/\h=some z/\ρ x=.int k z)
  (h0:0<=l.getD 0) (h1:l.getD 0<=h.getD len) (h2:h.getD len<=len) (hc:len<=cap) :
  (Instr.sliceBounds isS len cap (lo.map ρ) (hi.map ρ) none).run P w=.ok ((l.getD 0).toNat,(h.getD len).toNat,cap) w:=by
 have hb:∀(k:IntKind)(z:Int)(y:Nat)(code:BoundsCode),0<=z->z<=y->(Instr.sliceBound (.int k z) y code).run P w=.ok z.toNat w:=fun k z y code a b=>by simp[Instr.sliceBound,asIntOf,a,b]
 rcases hh with⟨rfl,rfl⟩|⟨x,k,z,rfl,rfl,e⟩
 ·rcases hl with⟨rfl,rfl⟩|⟨x,k,z,rfl,rfl,e⟩
  ·simp[Instr.sliceBounds]
  ·simp only[Hs,Option.getD_none] at h0 h1;simp[Instr.sliceBounds,e,hb k z len _ h0 h1]
 ·simp only[Hs] at h1 h2;have hz:0<=z:=JQ;have q:=fun code=>hb k z cap code hz JQ;rcases hl with⟨rfl,rfl⟩|⟨x',k',z',rfl,rfl,e'⟩
  ·simp[Instr.sliceBounds,e,q]
  ·simp only[Hs] at h0 h1;simp[Instr.sliceBounds,e,q,e',hb k' z' z.toNat _ h0 JQ]
theorem zC(hT:TOk P T){t:Nat}{x hi mx:Operand}{a:AV}{h z:Int}{k1 k2:IntKind}(ho:o.op=.slice t x none (some hi) (some mx))(hx:ev x=some a)(hh:ev hi=some (.tr (.v (.int k1 h))))(hz:ev mx=some (.tr (.v (.int k2 z))))(hK:t8 T t h z K a):LOk P o m nh ev K:=(show False from hK).elim
theorem l_slice(hT:TOk P T){t:Nat}{x:Operand}{lo hi:Option Operand}{a:AV}{l h:Option Int}(ho:o.op=.slice t x lo hi none)(hx:ev x=some a)(hl:CP (lo.map ev)=some l)(hh:CP (hi.map ev)=some h)(hK:v8 T m t l h K a):LOk P o m nh ev K:=by
 unfold v8 at hK;split at hK
 ·rename_i s;split at hK;case h_2=>exact hK.elim
  rename_i s1 s2 s3 s4 e1;obtain⟨h0,h1,h2,hK⟩:=hK;refine LOk.pure _ _ hK JX fun g w m' ρ hm hrd hev=>?_;obtain⟨e2,g2⟩:=al (hev _ _ hx);obtain⟨u,u1,u2,u3⟩:=aI hT e1 w;obtain rfl:=cR u2;have hb:=dz (P:=P) (w:=w) (isS:=false) (len:=s.size) (cap:=s.size) (dh hev hl) (dh hev hh) h0 h1 h2 (t9 _);refine⟨_,?_,.tr (.v (show(s.extract _ _).size<=9223372036854775807 from ?_))⟩
  ·have hagg:(Instr.sliceAt t (ρ x) (lo.map ρ) (hi.map ρ) none).run P w=.ok (.string (s.extract (l.getD 0).toNat (h.getD s.size).toNat)) w:=by
    simp only[Instr.sliceAt,E9,u1,De,Instr.slice,e2];simp only[Option.isSome_none,IJ,I9,E9,Hj,De,hb]
   simp only[execOp,ho,E9,Ij,hagg,De];rfl
  ·have:(s.extract (l.getD 0).toNat (h.getD s.size).toNat).size<=s.size:=by simp[ByteArray.size_extract];omega
   exact GB this g2
 ·rename_i n B rows;split at hK;case h_2=>exact hK.elim
  rename_i e s1 s2 s3 s4 e1;split at hK;case h_2=>exact hK.elim
  rename_i te e2;obtain⟨hn,h0,h1,h2,hK⟩:=hK;refine LOk.pure _ _ hK JX fun g w m' ρ hm hrd hev=>?_;obtain⟨u,u1,u2,u3⟩:=aI hT e1 w;obtain rfl:=aR u2;obtain⟨ao,cap,f,hv,q1,q2,q3,q4,q5,q6⟩:=eu (hev _ _ hx).tr_inv;have hb:=dz (P:=P) (w:=w) (isS:=true) (len:=rows.length) (cap:=cap) (dh hev hl) (dh hev hh) h0 h1 h2 q1;generalize hL:l.getD 0=lo' at *
  generalize hH:h.getD (rows.length:Int)=hi' at *
  have hlen:((rows.take hi'.toNat).drop lo'.toNat).length=hi'.toNat-lo'.toNat:=by simp;omega
  have hget:∀(i:Nat)(row:List Tr),((rows.take hi'.toNat).drop lo'.toNat)[i]?=some row->rows[lo'.toNat+i]?=some row:=fun i row hr=>by
   rw[GA,Ba] at hr;split at hr;·exact hr
   ·cases hr
  have hrun:(Instr.sliceAt t (ρ x) (lo.map ρ) (hi.map ρ) none).run P w=.ok (.slice (if cap=lo'.toNat then ao else ao.map (·.add (lo'.toNat*n))) (hi'.toNat-lo'.toNat) (cap-lo'.toNat)) w:=by simp only[Instr.sliceAt,E9,u1,De,Instr.slice,hv,hb,aW hT e2,hn];simp
  refine⟨.slice (if cap=lo'.toNat then ao else ao.map (·.add (lo'.toNat*n))) (hi'.toNat-lo'.toNat) (cap-lo'.toNat),?_,.tr (.lst (fun i j=>f (lo'.toNat+i) j) hlen.symm JQ JQ ?_ (fun e=>?_) (fun i row hr=>?_) (fun i row j tt hr hj=>q6 _ row j tt (hget i row hr) hj))⟩
  ·simp only[execOp,ho,E9,Ij,hrun,De];rfl
  ·have:(hi'.toNat-lo'.toNat)*B<=rows.length*B:=Eb _ JQ;omega
  ·have hao:ao=none:=by
    split at e;·exact e
    ·simpa using e
   have:=q4 hao;omega
  ·obtain⟨r1,b,of,r2,r3,r4⟩:=q5 _ row (hget i row hr);have hi1:lo'.toNat+i<rows.length:=(a9.1 (hget i row hr)).1;refine⟨r1,b,of+lo'.toNat*n,?_,r3,fun j hj=>?_⟩;·rw[GN (JQ:¬ cap=lo'.toNat),r2];simp[cG]
   ·rw[<-r4 j hj];congr 2;rw[Id];omega
 ·rename_i hd len;split at hK;case h_2=>exact hK.elim
  rename_i e s1 s2 s3 s4 b e1 em;cases he:(lk T e).isSome with
  |false=>rw[he] at hK;exact hK.elim
  |true=>
  rw[he,r7] at hK;obtain⟨te,e2⟩:=GV.1 he;obtain⟨h0,h2,hK⟩:=hK;refine LOk.pure _ _ hK (by simpa using em) fun g w m' ρ hm hrd hev=>?_;obtain⟨lc,g1,g2⟩:=hm.blk hd b (hrd (hd,b) JX);obtain⟨u,u1,u2,u3⟩:=aI hT e1 w;obtain rfl:=aR u2;have hlo:=dh hev hl;have hlo0:lo=none:=by
   rcases hlo with⟨h,_⟩|⟨_,_,_,_,h,_⟩
   ·exact h
   ·cases h
  subst hlo0;have hcap:∀cap,len<=cap->(Instr.sliceBounds true len cap ((none:Option Operand).map ρ) (hi.map ρ) none).run P w=.ok (0,(h.getD len).toNat,cap) w:=fun cap hc=>
   dz (P:=P) (w:=w) (isS:=true) (len:=len) (cap:=cap) (l:=none) (.inl ⟨rfl,rfl⟩) (dh hev hh) (Hd _) h0 h2 hc
  have hrun:∀(ao:Option Addr)(cap:Nat),ρ x=.slice ao len cap->len<=cap->(∀b,ao=some b->b.spot=none)->(execOp ρ o).run P w=.ok (.value (.slice ao (h.getD len).toNat cap)) w:=fun ao cap hv hc hsp=>by
   have:(Instr.sliceAt t (ρ x) ((none:Option Operand).map ρ) (hi.map ρ) none).run P w=.ok (.slice ao (h.getD len).toNat cap) w:=by simp only[Instr.sliceAt,E9,u1,De,Instr.slice,hv,hcap cap hc,aW hT e2];cases ao<;>simp[Addr.add]
   simp only[execOp,ho,E9,Ij] at this |-
   simp only[this,De];rfl
  rcases(hev _ _ hx).sl_inv g1 with⟨b',cap,rfl,hle,hv⟩|⟨rfl,rfl,hv⟩
  ·exact⟨_,hrun _ _ hv hle (fun b e=>by cases e;rfl),.sl g1 JQ⟩
  ·have h00:(h.getD ((0:Nat):Int)).toNat=0:=JQ;refine⟨_,hrun _ _ hv (t9 _) JX,?_⟩;rw[h00];exact .slN g1
 ·split at hK;case h_2=>exact hK.elim
  rename_i e s1 s2 s3 s4 e1;cases he:(lk T e).isSome with
  |false=>rw[he] at hK;exact hK.elim
  |true=>
  rw[he,r7] at hK;obtain⟨te,e2⟩:=GV.1 he;obtain⟨h0,h1,h2,hK⟩:=hK;refine LOk.pure _ _ hK JX fun g w m' ρ hm hrd hev=>?_;obtain⟨u,u1,u2,u3⟩:=aI hT e1 w;obtain rfl:=aR u2;obtain⟨hv,hg⟩:=al (hev _ _ hx);have hb:=dz (P:=P) (w:=w) (isS:=true) (len:=0) (cap:=0) (dh hev hl) (dh hev hh) h0 h1 h2 (t9 _);have hl0:(l.getD 0).toNat=0:=JQ;have hh0:(h.getD ((0:Nat):Int)).toNat=0:=by show(h.getD 0).toNat=0;omega
  rw[hl0,hh0] at hb;refine⟨.slice none 0 0,?_,.tr (.v hg)⟩;have hrun:(Instr.sliceAt t (ρ x) (lo.map ρ) (hi.map ρ) none).run P w=.ok (.slice none 0 0) w:=by simp only[Instr.sliceAt,E9,u1,De,Instr.slice,hv,hb,aW hT e2];simp
  simp only[execOp,ho,E9,Ij,hrun,De];rfl
 ·exact hK.elim
theorem vi(hT:TOk P T)(h:aop T m nh ev K o.op):LOk P o m nh ev K:=by
 generalize hop:o.op=op at h;unfold aop at h;split at h
 ·split at h;·rename_i e;exact l_move (.inl hop) e h
  ·exact h.elim
 ·split at h;·rename_i e;exact l_move (.inr hop) e h
  ·exact h.elim
 ·split at h;·rename_i b e;exact l_pick hop e h
  ·exact h.elim
 ·split at h
  ·rename_i i e;cases hr:rowTy T i with
   |false=>rw[hr] at h;exact w8 hT hop e h
   |true=>
    rw[hr,r7] at h;unfold rowTy at hr;simp only[t4] at hr;rcases h with h|h
    ·exact w8 hT hop e h
    ·exact zO hT hop e (oo hr.1.2) h
  ·exact h.elim
 ·
  split at h;case h_2=>exact h.elim
  rename_i a e;split at h;case h_2=>exact h.elim
  rename_i cs e2;cases hc:cs.all AV.one with
  |false=>rw[hc] at h;exact h.elim
  |true=>
   rw[hc,r7] at h;split at h
   ·rename_i i e3;cases hr:rowTy T i with
    |false=>rw[hr] at h;exact CL hop e e2 hc h
    |true=>
     rw[hr,r7] at h;unfold rowTy at hr;simp only[t4] at hr;rcases h with h|h
     ·exact CL hop e e2 hc h
     ·split at h
      ·rename_i e4;exact D5 hT hop e e2 hc e3 (oo hr.1.2) h.1 e4 h.2
      ·exact h.elim
   ·exact CL hop e e2 hc h
 ·
  split at h
  ·rename_i fs s1 s2 z s4 e;cases hc:fs.all (fun p=>(lk T p.1).isSome) with
   |false=>rw[hc] at h;exact h.elim
   |true=>
    rw[hc,r7] at h;split at h;·rename_i l e2;exact l_buildS hT hop e hc e2 h
    ·exact h.elim
  ·rename_i n e s1 s2 z s4 e1;split at h;case h_2=>exact h.elim
   rename_i te e2;split at h;·rename_i l e3;exact l_buildA hT hop e1 e2 e3 h
   ·exact h.elim
  ·exact h.elim
 ·
  rename_i t len ps;split at h;case h_2=>exact h.elim
  rename_i e s1 s2 z s4 e1;split at h;case h_2=>exact h.elim
  rename_i te e2;split at h
  ·rename_i rows e3;cases hc:(Nat.beq rows.length len&&Nat.ble 0 len&&Nat.ble 1 te.size&&Nat.ble (len*te.size) 16777216&&Nat.ble (len*te.bytes) 140737488351232) with
   |false=>rw[hc] at h;exact h.elim
   |true=>
    rw[hc,r7] at h;simp only[t4] at hc;exact nv hT hop e1 e2 e3 (xx hc.1.1.1.1) (oo hc.1.1.2) (oo hc.1.2) (oo hc.2) h
  ·split at h
   case h_2=>
    split at h
    case h_1=>
     rename_i hh f cs e3;cases hc:(Nat.beq len 1&&Nat.beq te.size 1&&Nat.ble te.bytes 140737488351232) with
     |false=>rw[hc] at h;exact h.elim
     |true=>
      rw[hc,r7] at h;simp only[t4] at hc;exact mj hT hop e1 e2 e3 (xx hc.1.1) (xx hc.1.2) (oo hc.2) h
    split at h;case h_2=>exact h.elim
    rename_i l e3;cases hc:(Nat.beq l.length len&&Nat.ble 1 len&&Nat.beq te.size 1&&Nat.ble len 16777216&&Nat.ble (len*te.bytes) 140737488351232) with
    |false=>rw[hc] at h;exact h.elim
    |true=>
     rw[hc,r7] at h;simp only[t4] at hc;exact lW hT hop e1 e2 e3 (xx hc.1.1.1.1) (xx hc.1.1.2) (oo hc.1.2) (oo hc.2) (oo hc.1.1.1.2) h
   rename_i rows ln e3;cases hc:(Nat.beq rows.length len&&Nat.ble 1 len&&Nat.ble 1 te.size&&Nat.ble (len*te.size) 16777216&&Nat.ble (len*te.bytes) 140737488351232) with
   |false=>rw[hc] at h;exact h.elim
   |true=>
    rw[hc,r7] at h;simp only[t4] at hc;exact mz hT hop e1 e2 e3 (xx hc.1.1.1.1) (oo hc.1.1.2) (oo hc.1.2) (oo hc.2) (oo hc.1.1.1.2) h
 ·split at h;·rename_i e;exact l_loadF hT hop e h
  ·exact h.elim
 ·split at h;·rename_i e1 e2;exact l_storeO hT hop e1 e2 h
  ·exact h.elim
 ·split at h;·rename_i e;exact l_fieldAddr hT hop e h
  ·exact h.elim
 ·split at h;·rename_i e;exact l_field hT hop e h
  ·exact h.elim
 ·split at h
  ·rename_i a b e1 e2;split at h
   ·rename_i z e3;obtain⟨k,rfl⟩:=dM e3;exact oa hT hop e1 e2 h
   ·exact h.elim
  ·exact h.elim
 ·split at h
  ·rename_i a b e1 e2;split at h
   ·rename_i z e3;obtain⟨k,rfl⟩:=dM e3;exact Cd hT hop e1 e2 h
   ·exact h.elim
  ·exact h.elim
 ·split at h
  ·rename_i a b e1 e2;split at h
   ·rename_i e3;split at h;·exact AI hT hop e1 e2 e3 (.inl JY) h
    ·exact AI hT hop e1 e2 e3 (.inr JY) h
    ·exact h.elim
   ·split at h;·rename_i c v e3;exact l_binOp hT hop e1 e2 e3 h
    ·exact h.elim
  ·rename_i e1 e2;split at h;·rename_i e3 e4;exact l_ptrNil hT hop e1 e2 e3 e4 (.inl ⟨rfl,rfl⟩) h
   ·rename_i e3 e4;exact l_ptrNil hT hop e1 e2 e3 e4 (.inr ⟨rfl,rfl⟩) h
   ·exact h.elim
  ·rename_i e1 e2;split at h;·rename_i e3;exact l_lstNil hT hop e1 e2 e3 h.1 (.inl ⟨rfl,rfl⟩) h.2
   ·rename_i e3;exact l_lstNil hT hop e1 e2 e3 h.1 (.inr ⟨rfl,rfl⟩) h.2
   ·exact h.elim
  ·rename_i l l' e1 e2;split at h;·rename_i b e3;exact l_eqS hT hop e1 e2 e3 (.inl ⟨rfl,rfl⟩) h
   ·rename_i b e3;exact l_eqS hT hop e1 e2 e3 (.inr ⟨rfl,rfl⟩) h
   ·exact h.elim
  ·rename_i t' _ e1 e2;cases hlt:Nat.blt t' HMod with
   |false=>rw[hlt] at h;exact h.elim
   |true=>
    rw[hlt,r7] at h
    replace hlt:=oo hlt
    split at h;·rename_i e3;exact l_eqNil hT hlt hop e1 e2 e3 (.inl ⟨rfl,rfl⟩) h
    ·rename_i e3;exact l_eqNil hT hlt hop e1 e2 e3 (.inr ⟨rfl,rfl⟩) h
    ·exact h.elim
  ·rename_i e1 e2;split at h;·rename_i e3;exact l_fnNil hT hop e1 e2 e3 (.inl ⟨rfl,rfl⟩) h
   ·rename_i e3;exact l_fnNil hT hop e1 e2 e3 (.inr ⟨rfl,rfl⟩) h
   ·exact h.elim
  ·exact h.elim
 ·
  rename_i x xt t;split at h
  ·rename_i t' a d e1 e2;cases hc:(Nat.beq t' t && !d.isIface&&Nat.blt t HMod) with
   |false=>rw[hc] at h;exact h.elim
   |true=>
    rw[hc,r7] at h;simp only[t4] at hc;have:=xx hc.1.1;subst this;exact nq hT (oo hc.2) hop e1 e2 (fun hd=>by rw[hd] at hc;exact absurd hc.1.2 (by simp[D.isIface])) h
  ·exact h.elim
 ·
  split at h
  ·split at h
   ·split at h;·exact tq hop h
    ·exact vF hop h
   ·exact h.elim
  ·exact h.elim
 ·split at h;·rename_i e1 e2;exact l_lookup hT hop e1 e2 h
  ·exact h.elim
 ·split at h;·rename_i e1 e2 e3;exact l_mapUpdate hT (.inl hop) e1 e2 e3 h
  ·exact h.elim
 ·split at h;·rename_i e1 e2 e3;exact l_mapUpdate hT (.inr hop) e1 e2 e3 h
  ·exact h.elim
 ·split at h
  ·rename_i a b e1 e2;split at h
   ·rename_i l c e3 e4;obtain⟨k,rfl⟩:=dM e3;obtain⟨k',rfl⟩:=dM e4;exact pb hT hop e1 e2 h
   ·exact h.elim
  ·exact h.elim
 ·split at h
  ·rename_i a e1;split at h;·rename_i v e2;exact l_unOp hop e1 e2 h
   ·exact h.elim
  ·exact h.elim
 ·split at h;·rename_i e1 e2 e3;exact l_convI hT hop e1 e2 e3 h
  ·rename_i e1 e2 e3;exact l_convS hT hop e1 e2 e3 h
  ·rename_i e1 e2 e3;split at h;case h_2=>exact h.elim
   exact h.elim
  ·exact h.elim
 ·split at h
  ·rename_i l e1;split at h;·rename_i a e2;exact l_extract hop e1 e2 h
   ·exact h.elim
  ·exact h.elim
 ·split at h;·exact h.elim
  ·rename_i t x _ _ _ i hne e1 e2;cases hlt:Nat.blt t HMod with
   |false=>rw[hlt] at h;exact h.elim
   |true=>
   rw[hlt,r7] at h;refine jY hT (oo hlt) e2 (fun hd=>?_) hop e1 h;obtain⟨d,a,b,c,q⟩:=i;simp only at hd;subst hd;exact hne _ _ _ _ rfl
  ·exact h.elim
 ·rename_i f fs cs;cases hc:Nat.beq fs.size 0 with
  |false=>
   rw[hc,lh] at h;split at h
   ·rename_i x;split at h
    ·rename_i a e;cases hlt:Nat.blt f HMod with
     |false=>rw[hlt] at h;exact h.elim
     |true=>
      rw[hlt,r7] at h;exact pQ (oo hlt) hop e h
    ·exact h.elim
   ·exact h.elim
  |true=>
   rw[hc,r7] at h;split at h;·rename_i l e;exact l_makeFunc hop (xx hc) e h
   ·exact h.elim
 ·split at h;·rename_i e1 e2 e3;exact l_slice hT hop e1 e2 e3 h
  ·exact h.elim
 ·
  split at h
  ·rename_i e1 e2 e3;split at h
   ·rename_i h1 h2;obtain⟨k1,rfl⟩:=dM h1;obtain⟨k2,rfl⟩:=dM h2;exact zC hT hop e1 e2 e3 h
   ·exact h.elim
  ·exact h.elim
 ·split at h
  ·rename_i hd off e1;split at h;·rename_i b e2;exact l_nilCheckP hop e1 e2 h
   ·exact h.elim
  ·rename_i hd n i off e1;split at h;·rename_i b e2;exact l_nilCheckV hop e1 e2 h
   ·exact h.elim
  ·rename_i e1;exact l_nilCheckE hop e1 h
  ·rename_i e1;exact l_nilCheckF hop e1 h
  ·exact h.elim
 ·split at h;·rename_i e1;exact l_len hT hop e1 h
  ·exact h.elim
 ·rename_i x y t t';cases hc:Nat.beq t t' with
  |false=>
   rw[hc,lh] at h;split at h;·rename_i e1 e2;exact l_appendS hT hop e1 e2 h
   ·rename_i e1 e2;exact l_appendZ hT hop e1 e2 h
   ·exact h.elim
  |true=>
   have:=xx hc;subst this;rw[hc,r7] at h;split at h;·rename_i e1 e2;exact l_appendG hT hop e1 e2 h
   ·exact h.elim
 ·split at h;·rename_i e1 e2;exact l_copy hT hop e1 e2 h
  ·exact h.elim
 ·split at h
  ·rename_i k a k' b e1 e2;split at h;·rename_i hk;subst hk;exact l_min hop e1 e2 h
   ·exact h.elim
  ·exact h.elim
 ·split at h
  ·rename_i k a k' b e1 e2;split at h;·rename_i hk;subst hk;exact l_max hop e1 e2 h
   ·exact h.elim
  ·exact h.elim
 ·split at h;·rename_i e1 e2;exact l_capN hT hop e1 e2 h
  ·exact h.elim
 ·split at h
  ·rename_i e1 e2;split at h;·rename_i e3;exact l_range hT hop e1 e2 e3 h
   ·exact h.elim
  ·exact h.elim
 ·split at h
  ·rename_i e1;split at h
   ·rename_i e2;split at h
    ·rename_i e3;obtain⟨h1,s,i,h2,k,t,h3,h4,hK⟩:=h;exact BG hop e1 e2 e3 h1 h2 h3 h4 hK
    ·exact h.elim
   ·exact h.elim
  ·exact h.elim
 ·exact h.elim
end
end Go.Proofs.YtapmdfcmpglieaaGreatDoor.am
