/- The abstract machine: append over slices of one's own that have slices within. The abstract machine: bytes: a string appended to a slice of bytes; -/
import Derived.Test.YtbflekglkkdipaaGreatDoorW2
import Derived.Lib.AppendStr
import Derived.Lib.ConvBytes
import Derived.Laws.BytesArg
import Derived.Lib.AppendZeros
import Derived.Maps.RangeRun
set_option linter.all false
namespace Go.Proofs.YtbflekglkkdipaaGreatDoor.am
open Go
set_option linter.unusedSimpArgs false
set_option linter.unusedVariables false
def gpack (g:Gh) (h c:Nat):Gh:=⟨fun k=>if k=c then .dead else g k,g.X,[],fun k b=>g.F k b∨(k=h∧Owns g c b)⟩
section
variable {g:Gh} {w:World} {m:Mem} {h c:Nat}
theorem gpack_ne {k:Nat} (hk:k≠c):gpack g h c k=g k:=by simp [gpack,hk]
theorem gpack_F {k:Nat} (hk:k≠h):(gpack g h c).F k=g.F k:=by funext b; simp [gpack,hk]
theorem gpack_owns {k b:Nat} (ho:Owns (gpack g h c) k b):k≠c∧(Owns g k b∨(k=h∧Owns g c b)):=by
 obtain ⟨l,e1,e2⟩:=ho
 change (if k=c then HS.dead else g k) = .live l at e1
 split at e1
 ·cases e1
 ·rename_i hk
  refine ⟨hk,?_⟩
  rcases e2 with e2 | e2 | e2
  ·exact .inl ⟨l,e1,.inl e2⟩
  ·exact .inl ⟨l,e1,.inr e2⟩
  ·exact .inr e2
theorem grow_pack {l:Loc} (hc:g c = .live l):Grow g w (gpack g h c) w:=by
 refine ⟨rfl,rfl,rfl,Nat.le_refl _,fun _ _=>rfl,fun _ _=>rfl,rfl,fun k hk => ?_,fun k lx hk => ?_,fun k b hk => ?_⟩
 ·by_cases e:k=c
  ·subst e; simp [gpack]
  ·rw [gpack_ne e]; exact hk
 ·by_cases e:k=c
  ·subst e
   have:gpack g h k k = .dead:=by simp [gpack]
   rw [this] at hk; cases hk
  ·rw [gpack_ne e] at hk; exact .inl hk
 ·rcases (gpack_owns hk).2 with q | ⟨_,q⟩
  ·exact .inl ⟨k,q⟩
  ·exact .inl ⟨c,q⟩
theorem BRep.monoF {l:Loc} {F F':Nat→Prop} {b:Blk} (hb:BRep g w l F b) (hF : ∀ k,F k→F' k):BRep g w l F' b:=by
 cases b with
 | cells t as=>exact hb
 | vec e n B rows=>exact hb
 | map kd es=>exact hb
 | itr h0 n seen=>exact hb
 | fns e B h0 fs=>exact hb
 | own n B rows ln =>
  obtain ⟨hB,hn,hv⟩:=hb
  refine ⟨hB,hn,?_⟩
  rcases hv with hv | ⟨k,cap,cur,e,Fs,rfl,e1,e2,e3,e4,e5,e6,e7,e8⟩
  ·exact .inl hv
  ·exact .inr ⟨k,cap,cur,e,Fs,rfl,e1,e2,e3,e4,e5,fun i j c h=>⟨hF c (e6 i j c h).1,(e6 i j c h).2⟩,e7,e8⟩
theorem mst_absorb {l l2:Loc} (hm:MSt g w m) (hh:g h = .live l) (hc:g c = .live l2) (hne:h≠c):MSt (gpack g h c) w (updM m [(c,none)]):=by
 have hg:=grow_pack (w:=w) (h:=h) hc
 refine ⟨fun k b hb => ?_,fun k k' b e1 e2 => ?_,fun k b e1 => ?_,hm.xlt,fun k b e1 => ?_,hm.gl.grow hg⟩
 ·by_cases e:c=k
  ·subst e; simp [updM,lk] at hb
  ·have e':Nat.beq c k=false:=beq_ne e
   have hb':m k=some b:=by simpa [updM,lk,e'] using hb
   obtain ⟨l1,e1,e2⟩:=hm.blk k b hb'
   refine ⟨l1,by rw [gpack_ne (fun q=>e q.symm),e1],BRep.monoF (e2.grow hg fun k hk=>rfl) fun x hx => .inl hx⟩
 ·obtain ⟨q1,q2⟩:=gpack_owns e1
  obtain ⟨q3,q4⟩:=gpack_owns e2
  rcases q2 with q2 | ⟨q2,q5⟩ <;> rcases q4 with q4 | ⟨q4,q6⟩
  ·exact hm.inj k k' b q2 q4
  ·exact absurd (hm.inj k c b q2 q6) q1
  ·exact absurd (hm.inj k' c b q4 q5) q3
  ·rw [q2,q4]
 ·rcases (gpack_owns e1).2 with q | ⟨_,q⟩
  ·exact hm.lt k b q
  ·exact hm.lt c b q
 ·rcases (gpack_owns e1).2 with q | ⟨_,q⟩
  ·exact hm.xl k b q
  ·exact hm.xl c b q
theorem asO_rep {l:Loc} {F:Nat→Prop} {b:Blk} {n B:Nat} {rows:List (List Tr)} {ln:List ((Nat × Nat) × (Nat × Nat))} {fl:Bool} (hb:BRep g w l F b) (ha:b.asO=some (n,B,rows,ln,fl)) (hl:leafC fl rows):BRep g w l F (.own n B rows ln):=by
 unfold Blk.asO at ha
 split at ha
 ·cases ha; exact hb
 ·cases ha
  obtain ⟨hB,hn,hv⟩:=hb
  refine ⟨hB,hn,?_⟩
  rcases hv with hv | ⟨k,cap,cur,rfl,e1,e2,e3,e4,e5,e6⟩
  ·exact .inl hv
  ·refine .inr ⟨k,cap,cur,_,fun _ _ _=>False,rfl,e1,e2,e3,e4,e5,fun _ _ _ h=>h.elim,fun _ _ _ _ _ h=>h.elim,fun i j row t c q1 q2 q3=>⟨fun _ => ?_,fun _ _ q=>by cases q⟩⟩
   obtain ⟨c',c1,c2⟩:=vec_row e5 e6 q1 q2
   rw [q3] at c1; cases c1
   obtain ⟨x,rfl⟩:=hl row (List.mem_of_getElem? q1) t (List.mem_of_getElem? q2)
   cases c2 with
   | v hx=>exact RepO.v hx
 ·cases ha
end
theorem lnk_shift (k:Nat) : ∀ (ln:List ((Nat × Nat) × (Nat × Nat))) (i j:Nat),(i<k→lnk (lnShift k ln) i j=none)∧lnk (lnShift k ln) (k+i) j=lnk ln i j
 | [],i,j=>⟨fun _=>rfl,rfl⟩
 | ((a,b),x)::r,i,j=>by
  obtain ⟨h1,h2⟩:=lnk_shift k r i j
  refine ⟨fun h => ?_,?_⟩
  ·show lnk (((k+a,b),x)::lnShift k r) i j=none
   rw [lnk_cons,if_neg (by omega),h1 h]
  ·show lnk (((k+a,b),x)::lnShift k r) (k+i) j=_
   rw [lnk_cons,lnk_cons,h2]
   by_cases q:a=i∧b=j
   ·rw [if_pos q,if_pos (by omega)]
   ·rw [if_neg q,if_neg (by omega)]
theorem lnk_lt {k:Nat} : ∀ {ln:List ((Nat × Nat) × (Nat × Nat))},lnLt k ln → ∀ i j,k≤i→lnk ln i j=none
 | [],_,i,j,_=>rfl
 | ((a,b),x)::r,h,i,j,hi=>by
  have h1:a<k:=h.1
  rw [lnk_cons,if_neg (by omega),lnk_lt h.2 i j hi]
section
variable {P:Program} {T:Ty}
theorem append_any0 (hT:TOk P T) {w:World} {t e ty:Nat} {te:TyI} {a b:Nat} {z:List Z} {q:Bool} (ht:lk T t=some ⟨.slice e,a,b,z,q⟩) (he:lk T e=some te) (hn:1≤te.size)
  {b2 o2 mm c:Nat} {cl:List Value} (hl:cl.length=mm*te.size) (hmm:1≤mm)
  (hc : ∀ (j:Nat) (u:Value),cl[j]? = some u→w.cell? ⟨b2,o2+j,none⟩=some u) (h1 : ∀ u ∈ cl,u.oneCell'=true) (h63:mm≤9223372036854775807) (hB:mm*te.bytes≤150000000000000) (row:Option Nat) :
  ∃ w' k' cap' cur' e',(Builtin.append_ #[t,t] ty #[.slice none 0 0,.slice (some ⟨b2,o2,none⟩) mm c]).run P w = .ok (.slice (some ⟨k',0,none⟩) mm cap') w'∧w.grownBy w' row ∧
   w'.heap[k']? = some (.cells cur' e' (0,0))∧mm≤cap'∧cap'≤9223372036854775807∧cur'.size=cap'*te.size∧(∀ (j:Nat) (u:Value),cl[j]? = some u→cur'[j]? = some u)∧k'=w.heap.size:=by
 obtain ⟨v',w',r1,r2,r3,r4⟩:=append_own (ty:=ty) hT (g:=⟨fun _ => .un,fun _=>False,[],fun _ _=>False⟩) ht he hn (World.ownsRow_nil w 0 e te.size) (ao:=some ⟨b2,o2,none⟩) (mm:=mm) (c:=c) hl (fun j u hj=>⟨b2,o2,rfl,hc j u hj⟩) h1 (by omega) (by rw [Nat.zero_add]; exact hB)
 rw [Nat.zero_add,List.nil_append] at r2
 obtain ⟨_,⟨rfl,rn⟩ | ⟨k,cap,cur,rfl,_,k1,k2,k3,k4,k5⟩⟩:=r2
 ·omega
 ·have hk:k=w.heap.size:=by
   rcases r4 with r4 | r4
   ·simp [Value.ownBlock] at r4
   ·simpa [Value.ownBlock] using r4
  refine ⟨w',k,cap,cur,e,r1,⟨r3.os,r3.tape,r3.output,r3.size,fun i hi _=>r3.block i hi (by simp [Value.ownBlock])⟩,k1,k2,by simpa [maxLen] using k3,k4,fun j u hj => ?_,hk⟩
  rw [← k5,List.getElem?_take] at hj
  split at hj
  ·simpa using hj
  ·cases hj
end
section
variable {P:Program} {T:Ty} {o:Oper} {m:Mem} {nh:Nat} {ev:Operand→Option AV} {K:KK}
theorem mO_inv {h:Nat} {b:Blk} {x:Nat × Nat × List (List Tr) × List ((Nat × Nat) × (Nat × Nat)) × Bool} (hm:mO m h=some (b,x)):m h=some b∧b.asO=some x:=by
 unfold mO at hm
 split at hm
 ·rename_i b0 e0
  split at hm
  ·rename_i x0 e1
   cases hm
   exact ⟨e0,e1⟩
  ·cases hm
 ·cases hm
theorem own_row {g:Gh} {w:World} {h len n B:Nat} {rows:List (List Tr)} {ln:List ((Nat × Nat) × (Nat × Nat))} {l:Loc} {v:Value} (g1:g h = .live l) (hb:BRep g w l (g.F h) (.own n B rows ln)) (hv:Rep g w v (.sl h len)) (hl:len=rows.length) (h1:1≤len) :
  ∃ b cap cur e,∃ Fs:Nat→Nat→Nat→Prop,l = .row b cap∧v = .slice (some ⟨b,0,none⟩) len cap∧w.heap[b]? = some (.cells cur e (0,0))∧rows.length≤cap∧cap≤9223372036854775807∧cur.size=cap*n ∧
   (∀ row ∈ rows,row.length=n)∧(∀ i j c,Fs i j c→g.F h c∧c≠b)∧(∀ i j i' j' c,Fs i j c→Fs i' j' c→i=i'∧j=j') ∧
   (∀ (i j:Nat) (row:List Tr) (t:Tr) (c:Value),rows[i]? = some row→row[j]? = some t→cur[i*n+j]? = some c→(lnk ln i j=none→RepO w (Fs i j) c t) ∧ ∀ h len,lnk ln i j=some (h,len)→Rep g w c (.sl h len)):=by
 obtain ⟨hB,hn,hx⟩:=hb
 rcases hx with ⟨_,hr⟩ | ⟨b,cap,cur,e,Fs,rfl,q1,q2,q3,q4,q5,q6,q7,q8⟩
 ·rw [hr] at hl; simp at hl; omega
 ·rcases hv.sl_inv g1 with ⟨b',cap',e0,e1,e2⟩ | ⟨e0,_⟩
  ·cases e0
   exact ⟨b,cap,cur,e,Fs,rfl,e2,q1,q2,q3,q4,q5,q6,q7,q8⟩
  ·cases e0
theorem own_cells {g:Gh} {w:World} {b e n len cap:Nat} {rows:List (List Tr)} {ln:List ((Nat × Nat) × (Nat × Nat))} {cur:Array Value} {Fs:Nat→Nat→Nat→Prop} (hn:0<n) (h1:w.heap[b]? = some (.cells cur e (0,0))) (hcap:rows.length≤cap) (h4:cur.size=cap*n) (h5 : ∀ row ∈ rows,row.length=n)
  (h8 : ∀ (i j:Nat) (row:List Tr) (t:Tr) (c:Value),rows[i]? = some row→row[j]? = some t→cur[i*n+j]? = some c→(lnk ln i j=none→RepO w (Fs i j) c t) ∧ ∀ h len,lnk ln i j=some (h,len)→Rep g w c (.sl h len)) (hl:len=rows.length) :
  ∃ cl:List Value,cl.length=len*n∧(∀ (j:Nat) (u:Value),cl[j]? = some u→w.cell? ⟨b,0+j,none⟩=some u)∧(∀ u ∈ cl,u.oneCell'=true) ∧ ∀ j,j<len*n→cl[j]? = cur[j]? := by
 have hle:len*n≤cap*n:=Nat.mul_le_mul_right _ (by omega)
 refine ⟨cur.toList.take (len*n),by simp; omega,fun j u hj => ?_,fun u hu => ?_,fun j hj=>by rw [List.getElem?_take,if_pos hj,Array.getElem?_toList]⟩
 ·rw [Nat.zero_add,heap_cell h1]
  rw [List.getElem?_take] at hj
  split at hj
  ·simpa using hj
  ·cases hj
 ·obtain ⟨j,hj⟩:=List.mem_iff_getElem?.1 hu
  rw [List.getElem?_take] at hj
  split at hj
  ·rename_i hjl
   have hd:j / n<rows.length:=by rw [← hl]; exact Nat.div_lt_of_lt_mul (by rw [Nat.mul_comm]; exact hjl)
   have hr:rows[j / n]? = some rows[j / n]:=by simp [hd]
   have hrl:=h5 _ (List.mem_of_getElem? hr)
   have hm:=Nat.mod_lt j hn
   have ht:(rows[j / n])[j % n]? = some (rows[j / n])[j % n]:=by simp [hrl,hm]
   have hdm:j / n*n+j % n=j:=by have:=Nat.div_add_mod j n; rw [Nat.mul_comm] at this; exact this
   obtain ⟨u1,u2⟩:=h8 (j / n) (j % n) _ _ u hr ht (by rw [hdm]; simpa using hj)
   cases hlk:lnk ln (j / n) (j % n) with
   | none=>exact (u1 hlk).one
   | some p=>obtain ⟨a,b⟩:=p; exact (u2 a b hlk).one rfl
  ·cases hj
theorem flat_get {n:Nat} (hn:0<n) : ∀ {rows:List (List Tr)},(∀ r ∈ rows,r.length=n) → ∀ {i:Nat} {t:Tr},rows.flatten[i]? = some t → ∃ i1 j1 row,rows[i1]? = some row∧row[j1]? = some t∧i=i1*n+j1
 | [],_,i,t,h=>by simp at h
 | r::rows,hr,i,t,h=>by
  have h0:=hr r (by simp)
  rw [List.flatten_cons] at h
  by_cases hi:i<n
  ·rw [List.getElem?_append_left (by omega)] at h
   exact ⟨0,i,r,rfl,h,by omega⟩
  ·rw [List.getElem?_append_right (by omega),h0] at h
   obtain ⟨i1,j1,row,h1,h2,h3⟩:=flat_get hn (fun r h'=>hr r (by simp [h'])) h
   exact ⟨i1+1,j1,row,by simpa using h1,h2,by rw [Nat.succ_mul]; omega⟩
theorem srcO_ok {g:Gh} {w:World} {m':Mem} (hm:MSt g w m') {h n B len:Nat} {rows:List (List Tr)} (hn:0<n) (em:m' h=some (.own n B rows [])) (hlf:leafR rows) (hl:len=rows.length) {v:Value} (hv:Rep g w v (.sl h len)) :
  (∀ r ∈ rows,r.length=n) ∧ ∃ (ao:Option Addr) (c:Nat) (cl:List Value),v = .slice ao rows.length c∧cl.length=rows.length*n∧(∀ (j:Nat) (u:Value),cl[j]? = some u → ∃ b o,ao=some ⟨b,o,none⟩∧w.cell? ⟨b,o+j,none⟩=some u) ∧
   ∀ (j:Nat) (t:Tr),rows.flatten[j]? = some t → ∃ u,cl[j]? = some u∧RepT (okB g w) w u t:=by
 subst hl
 obtain ⟨l,g1,hB,_,⟨rfl,hr⟩ | ⟨b,cap,cur,e,Fs,rfl,k1,k2,k3,k4,k5,k6,k7,k8⟩⟩:=hm.blk h _ em
 ·subst hr
  rcases hv.sl_inv g1 with ⟨b,cap,e0,_,_⟩ | ⟨_,_,rfl⟩
  ·cases e0
  ·exact ⟨by simp,none,0,[],rfl,by simp,by simp,by simp⟩
 ·rcases hv.sl_inv g1 with ⟨b',cap',e0,hle,rfl⟩ | ⟨e0,_,_⟩
  ·cases e0
   have hsz:rows.length*n≤cur.size:=by rw [k4]; exact Nat.mul_le_mul_right _ k2
   have hcl:(cur.toList.take (rows.length*n)).length=rows.length*n:=by
    have hs2:rows.length*n≤cur.toList.length:=by simpa using hsz
    simp only [List.length_take]
    exact Nat.min_eq_left hs2
   refine ⟨k5,_,_,cur.toList.take (rows.length*n),rfl,hcl,fun j u hj=>⟨b,0,rfl,?_⟩,fun j t hj => ?_⟩
   ·rw [List.getElem?_take] at hj
    split at hj
    ·rw [heap_cell k1,Nat.zero_add]; simpa using hj
    ·cases hj
   ·have hjl:j<rows.length*n:=by
     have:=(List.getElem?_eq_some_iff.1 hj).1
     rwa [len_flat _ k5] at this
    obtain ⟨i1,j1,row,h1,h2,rfl⟩:=flat_get hn k5 hj
    obtain ⟨c,hcur⟩ : ∃ c,cur[i1*n+j1]? = some c:=⟨cur[i1*n+j1]'(by omega),by simp [show i1*n+j1<cur.size by omega]⟩
    obtain ⟨u1,_⟩:=k8 i1 j1 row t c h1 h2 hcur
    obtain ⟨x,rfl⟩:=hlf row (List.mem_of_getElem? h1) t (List.mem_of_getElem? h2)
    refine ⟨c,?_,?_⟩
    ·rw [List.getElem?_take,if_pos hjl,Array.getElem?_toList]; exact hcur
    ·cases u1 rfl with
     | v hg=>exact .v hg
  ·cases e0
theorem l_appendO (hT:TOk P T) {t:Nat} {x y:Operand} {ax ay:AV} (ho:o.op = .call { callee := .builtin .append,args := #[x,y],argTypes := #[t,t] }) (hx:ev x=some ax) (hy:ev y=some ay) (h:aappendO T m nh t ax ay K):LOk P o m nh ev K:=by
 have hrun : ∀ (ρ:Operand→Value) (w w':World) (v:Value),(Builtin.append_ #[t,t] o.type #[ρ x,ρ y]).run P w = .ok v w'→(execOp ρ o).run P w = .ok (.value v) w':=fun ρ w w' v e=>by
  simp [execOp,ho,resolve,invoke,builtin,e]
 unfold aappendO at h
 split at h
 case h_2=>exact l_append hT ho hx hy h
 split at h
 case h_2=>exact h.elim
 rename_i e a0 b0 z0 q0 e1
 split at h
 case h_2=>exact h.elim
 rename_i te h2 len2 e2 ey
 split at h
 case h_2=>exact h.elim
 rename_i b2 n2 B2 rows2 ln2 f2 e3
 obtain ⟨m2,o2⟩:=mO_inv e3
 cases hcond:(Nat.beq n2 te.size && Nat.beq B2 te.bytes && Nat.ble 1 te.size && Nat.ble 1 te.bytes) with
 | false=>rw [hcond] at h; exact h.elim
 | true =>
 rw [hcond,cond_true] at h
 simp only [Bool.and_eq_true] at hcond
 obtain ⟨⟨⟨c1,c2⟩,c3⟩,c4⟩:=hcond
 have c1:=Nat.eq_of_beq_eq_true c1
 have c2:=Nat.eq_of_beq_eq_true c2
 subst c1; subst c2
 have hs1:=Nat.le_of_ble_eq_true c3
 have hb1:=Nat.le_of_ble_eq_true c4
 split at h
 ·
  obtain ⟨hl2,h12,hlf,hK⟩:=h
  refine ⟨_,_,_,hK,fun p hp => ?_,fun p hp => ?_,fun g w m' ρ hm hn hrd hev => ?_⟩
  ·simp at hp; subst hp; exact m2
  ·simp at hp
   rcases hp with rfl | rfl
   ·exact .inl rfl
   ·exact .inr ⟨(h2,b2),by simp,rfl⟩
  obtain ⟨l2,g1,g2⟩:=hm.blk h2 _ (hrd (h2,b2) (by simp))
  have g2:=asO_rep g2 o2 hlf
  have hB2:=g2.1
  obtain ⟨b,cap,cur,e0,Fs,rfl,v1,q1,q2,q3,q4,q5,q6,q7,q8⟩:=own_row g1 g2 (hev _ _ hy) hl2 h12
  obtain ⟨cl,r1,r2,r3,r4⟩:=own_cells (by omega) q1 q2 q4 q5 q8 hl2
  have hv0:ρ x = .slice none 0 0:=(val_inv (hev _ _ hx)).1
  have h63:len2*1≤len2*te.bytes:=Nat.mul_le_mul_left _ hb1
  obtain ⟨w',k',cap',cur',e',s1,s2,s3,s4,s5,s6,s7,rfl⟩:=append_any0 (w:=w) (ty:=o.type) (c:=cap) hT e1 e2 hs1 r1 h12 r2 r3 (by rw [← hl2] at hB2; omega) (by rw [← hl2] at hB2; omega) (some b)
  rw [← v1,← hv0] at s1
  have hnew : ∀ c,(Loc.row w.heap.size cap').b=some c→(Loc.row b cap).b=some c∨w.heap.size≤c:=fun c ec=>by cases ec; exact .inr (Nat.le_refl _)
  have hG:=grow_append hm (l := .row b cap) (l' := .row w.heap.size cap') (hd:=some h2) hn (fun h e=>by cases e; exact g1) s2 (by simp) hnew
  refine ⟨_,w',.inl ⟨_,hrun ρ w w' _ s1,.sl (b:=w.heap.size) (cap:=cap') (gapp_new ..) s4⟩,mst_append (l := .row b cap) (l' := .row w.heap.size cap') (hd:=some h2) hm hn (fun h e=>by cases e; exact g1) s2 (by simp) hnew (fun c ec=>by cases ec; exact (Array.getElem?_eq_some_iff.1 s3).1) ?_,hG,fun k k1 k2 => ?_⟩
  ·refine ⟨hB2,by omega,.inr ⟨w.heap.size,cap',cur',e',Fs,rfl,s3,by omega,s5,s6,q5,fun i j c hc=>⟨.inl ⟨rfl,h2,rfl,(q6 i j c hc).1⟩,fun ec => ?_⟩,q7,fun i j row t c p1 p2 p3 => ?_⟩⟩
   ·have:=hm.lt h2 c ⟨_,g1,.inr (q6 i j c hc).1⟩; omega
   ·have hrl:=q5 row (List.mem_of_getElem? p1)
    have hil:=(List.getElem?_eq_some_iff.1 p1).1
    have hjl:=(List.getElem?_eq_some_iff.1 p2).1
    have hlt:i*te.size+j<len2*te.size:=by
     have:(i+1)*te.size≤len2*te.size:=Nat.mul_le_mul_right _ (by omega)
     rw [Nat.succ_mul] at this; omega
    have hcl:cl[i*te.size+j]? = some (cl[i*te.size+j]'(by rw [r1]; exact hlt)):=by simp [r1,hlt]
    have:=s7 _ _ hcl
    rw [p3] at this
    have hcc:cur[i*te.size+j]? = some c:=by rw [← r4 _ hlt,hcl,this]
    obtain ⟨u1,u2⟩:=q8 i j row t c p1 p2 hcc
    exact ⟨fun hk=>(u1 hk).world fun b' hb'=>s2.block b' (hm.lt h2 b' ⟨_,g1,.inr (q6 i j b' hb').1⟩) fun ee=>(q6 i j b' hb').2 (by cases ee; rfl),fun h' len' hk=>(u2 h' len' hk).grow hG⟩
  ·have:h2≠k:=fun e=>by rw [e] at g1; rw [k2] at g1; cases g1
   rw [gapp_un k1 (by simp [this]),k2]
 ·
  rename_i hh len
  split at h
  case h_2=>exact h.elim
  rename_i b n B rows ln f e4
  obtain ⟨m1,o1⟩:=mO_inv e4
  cases hfl:(f && !f2 && ln2.isEmpty) with
  | true =>
   rw [hfl,cond_true] at h
   obtain ⟨hlf,hl2,h⟩:=h
   simp only [Bool.and_eq_true,Bool.not_eq_true'] at hfl
   obtain ⟨⟨_,hf2⟩,hln⟩:=hfl
   have hln:=List.isEmpty_iff.1 hln
   subst hln
   have hb2:b2 = .own te.size te.bytes rows2 []:=by
    cases b2 <;> first | (cases o2; first | rfl | cases hf2) | cases o2
   subst hb2
   exact l_appX hT ho hx hy e1 e2 hs1 hb1 (by simpa using m2) (fun g w m' v hm hrd hv=>srcO_ok hm (by omega) (hrd (h2,.own te.size te.bytes rows2 []) (by simp)) hlf hl2 hv) h
  | false =>
  rw [hfl,cond_false] at h
  cases hcond:(Nat.beq n te.size && Nat.beq B te.bytes && !Nat.beq hh h2) with
  | false=>rw [hcond] at h; exact h.elim
  | true =>
  rw [hcond,cond_true] at h
  simp only [Bool.and_eq_true,Bool.not_eq_true'] at hcond
  obtain ⟨⟨c1,c2⟩,hne⟩:=hcond
  have c1:=Nat.eq_of_beq_eq_true c1
  have c2:=Nat.eq_of_beq_eq_true c2
  have hne:hh≠h2:=Nat.ne_of_beq_eq_false hne
  subst c1; subst c2
  obtain ⟨hl,hl2,h12,hB,hlf,hlf2,hlt,hK⟩:=h
  refine ⟨_,_,_,hK,fun p hp => ?_,fun p hp => ?_,fun g w m' ρ hm hn hrd hev => ?_⟩
  ·simp at hp
   rcases hp with rfl | rfl
   ·exact m1
   ·exact m2
  ·simp at hp
   rcases hp with rfl | rfl | rfl
   ·exact .inl rfl
   ·exact .inr ⟨(hh,b),by simp,rfl⟩
   ·exact .inr ⟨(h2,b2),by simp,rfl⟩
  obtain ⟨l2,g3,g4⟩:=hm.blk h2 _ (hrd (h2,b2) (by simp))
  have g4:=asO_rep g4 o2 hlf2
  obtain ⟨l1,g1,g2⟩:=hm.blk hh _ (hrd (hh,b) (by simp))
  have g2:=asO_rep g2 o1 hlf
  obtain ⟨kb2,cap2,cur2,e02,Fs2,rfl,v2,q1,q2,q3,q4,q5,q6,q7,q8⟩:=own_row g3 g4 (hev _ _ hy) hl2 h12
  obtain ⟨cl,r1,r2,r3,r4⟩:=own_cells (by omega) q1 q2 q4 q5 q8 hl2
  have hsm:(len+len2)*1≤(len+len2)*te.bytes:=Nat.mul_le_mul_left _ hb1
  obtain ⟨w',k',cap',cur',e',Fs1,s1,s2,s3,s4,s5,s6,s7,hk',hr1,hF1,hI1,hC1⟩ : ∃ w' k' cap' cur' e',∃ Fs1:Nat→Nat→Nat→Prop,(Builtin.append_ #[t,t] o.type #[ρ x,ρ y]).run P w = .ok (.slice (some ⟨k',0,none⟩) (len+len2) cap') w'∧w.grownBy w' l1.b ∧
    w'.heap[k']? = some (.cells cur' e' (0,0))∧len+len2≤cap'∧cap'≤9223372036854775807∧cur'.size=cap'*te.size∧(∀ (j:Nat) (u:Value),cl[j]? = some u→cur'[len*te.size+j]? = some u)∧(l1.b=some k'∨k'=w.heap.size) ∧
    (∀ row ∈ rows,row.length=te.size)∧(∀ i j c,Fs1 i j c→g.F hh c∧l1.b≠some c)∧(∀ i j i' j' c,Fs1 i j c→Fs1 i' j' c→i=i'∧j=j') ∧
    ∀ (i j:Nat) (row:List Tr) (t:Tr) (c:Value),rows[i]? = some row→row[j]? = some t→cur'[i*te.size+j]? = some c→(lnk ln i j=none→RepO w (Fs1 i j) c t) ∧ ∀ h len,lnk ln i j=some (h,len)→Rep g w c (.sl h len):=by
   obtain ⟨_,_,⟨rfl,hr0⟩ | ⟨k,cap,cur,e0,Fs,rfl,p1,p2,p3,p4,p5,p6,p7,p8⟩⟩:=g2
   ·subst hr0
    have hl0:len=0:=by simpa using hl
    subst hl0
    rcases (hev _ _ hx).sl_inv g1 with ⟨_,_,e0,_⟩ | ⟨_,_,ev0⟩
    ·cases e0
    obtain ⟨w',k',cap',cur',e',s1,s2,s3,s4,s5,s6,s7,s8⟩:=append_any0 (w:=w) (ty:=o.type) (c:=cap2) hT e1 e2 hs1 r1 h12 r2 r3 (by omega) (by rw [Nat.zero_add] at hB; omega) none
    refine ⟨w',k',cap',cur',e',fun _ _ _=>False,by rw [v2,ev0,Nat.zero_add]; exact s1,s2,s3,by omega,s5,s6,fun j u hj=>by rw [Nat.zero_mul,Nat.zero_add]; exact s7 j u hj,.inr s8,by simp,fun _ _ _ h=>h.elim,fun _ _ _ _ _ h=>h.elim,fun i j row t c h=>by simp at h⟩
   ·rcases (hev _ _ hx).sl_inv g1 with ⟨_,_,e0,hlc,ev0⟩ | ⟨e0,_⟩
    ·cases e0
     obtain ⟨w',k',cap',cur',e',s1,s2,s3,s4,s5,s6,s7,s8,s9⟩:=append_any (w:=w) (ty:=o.type) (c:=cap2) hT e1 e2 hs1 p1 hlc p3 p4 r1 r2 r3 (by omega) (by omega)
     refine ⟨w',k',cap',cur',e',Fs,by rw [v2,ev0]; exact s1,s2,s3,s4,s5,s6,s8,s9.elim (fun q => .inl (by rw [q]; rfl)) .inr,p5,fun i j c hc=>⟨(p6 i j c hc).1,fun q=>(p6 i j c hc).2 (by cases q; rfl)⟩,p7,fun i j row t c w1 w2 w3 => ?_⟩
     have hrl:=p5 row (List.mem_of_getElem? w1)
     have hil:=(List.getElem?_eq_some_iff.1 w1).1
     have hjl:=(List.getElem?_eq_some_iff.1 w2).1
     have hlt:i*te.size+j<len*te.size:=by
      have:(i+1)*te.size≤len*te.size:=Nat.mul_le_mul_right _ (by omega)
      rw [Nat.succ_mul] at this; omega
     exact p8 i j row t c w1 w2 (by rw [← s7 _ hlt]; exact w3)
    ·cases e0
  have hn2:nh≠h2:=fun e=>by rw [← e,hn] at g3; cases g3
  have hnh:nh≠hh:=fun e=>by rw [← e,hn] at g1; cases g1
  have hm1:=mst_absorb hm g1 g3 hne
  have hG1:=grow_pack (w:=w) (h:=hh) g3
  have hn1:(gpack g hh h2) nh = .un:=by rw [gpack_ne hn2,hn]
  have gl1:(gpack g hh h2) hh = .live l1:=by rw [gpack_ne hne,g1]
  have hnew : ∀ c,(Loc.row k' cap').b=some c→l1.b=some c∨w.heap.size≤c:=fun c ec=>by
   cases ec
   rcases hk' with hk' | hk'
   ·exact .inl hk'
   ·exact .inr (by omega)
  have hG2:=grow_append hm1 (l:=l1) (l' := .row k' cap') (hd:=some hh) hn1 (fun h e=>by cases e; exact gl1) s2 (by simp) hnew
  have hup:updM m' [(nh,some (.own te.size te.bytes (rows++rows2) (lnShift len ln2++ln))),(hh,none),(h2,none)]=updM (updM m' [(h2,none)]) [(nh,some (.own te.size te.bytes (rows++rows2) (lnShift len ln2++ln))),(hh,none)]:=by
   funext k
   simp only [updM,lk]
   cases Nat.beq nh k <;> cases Nat.beq hh k <;> rfl
  have hlr:rows.length≤len:=by omega
  refine ⟨_,w',.inl ⟨_,hrun ρ w w' _ s1,.sl (b:=k') (cap:=cap') (gapp_new ..) s4⟩,?_,hG1.trans hG2,fun k k1 k2 => ?_⟩
  ·rw [hup]
   refine mst_append (l:=l1) (l' := .row k' cap') (hd:=some hh) hm1 hn1 (fun h e=>by cases e; exact gl1) s2 (by simp) hnew (fun c ec=>by cases ec; exact (Array.getElem?_eq_some_iff.1 s3).1) ?_
   have apart : ∀ {c},Owns g hh c→Owns g h2 c→False:=fun {c} a1 a2=>hne (hm.inj hh h2 c a1 a2)
   have hO1 : ∀ {i j c},Fs1 i j c→Owns g hh c:=fun {i j c} hc=>⟨_,g1,.inr (hF1 i j c hc).1⟩
   have hO2 : ∀ {i j c},Fs2 i j c→Owns g h2 c:=fun {i j c} hc=>⟨_,g3,.inr (q6 i j c hc).1⟩
   have hkn : ∀ {c h},Owns g h c→c=k'→l1.b=some c:=fun {c h} ho ec=>by
    rcases hk' with hk' | hk'
    ·rw [ec]; exact hk'
    ·have:=hm.lt h c ho; omega
   have hblk : ∀ {c h},Owns g h c→l1.b≠some c→w'.heap[c]? = w.heap[c]? := fun {c h} ho hc=>s2.block c (hm.lt h c ho) fun ee=>hc ee.symm
   refine ⟨by rw [List.length_append,← hl,← hl2]; exact hB,by omega,.inr ⟨k',cap',cur',e',fun i j c=>if i<len then Fs1 i j c else Fs2 (i - len) j c,rfl,s3,by rw [List.length_append]; omega,s5,s6,fun row hr => ?_,fun i j c hc => ?_,fun i j i' j' c a1 a2 => ?_,fun i j row t c w1 w2 w3 => ?_⟩⟩
   ·rw [List.mem_append] at hr
    rcases hr with hr | hr
    ·exact hr1 row hr
    ·exact q5 row hr
   ·by_cases d1:i<len <;> simp only [if_pos,if_neg,d1,not_false_eq_true] at hc
    ·exact ⟨.inl ⟨rfl,hh,rfl,.inl (hF1 i j c hc).1⟩,fun ec=>(hF1 i j c hc).2 (hkn (hO1 hc) ec)⟩
    ·refine ⟨.inl ⟨rfl,hh,rfl,.inr ⟨rfl,hO2 hc⟩⟩,fun ec => ?_⟩
     exact apart ⟨_,g1,.inl (hkn (hO2 hc) ec)⟩ (hO2 hc)
   ·by_cases d1:i<len <;> by_cases d2:i'<len
    ·simp only [if_pos d1] at a1; simp only [if_pos d2] at a2; exact hI1 i j i' j' c a1 a2
    ·simp only [if_pos d1] at a1; simp only [if_neg d2] at a2; exact (apart (hO1 a1) (hO2 a2)).elim
    ·simp only [if_neg d1] at a1; simp only [if_pos d2] at a2; exact (apart (hO1 a2) (hO2 a1)).elim
    ·simp only [if_neg d1] at a1; simp only [if_neg d2] at a2
     have:=q7 _ _ _ _ c a1 a2
     omega
   ·rw [lnk_append]
    by_cases d1:i<len
    ·rw [List.getElem?_append_left (by omega)] at w1
     rw [(lnk_shift len ln2 i j).1 d1]
     simp only [if_pos d1]
     obtain ⟨u1,u2⟩:=hC1 i j row t c w1 w2 w3
     exact ⟨fun hk=>(u1 hk).world fun b' hb'=>hblk (hO1 hb') (hF1 i j b' hb').2,fun h' len' hk=>(u2 h' len' hk).grow (hG1.trans hG2)⟩
    ·obtain ⟨i2,rfl⟩ : ∃ i2,i=len+i2:=⟨i - len,by omega⟩
     rw [List.getElem?_append_right (by omega),← hl,Nat.add_sub_cancel_left] at w1
     rw [(lnk_shift len ln2 i2 j).2,lnk_lt hlt (len+i2) j (by omega)]
     simp only [if_neg d1,Nat.add_sub_cancel_left]
     have hrl:=q5 row (List.mem_of_getElem? w1)
     have hil:=(List.getElem?_eq_some_iff.1 w1).1
     have hjl:=(List.getElem?_eq_some_iff.1 w2).1
     have hlt2:i2*te.size+j<len2*te.size:=by
      have:(i2+1)*te.size≤len2*te.size:=Nat.mul_le_mul_right _ (by omega)
      rw [Nat.succ_mul] at this; omega
     have hcl:cl[i2*te.size+j]? = some (cl[i2*te.size+j]'(by rw [r1]; exact hlt2)):=by simp [r1,hlt2]
     have:=s7 _ _ hcl
     rw [← Nat.add_assoc,← Nat.add_mul,w3] at this
     have hcc:cur2[i2*te.size+j]? = some c:=by rw [← r4 _ hlt2,hcl,this]
     obtain ⟨u1,u2⟩:=q8 i2 j row t c w1 w2 hcc
     refine ⟨fun hk => ?_,fun h' len' hk => ?_⟩
     ·refine (u1 ?_).world fun b' hb'=>hblk (hO2 hb') fun ee=>apart ⟨_,g1,.inl ee⟩ (hO2 hb')
      cases hz:lnk ln2 i2 j with
      | none=>rfl
      | some p=>rw [hz] at hk; cases hk
     ·refine (u2 h' len' ?_).grow (hG1.trans hG2)
      cases hz:lnk ln2 i2 j with
      | none=>rw [hz] at hk; cases hk
      | some p=>rw [hz] at hk; exact hk
  ·have:hh≠k:=fun e=>by rw [e] at g1; rw [k2] at g1; cases g1
   have h2k:h2≠k:=fun e=>by rw [e] at g3; rw [k2] at g3; cases g3
   rw [gapp_un k1 (by simp [this]),gpack_ne (fun e=>h2k e.symm),k2]
 ·exact h.elim
theorem srcRows_rd {n:Nat} {m:Mem} {y:AV} {news:List (List Tr)} {rd:List (Nat × Blk)} (e3:srcRows n m y=some (news,rd)) : ∀ p ∈ rd,m p.1=some p.2:=by
 unfold srcRows at e3
 split at e3
 ·cases e3; simp
 ·rename_i n' B rows
  cases hbb:Nat.beq n n' with
  | true=>rw [hbb] at e3; cases e3; simp
  | false=>rw [hbb] at e3; cases e3
 ·rename_i hd len
  split at e3
  ·rename_i e' n' B rows em
   cases hbb:(Nat.beq n n' && Nat.ble len rows.length) with
   | true=>rw [hbb] at e3; cases e3; simpa using em
   | false=>rw [hbb] at e3; cases e3
  ·cases e3
 ·cases e3
theorem lst_new {g:Gh} {w w':World} {m:Mem} (hm:MSt g w m) (hw:w.grownBy w' none) {k e n B len cap:Nat} {rows:List (List Tr)} {cur:Array Value} (hk:w.heap.size≤k) (hb:w'.heap[k]? = some (.cells cur e (0,0))) (hcap:rows.length≤cap) (h63:cap≤9223372036854775807) (hB:rows.length*B≤150000000000000) (hl:len=rows.length)
  (hr : ∀ row ∈ rows,row.length=n) (hc : ∀ (i:Nat) (row:List Tr) (j:Nat) (t:Tr),rows[i]? = some row→row[j]? = some t → ∃ c,cur[i*n+j]? = some c∧RepT (okB g w) w c t) :
  Grow g w g w'∧MSt g w' m∧RepT (okB g w') w' (.slice (some ⟨k,0,none⟩) len cap) (.lst n B rows):=by
 have hG:Grow g w g w':=⟨hw.os,hw.tape,hw.output,hw.size,fun b hb=>hw.block b hb.1 (by simp),fun b hb=>hw.block b (hm.xlt b hb) (by simp),rfl,fun _ h=>h,fun _ _ h => .inl h,fun h b e => .inl ⟨h,e⟩⟩
 have hkl:k<w'.heap.size:=(Array.getElem?_eq_some_iff.1 hb).1
 have hok:okB g w' k:=⟨hkl,fun hx=>by have:=hm.xlt k hx; omega,fun h ho=>by have:=hm.lt h k ho; omega⟩
 refine ⟨hG,⟨fun h b e => ?_,hm.inj,fun h b e=>Nat.lt_of_lt_of_le (hm.lt h b e) hw.size,fun b e=>Nat.lt_of_lt_of_le (hm.xlt b e) hw.size,hm.xl,hm.gl.grow hG⟩,?_⟩
 ·obtain ⟨l,e1,e2⟩:=hm.blk h b e
  exact ⟨l,e1,e2.grow hG fun k hk=>hw.block k (hm.lt h k ⟨l,e1,hk⟩) (by simp)⟩
 ·refine .lst (fun i j=>(cur[i*n+j]?).getD default) hl (by omega) h63 (by rw [hl]; exact hB) (fun e=>by cases e) (fun i row hi=>⟨hr row (List.mem_of_getElem? hi),k,0,rfl,hok,fun j hj => ?_⟩) fun i row j t hi hj => ?_
  ·have hrl:=hr row (List.mem_of_getElem? hi)
   obtain ⟨c,c1,_⟩:=hc i row j row[j] hi (by simp [hrl,hj])
   rw [heap_cell hb,Nat.zero_add,c1]; rfl
  ·obtain ⟨c,c1,c2⟩:=hc i row j t hi hj
   show RepT _ _ ((cur[i*n+j]?).getD default) t
   rw [c1]
   exact c2.grow hG
theorem l_appendFB (hT:TOk P T) {t:Nat} {x y:Operand} {ay:AV} {rows news:List (List Tr)} {rd:List (Nat × Blk)} {e a0 b0:Nat} {z0:List Z} {q0:Bool} {te:TyI} (ho:o.op = .call { callee := .builtin .append,args := #[x,y],argTypes := #[t,t] }) (hx:ev x=some (.ful te.size te.bytes rows)) (hy:ev y=some ay)
  (e1:lk T t=some ⟨.slice e,a0,b0,z0,q0⟩) (e2:lk T e=some te) (e3:srcRows te.size m ay=some (news,rd)) (hs1:1≤te.size) (hb1:1≤te.bytes) (hr1:1≤rows.length) (hn1:1≤news.length) (hB:(rows.length+news.length)*te.bytes≤140737488351232)
  (hK:K (.sl nh (rows.length+news.length)) rd [(nh,some (.vec e te.size te.bytes (rows++news)))]):LOk P o m nh ev K:=by
 have hrun : ∀ (ρ:Operand→Value) (w w':World) (v:Value),(Builtin.append_ #[t,t] o.type #[ρ x,ρ y]).run P w = .ok v w'→(execOp ρ o).run P w = .ok (.value v) w':=fun ρ w w' v e=>by
  simp [execOp,ho,resolve,invoke,builtin,e]
 have rdm : ∀ p ∈ rd,m p.1=some p.2:=srcRows_rd e3
 refine ⟨_,_,_,hK,rdm,by simp,fun g w m' ρ hm hn hrd hev => ?_⟩
 obtain ⟨hr,ao,c,cl,q1,q2,q3,q4⟩:=srcRows_ok hm (by omega) e3 (fun p hp=>hrd p hp) (hev _ _ hy)
 have hxv:=hev _ _ hx
 generalize hvx:ρ x=vx at hxv
 obtain ⟨ht,ao0,l0,rfl⟩:RepT (okB g w) w vx (.lst te.size te.bytes rows) ∧ ∃ ao l,vx = .slice ao l l:=by
  cases hxv with
  | ful h1 h2=>exact ⟨h1,h2⟩
 obtain ⟨ao1,cap1,f,hv1,p1,p2,p3,p4,p5,p6⟩:=lst_inv ht
 cases hv1
 have h63:rows.length+news.length≤9223372036854775807:=by
  have:(rows.length+news.length)*1≤(rows.length+news.length)*te.bytes:=Nat.mul_le_mul_left _ hb1
  omega
 obtain ⟨b2,o2,rfl⟩ : ∃ b o,ao=some ⟨b,o,none⟩:=by
  have hpos:0<cl.length:=by rw [q2]; exact Nat.mul_pos (by omega) (by omega)
  obtain ⟨b,o,e,_⟩:=q3 0 cl[0] (by simp)
  exact ⟨b,o,e⟩
 have hcl : ∀ (j:Nat) (u:Value),cl[j]? = some u→w.cell? ⟨b2,o2+j,none⟩=some u:=fun j u hj=>by
  obtain ⟨b,o,e,e'⟩:=q3 j u hj
  cases e; exact e'
 obtain ⟨olds,w1,w2,w3⟩ : ∃ olds:List Value,olds.length=rows.length*te.size∧(∀ (j:Nat) (u:Value),olds[j]? = some u → ∃ b o,ao0=some ⟨b,o,none⟩∧w.cell? ⟨b,o+j,none⟩=some u) ∧
   ∀ (i:Nat) (row:List Tr) (j:Nat) (t:Tr),rows[i]? = some row→row[j]? = some t → ∃ c,olds[i*te.size+j]? = some c∧RepT (okB g w) w c t:=by
  refine ⟨(List.range (rows.length*te.size)).map fun k=>f (k / te.size) (k % te.size),by simp,fun j u hj => ?_,fun i row j t hi hj => ?_⟩
  ·simp only [List.getElem?_map,Option.map_eq_some_iff] at hj
   obtain ⟨k,hk,rfl⟩:=hj
   have hlt:j<rows.length*te.size:=by have:=(List.getElem?_eq_some_iff.1 hk).1; simpa using this
   rw [List.getElem?_range hlt] at hk; cases hk
   have hd:j / te.size<rows.length:=Nat.div_lt_of_lt_mul (by rw [Nat.mul_comm]; exact hlt)
   obtain ⟨_,b,o,e,_,hc⟩:=p5 (j / te.size) rows[j / te.size] (by simp [hd])
   refine ⟨b,o,e,?_⟩
   rw [← hc (j % te.size) (Nat.mod_lt _ (by omega))]
   congr 2
   have:=Nat.div_add_mod j te.size
   rw [Nat.mul_comm] at this; omega
  ·have hrl:=(p5 i row hi).1
   have hil:=(List.getElem?_eq_some_iff.1 hi).1
   have hjl:=(List.getElem?_eq_some_iff.1 hj).1
   have hlt:i*te.size+j<rows.length*te.size:=by
    have:(i+1)*te.size≤rows.length*te.size:=Nat.mul_le_mul_right _ (by omega)
    rw [Nat.succ_mul] at this; omega
   refine ⟨f ((i*te.size+j) / te.size) ((i*te.size+j) % te.size),by simp [List.getElem?_range hlt],?_⟩
   have e1:(i*te.size+j) / te.size=i:=by rw [Nat.mul_comm,Nat.mul_add_div (by omega),Nat.div_eq_of_lt (by omega),Nat.add_zero]
   have e2:(i*te.size+j) % te.size=j:=by rw [Nat.mul_comm,Nat.mul_add_mod,Nat.mod_eq_of_lt (by omega)]
   rw [e1,e2]
   exact p6 i row j t hi hj
 have hrows : ∀ row ∈ rows++news,row.length=te.size:=fun row hrow=>by
  rw [List.mem_append] at hrow
  rcases hrow with hrow | hrow
  ·obtain ⟨i,hi⟩:=List.mem_iff_getElem?.1 hrow
   exact (p5 i row hi).1
  ·exact hr row hrow
 have hao : ∃ ad,ao0=some ad:=by
  cases ao0 with
  | none=>have:=p4 rfl; omega
  | some ad=>exact ⟨ad,rfl⟩
 obtain ⟨ad,rfl⟩:=hao
 obtain ⟨ti,u,zt,_,u2,u3,_⟩:=hT.info e1
 obtain rfl:=D_slice u3
 obtain ⟨ti',u',z',i1,_,_,i4,i5,i6,i7,i8⟩:=hT.info e2
 have hzs:z'.cells.size=te.size:=by rw [(zcells_cells i7).1]; simpa using i8
 obtain ⟨v',w',s1,s2,s3⟩:=run_append_arg_grows (P:=P) w t o.type e ti' z' te.size te.bytes u2 i1 i6 i4 i5 hzs (by omega) ad rows.length rows.length olds w1 (fun j u hj=>by
  obtain ⟨b,of,e,e'⟩:=w2 j u hj
  cases e
  rw [add_mk]; exact e') ⟨b2,o2,none⟩ news.length c cl q2 (fun j u hj=>by rw [add_mk]; exact hcl j u hj) (by omega) (by simpa [maxLen] using h63) (by omega)
 obtain ⟨_,⟨rfl,rn⟩ | ⟨k,cap,cur,rfl,kge,k1,k2,k3,k4,k5⟩⟩:=s2
 ·omega
 have hG:=grow_append hm (l := .nil) (l' := .row k cap) (hd:=none) hn (by simp) s3 (by simp [Loc.b]) (fun b eb => .inr (by cases eb; omega))
 have e1':=hrun ρ w w' _ (show (Builtin.append_ #[t,t] o.type #[ρ x,ρ y]).run P w=_ by rw [hvx,q1]; exact s1)
 refine ⟨_,w',.inl ⟨_,e1',.sl (b:=k) (cap:=cap) (gapp_new ..) k2⟩,mst_append (l := .nil) (l' := .row k cap) (hd:=none) hm hn (by simp) s3 (by simp [Loc.b]) (fun b eb => .inr (by cases eb; omega)) (fun b eb=>by cases eb; exact (Array.getElem?_eq_some_iff.1 k1).1)
  ⟨by rw [List.length_append]; exact (Nat.le_trans hB (by decide)),by omega,.inr ⟨k,cap,cur,rfl,k1,by rw [List.length_append]; exact k2,by simpa [maxLen] using k3,k4,hrows,fun i t hi => ?_⟩⟩,hG,fun h h1 h2=>by rw [gapp_un h1 (by simp),h2]⟩
 have hfl:rows.flatten.length=rows.length*te.size:=len_flat _ (fun r h'=>hrows r (by simp [h']))
 rw [List.flatten_append] at hi
 have : ∃ u,(olds++cl)[i]? = some u∧RepT (okB g w) w u t:=by
  by_cases c1:i<rows.length*te.size
  ·rw [List.getElem?_append_left (by omega)] at hi
   rw [List.getElem?_append_left (by omega)]
   obtain ⟨i1,j1,row,h1,h2,h3⟩:=flat_get (by omega) (fun r h'=>hrows r (by simp [h'])) hi
   rw [h3]
   exact w3 i1 row j1 t h1 h2
  ·rw [List.getElem?_append_right (by omega),hfl] at hi
   rw [List.getElem?_append_right (by omega),w1]
   exact q4 _ t hi
 obtain ⟨u,c1,c2⟩:=this
 refine ⟨u,?_,c2.grow hG⟩
 rw [← k5,List.getElem?_take] at c1
 split at c1
 ·simpa using c1
 ·cases c1
theorem l_appendF (hT:TOk P T) {t:Nat} {x y:Operand} {ax ay:AV} (ho:o.op = .call { callee := .builtin .append,args := #[x,y],argTypes := #[t,t] }) (hx:ev x=some ax) (hy:ev y=some ay) (h:aappendF T m nh t ax ay K):LOk P o m nh ev K:=by
 have hrun : ∀ (ρ:Operand→Value) (w w':World) (v:Value),(Builtin.append_ #[t,t] o.type #[ρ x,ρ y]).run P w = .ok v w'→(execOp ρ o).run P w = .ok (.value v) w':=fun ρ w w' v e=>by
  simp [execOp,ho,resolve,invoke,builtin,e]
 unfold aappendF at h
 split at h
 case h_2=>exact l_appendO hT ho hx hy h
 rename_i n B rows
 split at h
 case h_2=>exact h.elim
 rename_i e a0 b0 z0 q0 e1
 split at h
 case h_2=>exact h.elim
 rename_i te e2
 split at h
 case h_2=>exact h.elim
 rename_i news rd e3
 cases hcond:(Nat.ble 1 te.size && Nat.ble 1 te.bytes) with
 | false=>rw [hcond] at e3; cases e3
 | true =>
 rw [hcond,cond_true] at e3
 simp only [Bool.and_eq_true] at hcond
 have hs1:=Nat.le_of_ble_eq_true hcond.1
 have hb1:=Nat.le_of_ble_eq_true hcond.2
 obtain ⟨rfl,rfl,hB,hK⟩:=h
 cases hbyte:(byteT te && Nat.ble 1 rows.length && Nat.ble 1 news.length) with
 | true =>
  rw [hbyte,cond_true] at hK
  simp only [Bool.and_eq_true] at hbyte
  exact l_appendFB hT ho hx hy e1 e2 e3 hs1 hb1 (Nat.le_of_ble_eq_true hbyte.1.2) (Nat.le_of_ble_eq_true hbyte.2) hB hK
 | false =>
 rw [hbyte,cond_false] at hK
 have rdm : ∀ p ∈ rd,m p.1=some p.2:=srcRows_rd e3
 refine ⟨_,_,_,hK,rdm,fun p hp=>by simp at hp,fun g w m' ρ hm hn hrd hev => ?_⟩
 obtain ⟨hr,ao,c,cl,q1,q2,q3,q4⟩:=srcRows_ok hm (by omega) e3 (fun p hp=>hrd p hp) (hev _ _ hy)
 have hxv:=hev _ _ hx
 generalize hvx:ρ x=vx at hxv
 obtain ⟨ht,ao0,l0,rfl⟩:RepT (okB g w) w vx (.lst te.size te.bytes rows) ∧ ∃ ao l,vx = .slice ao l l:=by
  cases hxv with
  | ful h1 h2=>exact ⟨h1,h2⟩
 obtain ⟨ao1,cap1,f,hv1,p1,p2,p3,p4,p5,p6⟩:=lst_inv ht
 cases hv1
 have h63:rows.length+news.length≤9223372036854775807:=by
  have:(rows.length+news.length)*1≤(rows.length+news.length)*te.bytes:=Nat.mul_le_mul_left _ hb1
  omega
 have hone : ∀ u ∈ cl,u.oneCell'=true:=fun u hu=>by
  obtain ⟨j,hj⟩:=List.mem_iff_getElem?.1 hu
  have hjl:=(List.getElem?_eq_some_iff.1 hj).1
  have hfl:j<news.flatten.length:=by rw [len_flat _ hr,← q2]; exact hjl
  obtain ⟨u',c1,c2⟩:=q4 j news.flatten[j] (by simp [hfl])
  rw [hj] at c1; cases c1
  exact c2.one
 have hup:updM m' []=m':=rfl
 by_cases hm0:news.length=0
 ·have hnil:news=[]:=List.eq_nil_of_length_eq_zero hm0
  subst hnil
  refine ⟨g,w,.inl ⟨.slice ao0 rows.length rows.length,hrun ρ w w _ ?_,?_⟩,hm,Grow.refl _ _,fun _ _ h=>h⟩
  ·obtain ⟨ti,u,zt,_,u2,u3,_⟩:=hT.info e1
   obtain rfl:=D_slice u3
   obtain ⟨ti',u',z',i1,_,_,i4,i5,i6,i7,i8⟩:=hT.info e2
   have:cl=[]:=List.eq_nil_of_length_eq_zero (by simpa using q2)
   subst this
   rw [hvx,q1]
   cases ao <;> cases ao0 <;> simp [Builtin.append_,run_underlying u2,sizeOf,typeInfo,i1,Builtin.lenOf,Builtin.firstCells,loadCells,loadCellsFrom,storeCells]
  ·rw [List.append_nil]; exact .tr ht
 ·obtain ⟨b2,o2,rfl⟩ : ∃ b o,ao=some ⟨b,o,none⟩:=by
   have hpos:0<cl.length:=by rw [q2]; exact Nat.mul_pos (by omega) (by omega)
   obtain ⟨b,o,e,_⟩:=q3 0 cl[0] (by simp)
   exact ⟨b,o,e⟩
  have hcl : ∀ (j:Nat) (u:Value),cl[j]? = some u→w.cell? ⟨b2,o2+j,none⟩=some u:=fun j u hj=>by
   obtain ⟨b,o,e,e'⟩:=q3 j u hj
   cases e; exact e'
  obtain ⟨olds,w1,w2,w3⟩ : ∃ olds:List Value,olds.length=rows.length*te.size∧(∀ (j:Nat) (u:Value),olds[j]? = some u → ∃ b o,ao0=some ⟨b,o,none⟩∧w.cell? ⟨b,o+j,none⟩=some u) ∧
    ∀ (i:Nat) (row:List Tr) (j:Nat) (t:Tr),rows[i]? = some row→row[j]? = some t → ∃ c,olds[i*te.size+j]? = some c∧RepT (okB g w) w c t:=by
   refine ⟨(List.range (rows.length*te.size)).map fun k=>f (k / te.size) (k % te.size),by simp,fun j u hj => ?_,fun i row j t hi hj => ?_⟩
   ·simp only [List.getElem?_map,Option.map_eq_some_iff] at hj
    obtain ⟨k,hk,rfl⟩:=hj
    have hlt:j<rows.length*te.size:=by have:=(List.getElem?_eq_some_iff.1 hk).1; simpa using this
    rw [List.getElem?_range hlt] at hk; cases hk
    have hd:j / te.size<rows.length:=Nat.div_lt_of_lt_mul (by rw [Nat.mul_comm]; exact hlt)
    obtain ⟨_,b,o,e,_,hc⟩:=p5 (j / te.size) rows[j / te.size] (by simp [hd])
    refine ⟨b,o,e,?_⟩
    rw [← hc (j % te.size) (Nat.mod_lt _ (by omega))]
    congr 2
    have:=Nat.div_add_mod j te.size
    rw [Nat.mul_comm] at this; omega
   ·have hrl:=(p5 i row hi).1
    have hil:=(List.getElem?_eq_some_iff.1 hi).1
    have hjl:=(List.getElem?_eq_some_iff.1 hj).1
    have hlt:i*te.size+j<rows.length*te.size:=by
     have:(i+1)*te.size≤rows.length*te.size:=Nat.mul_le_mul_right _ (by omega)
     rw [Nat.succ_mul] at this; omega
    refine ⟨f ((i*te.size+j) / te.size) ((i*te.size+j) % te.size),by simp [List.getElem?_range hlt],?_⟩
    have e1:(i*te.size+j) / te.size=i:=by rw [Nat.mul_comm,Nat.mul_add_div (by omega),Nat.div_eq_of_lt (by omega),Nat.add_zero]
    have e2:(i*te.size+j) % te.size=j:=by rw [Nat.mul_comm,Nat.mul_add_mod,Nat.mod_eq_of_lt (by omega)]
    rw [e1,e2]
    exact p6 i row j t hi hj
  have hnewc : ∀ (i:Nat) (row:List Tr) (j:Nat) (t:Tr),news[i]? = some row→row[j]? = some t → ∃ c,cl[i*te.size+j]? = some c∧RepT (okB g w) w c t:=fun i row j t hi hj=>by
   have : ∀ (i:Nat) (t:Tr),news.flatten[i]? = some t → ∃ c,cl.toArray[i]? = some c∧RepT (okB g w) w c t:=fun i t hi=>by
    obtain ⟨c,c1,c2⟩:=q4 i t hi
    exact ⟨c,by simpa using c1,c2⟩
   obtain ⟨c,c1,c2⟩:=vec_row hr this hi hj
   exact ⟨c,by simpa using c1,c2⟩
  obtain ⟨w',k',cap',cur',e',r1,r2,r3,r4,r5,r6,r7⟩ : ∃ w' k' cap' cur' e',(Builtin.append_ #[t,t] o.type #[.slice ao0 rows.length rows.length,.slice (some ⟨b2,o2,none⟩) news.length c]).run P w = .ok (.slice (some ⟨k',0,none⟩) (rows.length+news.length) cap') w'∧w.grownBy w' none ∧
    w'.heap[k']? = some (.cells cur' e' (0,0))∧rows.length+news.length≤cap'∧cap'≤9223372036854775807∧(∀ (j:Nat) (u:Value),(olds++cl)[j]? = some u→cur'[j]? = some u)∧w.heap.size≤k':=by
   cases ao0 with
   | none =>
    have h0:=p4 rfl
    obtain ⟨w',k',cap',cur',e',s1,s2,s3,s4,s5,s6,s7,s8⟩:=append_any0 (w:=w) (ty:=o.type) (c:=c) hT e1 e2 hs1 q2 (by omega) hcl hone (by omega) (by rw [h0,Nat.zero_add] at hB; omega) none
    have ho0:olds=[]:=List.eq_nil_of_length_eq_zero (by rw [w1,h0,Nat.zero_mul])
    refine ⟨w',k',cap',cur',e',?_,s2,s3,by omega,s5,by rw [ho0]; exact s7,Nat.le_of_eq s8.symm⟩
    rw [h0,Nat.zero_add]; exact s1
   | some ad =>
    obtain ⟨ti,u,zt,_,u2,u3,_⟩:=hT.info e1
    obtain rfl:=D_slice u3
    obtain ⟨ti',u',z',i1,_,_,i4,i5,i6,i7,i8⟩:=hT.info e2
    have hzs:z'.cells.size=te.size:=by rw [(zcells_cells i7).1]; simpa using i8
    obtain ⟨v',w',s1,s2,s3⟩:=run_append_arg_grows (P:=P) w t o.type e ti' z' te.size te.bytes u2 i1 i6 i4 i5 hzs (by omega) ad rows.length rows.length olds w1 (fun j u hj=>by
     obtain ⟨b,of,e,e'⟩:=w2 j u hj
     cases e
     rw [add_mk]; exact e') ⟨b2,o2,none⟩ news.length c cl q2 (fun j u hj=>by rw [add_mk]; exact hcl j u hj) (by omega) (by simpa [maxLen] using h63) (by omega)
    obtain ⟨_,⟨rfl,rn⟩ | ⟨k,cap,cur,rfl,kge,k1,k2,k3,k4,k5⟩⟩:=s2
    ·omega
    ·refine ⟨w',k,cap,cur,e,s1,s3,k1,k2,by simpa [maxLen] using k3,fun j u hj => ?_,kge⟩
     rw [← k5,List.getElem?_take] at hj
     split at hj
     ·simpa using hj
     ·cases hj
  obtain ⟨h1,h2,h3⟩:=lst_new (B:=te.bytes) (rows:=rows++news) (n:=te.size) (len:=rows.length+news.length) hm r2 r7 r3 (by rw [List.length_append]; exact r4) r5 (by rw [List.length_append]; exact (Nat.le_trans hB (by decide))) (by rw [List.length_append]) (fun row hrow=>by
   rw [List.mem_append] at hrow
   rcases hrow with hrow | hrow
   ·obtain ⟨i,hi⟩:=List.mem_iff_getElem?.1 hrow
    exact (p5 i row hi).1
   ·exact hr row hrow) fun i row j t hi hj=>by
    by_cases hd:i<rows.length
    ·rw [List.getElem?_append_left hd] at hi
     obtain ⟨c,c1,c2⟩:=w3 i row j t hi hj
     exact ⟨c,r6 _ _ (by rw [List.getElem?_append_left (List.getElem?_eq_some_iff.1 c1).1]; exact c1),c2⟩
    ·obtain ⟨i2,rfl⟩ : ∃ i2,i=rows.length+i2:=⟨i - rows.length,by omega⟩
     rw [List.getElem?_append_right (by omega),Nat.add_sub_cancel_left] at hi
     obtain ⟨c,c1,c2⟩:=hnewc i2 row j t hi hj
     refine ⟨c,r6 _ _ ?_,c2⟩
     rw [Nat.add_mul,Nat.add_assoc,List.getElem?_append_right (by omega),w1,Nat.add_sub_cancel_left]
     exact c1
  exact ⟨g,w',.inl ⟨_,hrun ρ w w' _ (by rw [hvx,q1]; exact r1),.tr h3⟩,h2,h1,fun _ _ h=>h⟩
end
end Go.Proofs.YtbflekglkkdipaaGreatDoor.am
namespace Go.Proofs.YtbflekglkkdipaaGreatDoor.am
open Go
set_option linter.unusedSimpArgs false
section
variable {P:Program} {T:Ty} {o:Oper} {m:Mem} {nh:Nat} {ev:Operand→Option AV} {K:KK}
theorem zbyte {x:Value} (hx:zcells x (.int .u8)=some [.i .u8]):x = .int .u8 0:=by
 have key : ∀ y:Value,(Z.of y).map (fun q=>[q])=some [Z.i .u8]→y = .int .u8 0:=fun y h=>by
  cases hz:Z.of y with
  | none=>rw [hz] at h; cases h
  | some z =>
   rw [hz] at h
   simp only [Option.map_some,Option.some.injEq,List.cons.injEq,and_true] at h
   subst h
   rw [Z.of_val hz]; rfl
 cases x with
 | agg cs=>cases hx
 | _=>exact key _ hx
theorem append_own_str (hT:TOk P T) {w:World} {t u e ty:Nat} {te tu:TyI} {a b:Nat} {z:List Z} {q:Bool} (ht:lk T t=some ⟨.slice e,a,b,z,q⟩) (hu:lk T u=some tu) (hud:tu.d = .string) (he:lk T e=some te) (hd:te.d = .int .u8) (hsz:te.size=1) (hby:te.bytes=1) (hz0:te.zero=[.i .u8])
  {v:Value} {n:Nat} {xs:List Value} (hown:w.ownsRow 0 e 1 v n xs) (s:ByteArray) (h63:n+s.size≤140737488351232) :
  ∃ v' w',(Builtin.append_ #[t,u] ty #[v,.string s]).run P w = .ok v' w'∧w'.ownsRow 0 e 1 v' (n+s.size) (xs++Lib.strCells s)∧w.grownBy w' v.ownBlock∧(v'.ownBlock=v.ownBlock∨v'.ownBlock=some w.heap.size):=by
 obtain ⟨ti,ud,zt,_,u2,u3,_⟩:=hT.info ht
 obtain rfl:=D_slice u3
 obtain ⟨ti2,ud2,zt2,_,v2,v3,_⟩:=hT.info hu
 rw [hud] at v3
 obtain rfl:=D_string v3
 obtain ⟨ti',u',z',i1,i2,i3,i4,i5,i6,i7,i8⟩:=hT.info he
 have hz:ti'.zero=some (.int .u8 0):=by
  rw [i6]
  rw [hd,hz0] at i7
  rw [zbyte i7]
 have hs1:ti'.size=1:=i4.trans hsz
 have hb1:ti'.bytes=1:=i5.trans hby
 obtain ⟨v',w',r1,r2,r3,_⟩:=Lib.run_append_own_string (P:=P) w 0 t u ty e ti' u2 v2 i1 hz hs1 hb1 v n xs hown s (by simp only [maxLen]; omega) (by omega) (Nat.zero_le _)
 refine ⟨v',w',r1,r2,r3,?_⟩
 rcases hown.2 with ⟨rfl,rfl⟩ | ⟨g,cap,cur,rfl,hbg,hg,hnc,hcm,hcs,htake⟩
 ·by_cases hm:s.size=0
  ·have:=r2.2
   rcases this with ⟨rfl,_⟩ | ⟨g',cap',cur',rfl,_,h1,_⟩
   ·exact .inl rfl
   ·have hl:=r3.size
    have hf:=Lib.run_firstCells_string (P:=P) w 1 s
    rw [hm] at hf
    rw [show (Builtin.append_ #[t,u] ty #[.slice none 0 0,.string s]).run P w = .ok (.slice none 0 0) w by
     simp [Builtin.append_,run_underlying u2,run_underlying v2,sizeOf,typeInfo,i1,hs1,Builtin.lenOf,hm,hf]] at r1
    cases r1
  ·rw [run_append_nil_string (P:=P) w t u ty e ti' (.int .u8 0) u2 v2 i1 hz s (by omega) (by omega) (by rw [hb1]; omega)] at r1
   cases r1
   exact .inr rfl
 ·by_cases hroom:n+s.size≤cap
  ·rw [Lib.run_append_room_string (P:=P) w t u ty e ti' u2 v2 i1 hs1 g n cap cur hg s hroom (by omega)] at r1
   cases r1
   exact .inl rfl
  ·have holds : ∀ j u,xs[j]? = some u→w.cell? ((⟨g,0,none⟩:Addr).add j)=some u:=hown.cells (g:=g) rfl
   rw [Lib.run_append_grow_string (P:=P) w t u ty e ti' (.int .u8 0) u2 v2 i1 hz ⟨g,0,none⟩ n cap xs (by rw [hs1]; simpa using hown.1) holds s (by omega) (by omega) (by rw [hb1]; exact growslice_fits (by omega) (by omega))] at r1
   cases r1
   exact .inr rfl
theorem app_nil {g:Gh} {w:World} {m':Mem} (hm:MSt g w m') (hn:g nh = .un) {e n B:Nat} {news:List (List Tr)} (hn1:1≤n) (hB:news.length*B≤150000000000000) (hr : ∀ r ∈ news,r.length=n) {cl:List Value}
  (q4 : ∀ (j:Nat) (t:Tr),news.flatten[j]? = some t → ∃ u,cl[j]? = some u∧RepT (okB g w) w u t) {run:Sem Next} {v':Value} {w':World} (r1:run.run P w = .ok (.value v') w') (r2:w'.ownsRow 0 e n v' news.length cl) (r3:w.grownBy w' none) (r4:v'.ownBlock=none∨v'.ownBlock=some w.heap.size) :
  LRes P run g w m' nh [(nh,some (.vec e n B news))] (.sl nh news.length):=by
 obtain ⟨_,⟨rfl,rn⟩ | ⟨k,cap,cur,rfl,_,k1,k2,k3,k4,k5⟩⟩:=r2
 ·have hnil:news=[]:=List.eq_nil_of_length_eq_zero rn
  subst hnil
  exact ⟨_,w',.inl ⟨_,r1,.slN (gapp_new ..)⟩,mst_append (l := .nil) (l' := .nil) (hd:=none) hm hn (by simp) r3 (by simp [Loc.b]) (by simp [Loc.b]) (by simp [Loc.b]) ⟨by simp,by omega,.inl ⟨rfl,rfl⟩⟩,grow_append hm (l := .nil) (l' := .nil) (hd:=none) hn (by simp) r3 (by simp [Loc.b]) (by simp [Loc.b]),fun h h1 h2=>by rw [gapp_un h1 (by simp),h2]⟩
 ·have hnew:k=w.heap.size:=by
   rcases r4 with r4 | r4 <;> simp [Value.ownBlock] at r4
   exact r4
  have hG:=grow_append hm (l := .nil) (l' := .row k cap) (hd:=none) hn (by simp) r3 (by simp [Loc.b]) (fun b eb => .inr (by cases eb; omega))
  refine ⟨_,w',.inl ⟨_,r1,.sl (b:=k) (cap:=cap) (gapp_new ..) k2⟩,mst_append (l := .nil) (l' := .row k cap) (hd:=none) hm hn (by simp) r3 (by simp [Loc.b]) (fun b eb => .inr (by cases eb; omega)) (fun b eb=>by cases eb; exact (Array.getElem?_eq_some_iff.1 k1).1)
   ⟨hB,by omega,.inr ⟨k,cap,cur,rfl,k1,k2,by simpa [maxLen] using k3,k4,hr,fun i t hi => ?_⟩⟩,hG,fun h h1 h2=>by rw [gapp_un h1 (by simp),h2]⟩
  obtain ⟨u,c1,c2⟩:=q4 i t hi
  refine ⟨u,?_,c2.grow hG⟩
  rw [← k5,List.getElem?_take] at c1
  split at c1
  ·simpa using c1
  ·cases c1
theorem brow_own {g:Gh} {w:World} {m':Mem} (hm:MSt g w m') {x:Value} {hd len e n B:Nat} {rows:List (List Tr)} (hrd:m' hd=some (.vec e n B rows)) (hx:Rep g w x (.sl hd len)) (hle:len≤rows.length) :
  ∃ l xs,g hd = .live l∧w.ownsRow 0 e n x len xs∧x.ownBlock=l.b∧(∀ r ∈ rows,r.length=n) ∧ ∀ (j:Nat) (t:Tr),(rows.take len).flatten[j]? = some t → ∃ u,xs[j]? = some u∧RepT (okB g w) w u t:=by
 obtain ⟨l,g1,g2⟩:=hm.blk hd _ hrd
 obtain ⟨_,_,⟨rfl,rfl⟩ | ⟨k,cap,cur,rfl,k1,k2,k3,k4,k5,k6⟩⟩:=g2
 ·rcases hx.sl_inv g1 with ⟨b,cap,e0,_,_⟩ | ⟨_,rfl,e5⟩
  ·cases e0
  ·rw [e5]; exact ⟨_,[],g1,World.ownsRow_nil _ _ _ _,rfl,by simp,by simp⟩
 ·rcases hx.sl_inv g1 with ⟨b,cap',e0,e4,e5⟩ | ⟨e0,_⟩
  ·cases e0
   rw [e5]
   have hcs:len*n≤cur.size:=by rw [k4]; exact Nat.mul_le_mul_right _ (by omega)
   refine ⟨_,cur.toList.take (len*n),g1,⟨by simp; omega,.inr ⟨k,cap,cur,rfl,Nat.zero_le _,k1,e4,by simpa [maxLen] using k3,k4,rfl⟩⟩,rfl,k5,fun j t hj => ?_⟩
   have hlt:(rows.take len).length=len:=by rw [List.length_take]; omega
   have hj':j<len*n:=by
    have:=(List.getElem?_eq_some_iff.1 hj).1
    rwa [len_flat _ (fun r hr=>k5 r (List.mem_of_mem_take hr)),hlt] at this
   obtain ⟨u,c1,c2⟩:=k6 j t (by
    rw [← hj]
    conv=>lhs; rw [← List.take_append_drop len rows,List.flatten_append]
    rw [List.getElem?_append_left]
    rw [len_flat _ (fun r hr=>k5 r (List.mem_of_mem_take hr)),hlt]; exact hj')
   exact ⟨u,by rw [List.getElem?_take,if_pos hj']; simpa using c1,c2⟩
  ·cases e0
theorem app_own {g:Gh} {w:World} {m':Mem} (hm:MSt g w m') (hn:g nh = .un) {hd len e n B:Nat} {rows news:List (List Tr)} {l:Loc} (hn1:1≤n) (hrd:m' hd=some (.vec e n B rows)) (g1:g hd = .live l) (hle:len≤rows.length) (hB:(len+news.length)*B≤150000000000000) (hxr : ∀ r ∈ rows,r.length=n) (hr : ∀ r ∈ news,r.length=n) {xs cl:List Value} (hxl:xs.length=len*n)
  (hxs : ∀ (j:Nat) (t:Tr),(rows.take len).flatten[j]? = some t → ∃ u,xs[j]? = some u∧RepT (okB g w) w u t)
  (q4 : ∀ (j:Nat) (t:Tr),news.flatten[j]? = some t → ∃ u,cl[j]? = some u∧RepT (okB g w) w u t) {run:Sem Next} {v':Value} {w':World} (r1:run.run P w = .ok (.value v') w') (r2:w'.ownsRow 0 e n v' (len+news.length) (xs++cl)) (r3:w.grownBy w' l.b) (r4:v'.ownBlock=l.b∨v'.ownBlock=some w.heap.size) :
  LRes P run g w m' nh [(nh,some (.vec e n B (rows.take len++news))),(hd,none)] (.sl nh (len+news.length)):=by
 have hrows : ∀ r ∈ rows.take len++news,r.length=n:=fun r h'=>by
  simp only [List.mem_append] at h'
  rcases h' with h' | h'
  ·exact hxr r (List.mem_of_mem_take h')
  ·exact hr r h'
 obtain ⟨_,⟨rfl,rn⟩ | ⟨k,cap,cur,rfl,_,k1,k2,k3,k4,k5⟩⟩:=r2
 ·have hnil:news=[]:=List.eq_nil_of_length_eq_zero (by omega)
  subst hnil
  have hl0:len=0:=by simpa using rn
  subst hl0
  exact ⟨_,w',.inl ⟨_,r1,.slN (gapp_new ..)⟩,mst_append (l:=l) (l' := .nil) (hd:=some hd) hm hn (fun h e=>by cases e; exact g1) r3 (by simp) (by simp [Loc.b]) (by simp [Loc.b]) ⟨by simp,by omega,.inl ⟨rfl,by simp⟩⟩,grow_append hm (l:=l) (l' := .nil) (hd:=some hd) hn (fun h e=>by cases e; exact g1) r3 (by simp) (by simp [Loc.b]),fun h h1 h2=>by
   have:hd≠h:=fun e=>by rw [e] at g1; rw [h2] at g1; cases g1
   rw [gapp_un h1 (by simp [this]),h2]⟩
 ·have hnew : ∀ b,(Loc.row k cap).b=some b→l.b=some b∨w.heap.size≤b:=fun b eb=>by
   cases eb
   rcases r4 with r4 | r4
   ·exact .inl (by rw [← r4]; rfl)
   ·simp [Value.ownBlock] at r4; exact .inr (by omega)
  have hG:=grow_append hm (l:=l) (l' := .row k cap) (hd:=some hd) hn (fun h e=>by cases e; exact g1) r3 (by simp) hnew
  refine ⟨_,w',.inl ⟨_,r1,.sl (b:=k) (cap:=cap) (gapp_new ..) k2⟩,mst_append (l:=l) (l' := .row k cap) (hd:=some hd) hm hn (fun h e=>by cases e; exact g1) r3 (by simp) hnew (fun b eb=>by cases eb; exact (Array.getElem?_eq_some_iff.1 k1).1)
   ⟨by rw [List.length_append,List.length_take,Nat.min_eq_left hle]; exact hB,by omega,.inr ⟨k,cap,cur,rfl,k1,by rw [List.length_append,List.length_take,Nat.min_eq_left hle]; exact k2,by simpa [maxLen] using k3,k4,hrows,fun i t hi => ?_⟩⟩,hG,fun h h1 h2=>by
    have:hd≠h:=fun e=>by rw [e] at g1; rw [h2] at g1; cases g1
    rw [gapp_un h1 (by simp [this]),h2]⟩
  have hfl:(rows.take len).flatten.length=len*n:=by
   rw [len_flat _ (fun r h'=>hxr r (List.mem_of_mem_take h')),List.length_take,Nat.min_eq_left hle]
  rw [List.flatten_append] at hi
  have : ∃ u,(xs++cl)[i]? = some u∧RepT (okB g w) w u t:=by
   by_cases c1:i<len*n
   ·rw [List.getElem?_append_left (by omega)] at hi
    rw [List.getElem?_append_left (by omega)]
    exact hxs i t hi
   ·rw [List.getElem?_append_right (by omega),hfl] at hi
    rw [List.getElem?_append_right (by omega),hxl]
    exact q4 _ t hi
  obtain ⟨u,c1,c2⟩:=this
  refine ⟨u,?_,c2.grow hG⟩
  rw [← k5,List.getElem?_take] at c1
  split at c1
  ·simpa using c1
  ·cases c1
theorem brows_len (l:List UInt8):(brows l).length=l.length:=by simp [brows]
theorem brows_row (l:List UInt8) : ∀ r ∈ brows l,r.length=1:=by
 intro r hr
 simp only [brows,List.mem_map] at hr
 obtain ⟨b,_,rfl⟩:=hr; rfl
theorem brows_flat (l:List UInt8):(brows l).flatten=l.map fun b => .v (.int .u8 b.toNat):=by
 induction l with
 | nil=>rfl
 | cons b l ih=>simp only [brows,List.map_cons,List.flatten_cons,List.singleton_append,List.cons.injEq,true_and]; exact ih
theorem byte_good (b:UInt8):good (.int .u8 b.toNat):=by
 have:=b.toNat_lt
 refine ⟨?_,?_⟩
 ·show (0:Int)≤_; omega
 ·show _≤(255:Int); omega
theorem strCells_rep (g:Gh) (w:World) (s:ByteArray) : ∀ (j:Nat) (t:Tr),(brows s.data.toList).flatten[j]? = some t → ∃ u,(Lib.strCells s)[j]? = some u∧RepT (okB g w) w u t:=by
 intro j t hj
 rw [brows_flat,List.getElem?_map,Option.map_eq_some_iff] at hj
 obtain ⟨b,e1,rfl⟩:=hj
 exact ⟨_,by unfold Lib.strCells; rw [List.getElem?_map,e1]; rfl,.v (byte_good b)⟩
theorem byteT_inv {te:TyI} (h:byteT te=true):te.d = .int .u8∧te.size=1∧te.bytes=1∧te.zero=[.i .u8]:=by
 unfold byteT at h
 simp only [Bool.and_eq_true,decide_eq_true_eq] at h
 exact ⟨h.1.1.1,h.1.1.2,h.1.2,h.2⟩
theorem l_appendS (hT:TOk P T) {t u:Nat} {x y:Operand} {ax:AV} {s:ByteArray} (ho:o.op = .call { callee := .builtin .append,args := #[x,y],argTypes := #[t,u] }) (hx:ev x=some ax) (hy:ev y=some (.tr (.v (.string s)))) (h:aappendS T m nh t u ax s K):LOk P o m nh ev K:=by
 have hrun : ∀ (ρ:Operand→Value) (w w':World) (v:Value),(Builtin.append_ #[t,u] o.type #[ρ x,ρ y]).run P w = .ok v w'→(execOp ρ o).run P w = .ok (.value v) w':=fun ρ w w' v e=>by
  simp [execOp,ho,resolve,invoke,builtin,e]
 unfold aappendS at h
 split at h
 case h_2=>exact h.elim
 rename_i e s1 s2 s3 s4 e1 eu
 obtain ⟨tu,eu,hud⟩ : ∃ tu,lk T u=some tu∧tu.d = .string:=by
  unfold dOf at eu
  split at eu
  ·rename_i i hi; exact ⟨i,hi,by simpa using eu⟩
  ·cases eu
 split at h
 case h_2=>exact h.elim
 rename_i te e2
 cases hb:byteT te with
 | false=>rw [hb] at h; exact h.elim
 | true =>
 rw [hb,cond_true] at h
 obtain ⟨b1,b2,b3,b4⟩:=byteT_inv hb
 have hlen:(brows s.data.toList).length=s.size:=by rw [brows_len]; rfl
 split at h
 ·obtain ⟨hB,hK⟩:=h
  refine ⟨_,_,_,hK,by simp,by simp,fun g w m' ρ hm hn hrd hev => ?_⟩
  obtain ⟨hv,_⟩:=val_inv (hev _ _ hx)
  obtain ⟨hs,_⟩:=val_inv (hev _ _ hy)
  obtain ⟨v',w',r1,r2,r3,r4⟩:=append_own_str (ty:=o.type) hT e1 eu hud e2 b1 b2 b3 b4 (World.ownsRow_nil w 0 e 1) s (by omega)
  rw [← hv,← hs] at r1
  rw [Nat.zero_add,List.nil_append,← hlen] at r2
  have:=app_nil (nh:=nh) (B:=1) hm hn (Nat.le_refl 1) (by rw [hlen]; omega) (brows_row _) (strCells_rep g w s) (hrun ρ w w' _ r1) r2 r3 r4
  rw [hlen] at this
  exact this
 ·rename_i hd len
  split at h
  case h_2=>exact h.elim
  rename_i e' n B rows em
  obtain ⟨rfl,rfl,rfl,hle,hB,hK⟩:=h
  refine ⟨_,_,_,hK,by simpa using em,fun p hp => ?_,fun g w m' ρ hm hn hrd hev => ?_⟩
  ·simp only [List.mem_cons,List.not_mem_nil,or_false] at hp
   rcases hp with rfl | rfl
   ·exact .inl rfl
   ·exact .inr ⟨(hd,.vec e' 1 1 rows),by simp,rfl⟩
  obtain ⟨hs,_⟩:=val_inv (hev _ _ hy)
  have hmh:=hrd (hd,.vec e' 1 1 rows) (by simp)
  obtain ⟨l,xs,g1,hown,hlb,hxr,hxs⟩:=brow_own hm hmh (hev _ _ hx) hle
  obtain ⟨v',w',r1,r2,r3,r4⟩:=append_own_str (ty:=o.type) hT e1 eu hud e2 b1 b2 b3 b4 hown s hB
  rw [← hs] at r1
  rw [hlb] at r3 r4
  rw [← hlen] at r2
  have:=app_own (nh:=nh) (B:=1) hm hn (Nat.le_refl 1) hmh g1 hle (by rw [hlen]; omega) hxr (brows_row _) hown.1 hxs (strCells_rep g w s) (hrun ρ w w' _ r1) r2 r3 r4
  rw [hlen] at this
  exact this
 ·exact h.elim
theorem l_convB (hT:TOk P T) {s d:Nat} {x:Operand} {a:AV} {e:Nat} {te:TyI} {l:List UInt8} {rd:List (Nat × Blk)} {i1 i2 i3 i4:Nat} {z1 z2:List Z} {q1 q2:Bool} (ho:o.op = .convert s d x) (hs:lk T s=some ⟨.slice e,i1,i2,z1,q1⟩) (he:lk T e=some te) (hb:byteT te=true) (hd:lk T d=some ⟨.string,i3,i4,z2,q2⟩)
  (hx:ev x=some a) (hsrc:srcRows 1 m a=some (brows l,rd)) (hrd0 : ∀ p ∈ rd,m p.1=some p.2) (hl:l.length≤140737488351232) (hK:K (.tr (.v (.string ⟨l.toArray⟩))) rd []):LOk P o m nh ev K:=by
 refine LOk.pure _ _ hK hrd0 fun g w m' ρ hm hrd hev => ?_
 obtain ⟨b1,b2,b3,b4⟩:=byteT_inv hb
 obtain ⟨ti,ud,zt,_,u2,u3,_⟩:=hT.info hs
 obtain rfl:=D_slice u3
 obtain ⟨ti2,ud2,zt2,_,v2,v3,_⟩:=hT.info hd
 obtain rfl:=D_string v3
 obtain ⟨ti',u',z',j1,j2,j3,_⟩:=hT.info he
 rw [b1] at j3
 have j3:u' = .int .u8:=by cases u' <;> simp [D.of] at j3 <;> first | (subst j3; rfl) | exact j3
 subst j3
 obtain ⟨hr,ao,c,cl,p1,p2,p3,p4⟩:=srcRows_ok hm (by omega) hsrc hrd (hev _ _ hx)
 refine ⟨.string ⟨l.toArray⟩,?_,.tr (.v (show (ByteArray.mk l.toArray).size≤9223372036854775807 from ?_))⟩
 ·have hcl : ∀ j,j<l.length→cl[j]? = some (.int .u8 ((l.map fun b=>(b.toNat:Int)).getD j 0)):=fun j hj=>by
   have:=p4 j (.v (.int .u8 (l[j]).toNat)) (by rw [brows_flat,List.getElem?_map,List.getElem?_eq_getElem hj]; rfl)
   obtain ⟨u,c1,c2⟩:=this
   cases c2
   rw [c1]
   simp [List.getD,hj]
  have hconv:(convert s d (ρ x)).run P w = .ok (.string ⟨l.toArray⟩) w:=by
   rw [p1]
   cases ao with
   | none =>
    have hl0:l=[]:=by
     rw [List.eq_nil_iff_forall_not_mem]
     intro b hb
     obtain ⟨j,hj⟩:=List.mem_iff_getElem?.1 hb
     have hj':=(List.getElem?_eq_some_iff.1 hj).1
     obtain ⟨_,_,e0,_⟩:=p3 j _ (hcl j hj')
     cases e0
    subst hl0
    rw [run_convert_bytes_nil w s e u2 j2 _ _ d v2]
    rfl
   | some A =>
    obtain ⟨ab,aoff,asp⟩:=A
    by_cases h0:l.length=0
    ·have hl0:=List.eq_nil_of_length_eq_zero h0
     subst hl0
     rw [run_convert_bytes_string w s d e _ _ _ u2 j2 v2]
     simp [Conv.bytesToString,brows,loadCells,loadCellsFrom]
     rfl
    ·obtain ⟨bb,oo,e0,_⟩:=p3 0 _ (hcl 0 (by omega))
     cases e0
     have:=run_convert_bytes_arg (P:=P) w s e u2 j2 ab aoff (brows l).length c (l.map fun b=>(b.toNat:Int)) (by simp [brows]) (fun i hi=>by
      rw [brows_len] at hi
      obtain ⟨bb,oo,e0,e1⟩:=p3 i _ (hcl i hi)
      cases e0
      exact e1) d v2
     rw [this]
     unfold strOfNums
     congr 3
     simp [List.map_map,Function.comp_def]
  simp only [execOp,ho,Sem.run_bind,hconv,Result.andThen_ok]
  rfl
 ·show l.toArray.size≤_
  rw [List.size_toArray]; omega
end
end Go.Proofs.YtbflekglkkdipaaGreatDoor.am
namespace Go.Proofs.YtbflekglkkdipaaGreatDoor.am
open Go
set_option linter.unusedSimpArgs false
theorem flat_at {n:Nat} (hn:0<n) : ∀ (rows:List (List Tr)),(∀ r ∈ rows,r.length=n) → ∀ (j:Nat) (t:Tr),rows.flatten[j]? = some t → ∃ row,rows[j / n]? = some row∧row[j % n]? = some t
 | [],_,j,t,h=>by simp at h
 | r::rows,hr,j,t,h=>by
  have hl:=hr r (.head _)
  by_cases hj:j<n
  ·rw [List.flatten_cons,List.getElem?_append_left (by omega)] at h
   exact ⟨r,by rw [Nat.div_eq_of_lt hj]; rfl,by rw [Nat.mod_eq_of_lt hj]; exact h⟩
  ·rw [List.flatten_cons,List.getElem?_append_right (by omega),hl] at h
   obtain ⟨row,h1,h2⟩:=flat_at hn rows (fun r h=>hr r (.tail _ h)) (j - n) t h
   refine ⟨row,?_,?_⟩
   ·rw [Nat.div_eq_sub_div hn (by omega)]; exact h1
   ·rw [Nat.mod_eq_sub_mod (by omega)]; exact h2
theorem flat_take {α:Type} {n:Nat} : ∀ (k:Nat) (rows:List (List α)),(∀ r ∈ rows,r.length=n)→(rows.take k).flatten=rows.flatten.take (k*n)
 | 0,rows,_=>by simp
 | k+1,[],_=>by simp
 | k+1,r::rows,h=>by
  have hl:=h r (.head _)
  rw [List.take_succ_cons,List.flatten_cons,List.flatten_cons,flat_take k rows fun r hr=>h r (.tail _ hr),List.take_append,hl,Nat.add_mul,Nat.one_mul,List.take_of_length_le (l:=r) (by omega),Nat.add_sub_cancel]
theorem flat_drop {α:Type} {n:Nat} : ∀ (k:Nat) (rows:List (List α)),(∀ r ∈ rows,r.length=n)→(rows.drop k).flatten=rows.flatten.drop (k*n)
 | 0,rows,_=>by simp
 | k+1,[],_=>by simp
 | k+1,r::rows,h=>by
  have hl:=h r (.head _)
  rw [List.drop_succ_cons,List.flatten_cons,flat_drop k rows fun r hr=>h r (.tail _ hr),List.drop_append,hl,Nat.add_mul,Nat.one_mul,List.drop_of_length_le (l:=r) (by omega),List.nil_append,Nat.add_sub_cancel]
section
variable {P:Program} {T:Ty} {o:Oper} {m:Mem} {nh:Nat} {ev:Operand→Option AV} {K:KK}
theorem copyRows_ok {g:Gh} {w:World} {m m':Mem} (hm:MSt g w m') {n:Nat} (hn:0<n) {y:AV} {v:Value} {news:List (List Tr)} {rd:List (Nat × Blk)} (h:copyRows n m y=some (news,rd)) (hlen:copyLen y news) (hlf:leafR news) (hrd : ∀ p ∈ rd,m' p.1=some p.2) (hv:Rep g w v y) :
  (∀ r ∈ news,r.length=n) ∧ ∃ (ao:Option Addr) (c:Nat) (cl:List Value),v = .slice ao news.length c∧cl.length=news.length*n∧(∀ (j:Nat) (u:Value),cl[j]? = some u → ∃ b o,ao=some ⟨b,o,none⟩∧w.cell? ⟨b,o+j,none⟩=some u) ∧
   ∀ (j:Nat) (t:Tr),news.flatten[j]? = some t → ∃ u,cl[j]? = some u∧RepT (okB g w) w u t:=by
 unfold copyRows at h
 split at h
 ·rename_i q hd n' i len
  split at h
  case h_2=>cases h
  rename_i n2 B rows em
  cases hc:(Nat.beq q (3*HMod) && Nat.beq n n' && Nat.beq n n2 && Nat.ble 1 i) with
  | false=>rw [hc] at h; cases h
  | true =>
   rw [hc,cond_true] at h
   simp only [Option.some.injEq,Prod.mk.injEq] at h
   obtain ⟨rfl,rfl⟩:=h
   simp only [Bool.and_eq_true] at hc
   have hq:=Nat.eq_of_beq_eq_true hc.1.1.1
   obtain rfl:=Nat.eq_of_beq_eq_true hc.1.1.2
   obtain rfl:=Nat.eq_of_beq_eq_true hc.1.2
   have hi:=Nat.le_of_ble_eq_true hc.2
   obtain ⟨l,g1,g2⟩:=hm.blk hd _ (hrd (hd,.own n B rows []) (by simp))
   have hpos:0<i*n:=Nat.mul_pos (by omega) hn
   replace hlen:((rows.drop i).take len).length=len:=hlen
   cases hv with
   | ifc h1 _=>omega
   | bnd h1 _=>omega
   | psl hp =>
    generalize hpv:Value.pointer _=pv at hp
    cases hp with
    | vptD e=>rw [g1] at e; cases e
    | vpt e =>
     simp only [Value.pointer.injEq,Option.some.injEq,Addr.mk.injEq] at hpv
     omega
   | win hp hle hle2 =>
    generalize hpv:Value.pointer _=pv at hp
    cases hp with
    | vptD e=>rw [g1] at e; cases e
    | vpt e =>
     rw [g1] at e
     cases e
     cases hpv
     rename_i b cap
     obtain ⟨hB,_,⟨e,_⟩ | ⟨b2,cap2,cur,e2,Fs,e,k1,k2,k3,k4,k5,k6,k7,k8⟩⟩:=g2
     ·cases e
     cases e
     have hmin:len=0∨i+len≤rows.length:=by
      rw [List.length_take,List.length_drop] at hlen
      omega
     have hsz:len=0∨i*n+len*n≤cur.size:=by
      rcases hmin with h | h
      ·exact .inl h
      ·right
       rw [← Nat.add_mul,k4]
       exact Nat.mul_le_mul_right _ (by omega)
     have hnl : ∀ r ∈ (rows.drop i).take len,r.length=n:=fun r hr=>k5 r (List.mem_of_mem_drop (List.mem_of_mem_take hr))
     refine ⟨hnl,_,_,(cur.toList.drop (i*n)).take (len*n),by rw [hlen],?_,fun j u hj=>⟨b,_,rfl,?_⟩,fun j t hj => ?_⟩
     ·rw [hlen,List.length_take,List.length_drop,Array.length_toList]
      rcases hsz with rfl | h
      ·simp
      ·omega
     ·rw [heap_cell k1]
      rw [List.getElem?_take] at hj
      split at hj
      ·rw [List.getElem?_drop] at hj
       rw [Nat.add_zero]
       simpa using hj
      ·cases hj
     ·obtain ⟨row,h1,h2⟩:=flat_at hn _ hnl j t hj
      have hjl:j<len*n:=by
       have:=(List.getElem?_eq_some_iff.1 hj).1
       rwa [len_flat _ hnl,hlen] at this
      have h1':rows[i+j / n]? = some row:=by
       rw [List.getElem?_take] at h1
       split at h1
       ·rwa [List.getElem?_drop] at h1
       ·cases h1
      have hdm:(i+j / n)*n+j % n=i*n+j:=by
       have:=Nat.div_add_mod j n
       rw [Nat.mul_comm] at this
       rw [Nat.add_mul]; omega
      have hin:i*n+j<cur.size:=by
       rcases hsz with rfl | h
       ·simp at hjl
       ·omega
      obtain ⟨c,hcur⟩ : ∃ c,cur[i*n+j]? = some c:=⟨cur[i*n+j],by simp [hin]⟩
      obtain ⟨u1,_⟩:=k8 (i+j / n) (j % n) row t c h1' h2 (by rw [hdm]; exact hcur)
      obtain ⟨x,rfl⟩:=hlf row (List.mem_of_getElem? h1) t (List.mem_of_getElem? h2)
      refine ⟨c,?_,?_⟩
      ·rw [List.getElem?_take,if_pos hjl,List.getElem?_drop,Array.getElem?_toList]; exact hcur
      ·cases u1 rfl with
       | v hg=>exact .v hg
 ·exact srcRows_ok hm hn h hrd hv
theorem copyRows_rd {n:Nat} {m:Mem} {y:AV} {news:List (List Tr)} {rd:List (Nat × Blk)} (h:copyRows n m y=some (news,rd)) : ∀ p ∈ rd,m p.1=some p.2:=by
 unfold copyRows at h
 split at h
 ·rename_i q hd n' i len
  split at h
  case h_2=>cases h
  rename_i n2 B rows em
  cases hc:(Nat.beq q (3*HMod) && Nat.beq n n' && Nat.beq n n2 && Nat.ble 1 i) with
  | false=>rw [hc] at h; cases h
  | true =>
   rw [hc,cond_true] at h
   simp only [Option.some.injEq,Prod.mk.injEq] at h
   obtain ⟨rfl,rfl⟩:=h
   simpa using em
 ·exact srcRows_rd h
theorem updM_same {m:Mem} {h:Nat} {b:Blk} (e:m h=some b):updM m [(h,some b)]=m:=by
 funext k
 unfold updM lk lk
 cases hk:Nat.beq h k with
 | true=>rw [← Nat.eq_of_beq_eq_true hk,e]; rfl
 | false=>rfl
theorem l_copy (hT:TOk P T) {t t':Nat} {x y:Operand} {ax ay:AV} (ho:o.op = .call { callee := .builtin .copy,args := #[x,y],argTypes := #[t,t'] }) (hx:ev x=some ax) (hy:ev y=some ay) (h:acopy T m t ax ay K):LOk P o m nh ev K:=by
 have hrun : ∀ (ρ:Operand→Value) (w w':World) (v:Value),(Builtin.copy_ #[t,t'] o.type #[ρ x,ρ y]).run P w = .ok v w'→(execOp ρ o).run P w = .ok (.value v) w':=fun ρ w w' v e=>by
  simp [execOp,ho,resolve,invoke,builtin,e]
 unfold acopy at h
 split at h
 case h_2=>exact h.elim
 rename_i e s1 s2 s3 s4 hd len e1
 split at h
 case h_2=>exact h.elim
 rename_i te e' n B rows e2 em
 split at h
 case h_2=>exact h.elim
 rename_i news rd e3
 obtain ⟨rfl,hle,hcl,hlf,hne,hK⟩:=h
 have hk1:Nat.min news.length len≤news.length:=Nat.min_le_left _ _
 have hk2:Nat.min news.length len≤len:=Nat.min_le_right _ _
 refine ⟨_,_,_,hK,fun p hp => ?_,fun p hp => .inr ⟨(hd,.vec e' te.size B rows),by simp,by simp at hp; rw [hp]⟩,fun g w m' ρ hm hn hrd hev => ?_⟩
 ·simp only [List.mem_cons] at hp
  rcases hp with rfl | hp
  ·exact em
  ·exact copyRows_rd e3 p hp
 clear hK
 have hmd:=hrd (hd,.vec e' te.size B rows) (by simp)
 obtain ⟨lc,g1,g2⟩:=hm.blk hd _ hmd
 have g2':=g2
 obtain ⟨hB,hn0,hloc⟩:=g2'
 obtain ⟨hr,ao,c,cl,q1,q2,q3,q4⟩:=copyRows_ok hm hn0 e3 hcl hlf (fun p hp=>hrd p (by simp [hp])) (hev _ _ hy)
 obtain ⟨ti,u,zt,_,u2,u3,_⟩:=hT.info e1
 obtain rfl:=D_slice u3
 obtain ⟨ti',u',z',i1,_,_,i4,i5,i6,i7,i8⟩:=hT.info e2
 have hkE:Nat.min news.length len=min news.length len:=rfl
 generalize hk:Nat.min news.length len=k at *
 by_cases h0:k=0
 ·subst h0
  refine ⟨g,w,.inl ⟨.int .i64 ((0:Nat):Int),hrun ρ w w _ ?_,.tr (.v (len_good _ (by omega)))⟩,?_,Grow.refl _ _,fun _ _ h=>h⟩
  ·rcases (hev _ _ hx).sl_inv g1 with ⟨b,cap,rfl,hlc,hv⟩ | ⟨rfl,rfl,hv⟩
   ·rw [hv,q1]
    cases ao <;> simp [Builtin.copy_,run_underlying u2,Builtin.lenOf,sizeOf,typeInfo,i1,hkE.symm,Builtin.firstCells,loadCells,loadCellsFrom,storeCells,goInt]
   ·rw [hv,q1]
    cases ao <;> simp [Builtin.copy_,run_underlying u2,Builtin.lenOf,sizeOf,typeInfo,i1,Builtin.firstCells,loadCells,loadCellsFrom,goInt]
  ·rw [List.take_zero,List.drop_zero,List.nil_append,updM_same hmd]; exact hm
 ·obtain ⟨b,cap,cur,rfl,g3,g4,g4',g5,g6,g7⟩ : ∃ b cap cur,lc = .row b cap∧w.heap[b]? = some (.cells cur e' (0,0))∧rows.length≤cap∧cap≤9223372036854775807∧cur.size=cap*te.size ∧
    (∀ row ∈ rows,row.length=te.size) ∧ ∀ (i:Nat) (t:Tr),rows.flatten[i]? = some t → ∃ c,cur[i]? = some c∧RepT (okB g w) w c t:=by
   rcases hloc with ⟨_,hv⟩ | hv
   ·rw [hv] at hle; simp at hle; omega
   ·exact hv
  rcases (hev _ _ hx).sl_inv g1 with ⟨b',cap',e,hlc,hv⟩ | ⟨e,_⟩
  case inr=>cases e
  cases e
  have hclp:0<cl.length:=by rw [q2]; exact Nat.mul_pos (by omega) hn0
  obtain ⟨bk,of,rfl,_⟩:=q3 0 cl[0] (by simp)
  have hkn:k*te.size≤news.length*te.size:=Nat.mul_le_mul_right _ hk1
  have hkr:k*te.size≤cap*te.size:=Nat.mul_le_mul_right _ (by omega)
  have hl':(cl.take (k*te.size)).length=k*te.size:=by rw [List.length_take,q2]; omega
  have hnews : ∀ j u,(cl.take (k*te.size))[j]? = some u→w.cell? ((⟨bk,of,none⟩:Addr).add j)=some u:=fun j u hj=>by
   rw [List.getElem?_take] at hj
   split at hj
   ·obtain ⟨b2,o2,c1,c2⟩:=q3 j u hj
    cases c1
    rw [add_mk]; exact c2
   ·cases hj
  have hfl:news.flatten.length=news.length*te.size:=len_flat news hr
  have hone : ∀ u ∈ cl.take (k*te.size),u.oneCell'=true:=fun u hu=>by
   obtain ⟨j,hj⟩:=List.mem_iff_getElem?.1 (List.mem_of_mem_take hu)
   have hlt:j<news.flatten.length:=by rw [hfl,← q2]; exact (List.getElem?_eq_some_iff.1 hj).1
   obtain ⟨u',c1,c2⟩:=q4 j news.flatten[j] (by simp [hlt])
   rw [hj] at c1; cases c1
   exact c2.one
  have hf:=run_firstCells_some (P:=P) w te.size k ⟨bk,of,none⟩ news.length c _ hl' hnews
  have hst:=run_storeCells_at P b 0 e' (cl.take (k*te.size)) 0 cur w g3 (by rw [hl']; omega) hone
  have hcopy:(Builtin.copy_ #[t,t'] o.type #[ρ x,ρ y]).run P w = .ok (.int .i64 (k:Int)) (w.setRow b (cur.toList.take (0+0)++cl.take (k*te.size)++cur.toList.drop (0+0+(cl.take (k*te.size)).length)).toArray):=by
   rw [hv,q1]
   rw [← i4] at hf hst ⊢
   simp only [Nat.add_zero] at hst
   simp [Builtin.copy_,run_underlying u2,Builtin.lenOf,sizeOf,typeInfo,i1,← hkE,hf,hst,goInt]
  have hk2':=setRow_heap w b cur (cur.toList.take (0+0)++cl.take (k*te.size)++cur.toList.drop (0+0+(cl.take (k*te.size)).length)).toArray e' _ g3
  have hko:=fun j hj=>setRow_other w b j (cur.toList.take (0+0)++cl.take (k*te.size)++cur.toList.drop (0+0+(cl.take (k*te.size)).length)).toArray hj
  have hg:=grow_write (b:=b) (hm.xl hd b (.root g1 rfl)) (.root g1 rfl) (w:=w) (w':=w.setRow b (cur.toList.take (0+0)++cl.take (k*te.size)++cur.toList.drop (0+0+(cl.take (k*te.size)).length)).toArray) rfl rfl rfl (by simp) hko
  have hsz2:(w.setRow b (cur.toList.take (0+0)++cl.take (k*te.size)++cur.toList.drop (0+0+(cl.take (k*te.size)).length)).toArray).heap.size=w.heap.size:=by simp
  generalize w.setRow b (cur.toList.take (0+0)++cl.take (k*te.size)++cur.toList.drop (0+0+(cl.take (k*te.size)).length)).toArray=w2 at *
  refine ⟨g,w2,.inl ⟨_,hrun ρ w w2 _ hcopy,.tr (.v (len_good _ (by omega)))⟩,?_,hg,fun _ _ h=>h⟩
  have hrl:(news.take k++rows.drop k).length=rows.length:=by rw [List.length_append,List.length_take,List.length_drop]; omega
  refine mst_write hm g1 (.inl rfl) hg hsz2 hko ⟨by rw [hrl]; exact hB,hn0,.inr ⟨b,cap,_,rfl,hk2',by rw [hrl]; exact g4,g4',?_,fun r hr' => ?_,fun j t hj => ?_⟩⟩
  ·simp only [List.size_toArray,List.length_append,List.length_take,List.length_drop,Array.length_toList,hl']
   omega
  ·rcases List.mem_append.1 hr' with h | h
   ·exact hr r (List.mem_of_mem_take h)
   ·exact g6 r (List.mem_of_mem_drop h)
  ·rw [List.flatten_append,flat_take k news hr,flat_drop k rows g6] at hj
   simp only [List.getElem?_toArray,List.append_assoc,Nat.add_zero,List.take_zero,List.nil_append]
   have hft:(news.flatten.take (k*te.size)).length=k*te.size:=by rw [List.length_take,hfl]; omega
   by_cases hjk:j<k*te.size
   ·rw [List.getElem?_append_left (by omega),List.getElem?_take,if_pos hjk] at hj
    obtain ⟨u,c1,c2⟩:=q4 j t hj
    refine ⟨u,?_,c2.grow hg⟩
    rw [List.getElem?_append_left (by omega),List.getElem?_take,if_pos hjk]
    exact c1
   ·rw [List.getElem?_append_right (by omega),hft,List.getElem?_drop] at hj
    rw [List.getElem?_append_right (by omega),hl',List.getElem?_drop,Nat.zero_add,show k*te.size+(j - k*te.size)=j by omega] at *
    obtain ⟨c,w1,w2⟩:=g7 j t hj
    exact ⟨c,by rw [Array.getElem?_toList]; exact w1,w2.grow hg⟩
end
end Go.Proofs.YtbflekglkkdipaaGreatDoor.am
namespace Go.Proofs.YtbflekglkkdipaaGreatDoor.am
open Go
set_option linter.unusedSimpArgs false
section
variable {P:Program} {T:Ty} {o:Oper} {m:Mem} {nh:Nat} {ev:Operand→Option AV} {K:KK}
theorem l_min {x y:Operand} {t:Array TypeId} {k:IntKind} {a b:Int} (ho:o.op = .call { callee := .builtin .min,args := #[x,y],argTypes:=t }) (hx:ev x=some (.tr (.v (.int k a)))) (hy:ev y=some (.tr (.v (.int k b)))) (hK:K (.tr (.v (.int k (min a b)))) [] []):LOk P o m nh ev K:=by
 refine LOk.pure _ _ hK (by simp) fun g w m' ρ hm hrd hev => ?_
 obtain ⟨e1,g1⟩:=val_inv (hev _ _ hx)
 obtain ⟨e2,g2⟩:=val_inv (hev _ _ hy)
 have hmin:min a b=if b<a then b else a:=by
  rw [Int.min_def]
  split <;> split <;> omega
 refine ⟨.int k (min a b),?_,.tr (.v ?_)⟩
 ·rw [hmin]
  simp [execOp,ho,resolve,invoke,builtin,Builtin.min_,Builtin.min2,e1,e2]
 ·rw [hmin]
  split
  ·exact g2
  ·exact g1
theorem l_max {x y:Operand} {t:Array TypeId} {k:IntKind} {a b:Int} (ho:o.op = .call { callee := .builtin .max,args := #[x,y],argTypes:=t }) (hx:ev x=some (.tr (.v (.int k a)))) (hy:ev y=some (.tr (.v (.int k b)))) (hK:K (.tr (.v (.int k (max a b)))) [] []):LOk P o m nh ev K:=by
 refine LOk.pure _ _ hK (by simp) fun g w m' ρ hm hrd hev => ?_
 obtain ⟨e1,g1⟩:=val_inv (hev _ _ hx)
 obtain ⟨e2,g2⟩:=val_inv (hev _ _ hy)
 have hmax:max a b=if b > a then b else a:=by
  rw [Int.max_def]
  split <;> split <;> omega
 refine ⟨.int k (max a b),?_,.tr (.v ?_)⟩
 ·rw [hmax]
  simp [execOp,ho,resolve,invoke,builtin,Builtin.max_,Builtin.max2,e1,e2]
 ·rw [hmax]
  split
  ·exact g2
  ·exact g1
theorem l_capN (hT:TOk P T) {x:Operand} {t e a b:Nat} {z:List Z} {q:Bool} (ho:o.op = .call { callee := .builtin .cap,args := #[x],argTypes := #[t] }) (hx:ev x=some (.tr (.v (.slice none 0 0)))) (ht:lk T t=some ⟨.slice e,a,b,z,q⟩) (hK:K (.tr (.v (.int .i64 0))) [] []):LOk P o m nh ev K:=by
 refine LOk.pure _ _ hK (by simp) fun g w m' ρ hm hrd hev => ?_
 obtain ⟨e2,g2⟩:=val_inv (hev _ _ hx)
 obtain ⟨u,u1,u2,u3⟩:=run_und hT ht w
 obtain rfl:=D_slice u2
 refine ⟨.int .i64 0,?_,.tr (.v (good_of rfl))⟩
 simp [execOp,ho,resolve,invoke,builtin,Builtin.cap_,u1,e2,goInt]
theorem rep_flat {α:Type} (r:List α) : ∀ (n i:Nat),(List.replicate n r).flatten[i]? = if i<n*r.length then r[i % r.length]? else none
 | 0,i=>by simp
 | n+1,i=>by
  rw [List.replicate_succ,List.flatten_cons]
  by_cases h1:i<r.length
  ·rw [List.getElem?_append_left h1,if_pos (by rw [Nat.succ_mul]; omega),Nat.mod_eq_of_lt h1]
  ·rw [List.getElem?_append_right (by omega),rep_flat r n]
   by_cases h2:i<(n+1)*r.length
   ·rw [if_pos (by rw [Nat.succ_mul] at h2; omega),if_pos h2,← Nat.mod_eq_sub_mod (by omega)]
   ·rw [if_neg (by rw [Nat.succ_mul] at h2; omega),if_neg h2]
theorem l_appendZ (hT:TOk P T) {t t':Nat} {x y:Operand} {k:IntKind} {z:Int} (ho:o.op = .call { callee := .builtin .append,args := #[x,y],argTypes := #[t,t'] }) (hx:ev x=some (.tr (.v (.slice none 0 0)))) (hy:ev y=some (.tr (.v (.int k z)))) (h:aappendZ T nh t t' z K):LOk P o m nh ev K:=by
 have hrun : ∀ (ρ:Operand→Value) (w w':World) (v:Value),(Builtin.append_ #[t,t'] o.type #[ρ x,ρ y]).run P w = .ok v w'→(execOp ρ o).run P w = .ok (.value v) w':=fun ρ w w' v e=>by
  simp [execOp,ho,resolve,invoke,builtin,e]
 unfold aappendZ at h
 split at h
 case h_2=>exact h.elim
 rename_i e s1 s2 s3 s4 kn e1 eu
 split at h
 case h_2=>exact h.elim
 rename_i te e2
 cases hb:(Nat.ble 1 te.size && Nat.ble 1 te.bytes) with
 | false=>rw [hb] at h; exact h.elim
 | true =>
 rw [hb,cond_true] at h
 simp only [Bool.and_eq_true] at hb
 have hs1:=Nat.le_of_ble_eq_true hb.1
 have hb1:=Nat.le_of_ble_eq_true hb.2
 obtain ⟨h0,hB,hK⟩:=h
 obtain ⟨n,rfl⟩:=Int.eq_ofNat_of_zero_le h0
 rw [Int.toNat_natCast] at hK
 have hBn:n*te.bytes≤140737488351232:=by
  have:((n*te.bytes:Nat):Int)≤140737488351232:=by rw [Int.natCast_mul]; exact hB
  omega
 have h63:n≤140737488351232:=by
  have:n*1≤n*te.bytes:=Nat.mul_le_mul_left _ hb1
  omega
 refine ⟨_,_,_,hK,by simp,by simp,fun g w m' ρ hm hn hrd hev => ?_⟩
 obtain ⟨hv,_⟩:=val_inv (hev _ _ hx)
 obtain ⟨hw,_⟩:=val_inv (hev _ _ hy)
 obtain ⟨ti,u,zt,_,u2,u3,_⟩:=hT.info e1
 obtain rfl:=D_slice u3
 obtain ⟨un,un1,un2⟩:=dOf_und hT eu
 obtain rfl:=D_int un2
 obtain ⟨ti',u',z',i1,_,_,i4,i5,i6,i7,i8⟩:=hT.info e2
 have hz:=(zcells_cells i7).1
 have hzs:z'.cells.size=te.size:=by rw [hz]; simpa using i8
 have hlen:(ztrs te.zero).length=te.size:=by simpa [ztrs] using i8
 have hrows : ∀ r ∈ List.replicate n (ztrs te.zero),r.length=te.size:=fun r hr=>by rw [List.eq_of_mem_replicate hr]; exact hlen
 have hcl:(Builtin.zeroCells z'.cells n).size=n*te.size:=by simp [Builtin.zeroCells,hzs]
 have q4 : ∀ (j:Nat) (t:Tr),(List.replicate n (ztrs te.zero)).flatten[j]? = some t → ∃ u,(Builtin.zeroCells z'.cells n).toList[j]? = some u∧RepT (okB g w) w u t:=fun j t hj=>by
  rw [rep_flat,hlen] at hj
  split at hj
  case isFalse=>cases hj
  rename_i hlt
  simp only [ztrs,List.getElem?_map,Option.map_eq_some_iff] at hj
  obtain ⟨zz,z1,rfl⟩:=hj
  refine ⟨zz.val,?_,.v (good_zero zz)⟩
  have hmod:j % te.size<te.zero.length:=by rw [i8]; exact Nat.mod_lt _ (by omega)
  rw [Array.getElem?_toList]
  simp only [Builtin.zeroCells,Array.getElem?_map,Array.getElem?_range,hzs,if_pos hlt,Option.map_some]
  rw [hz]
  have z2:te.zero[j % te.size]'hmod=zz:=by simpa [hmod] using z1
  congr 1
  rw [getElem!_pos _ _ (by simpa using hmod)]
  simp [z2]
 have hln:(List.replicate n (ztrs te.zero)).length=n:=List.length_replicate ..
 have fin : ∀ (v':Value) (w':World),(Builtin.append_ #[t,t'] o.type #[.slice none 0 0,.int k (n:Int)]).run P w = .ok v' w'→w'.ownsRow 0 e te.size v' n (Builtin.zeroCells z'.cells n).toList→w.grownBy w' none→(v'.ownBlock=none∨v'.ownBlock=some w.heap.size)→LRes P (execOp ρ o) g w m' nh [(nh,some (.vec e te.size te.bytes (List.replicate n (ztrs te.zero))))] (.sl nh n):=fun v' w' r1 r2 r3 r4=>by
  rw [← hv,← hw] at r1
  have:=app_nil (nh:=nh) (B:=te.bytes) hm hn hs1 (by rw [hln]; omega) hrows q4 (hrun ρ w w' _ r1) (by rw [hln]; exact r2) r3 r4
  rw [hln] at this
  exact this
 by_cases hn0:n=0
 ·subst hn0
  refine fin (.slice none 0 0) w ?_ ?_ ⟨rfl,rfl,rfl,Nat.le_refl _,fun _ _ _=>rfl⟩ (.inl rfl)
  ·have hw0:IntKind.i64.wrap (0:Int)=0:=by rw [IntKind.wrap_i64]; omega
   simp [Builtin.append_,run_underlying u2,run_underlying un1,sizeOf,typeInfo,i1,asInt,asIntOf,hw0]
  ·have:(Builtin.zeroCells z'.cells 0).toList=[]:=by simp [Builtin.zeroCells]
   rw [this]
   exact World.ownsRow_nil ..
 ·have hr:=Lib.run_append_nil_zeros (P:=P) w t t' o.type e ti' z' k kn u2 un1 i1 i6 n (by omega) (by rw [i4]; omega) (by omega) (by rw [i5]; omega)
  have hge:=grownCap_ge w n 0 e
  have hcm:grownCap w n 0 e≤maxLen:=grownCap_le_maxLen w n 0 e (by simp only [maxLen]; omega)
  refine fin _ _ hr ⟨by rw [Array.length_toList,hcl],.inr ⟨w.heap.size,_,_,rfl,Nat.zero_le _,heap_alloc_new w.drew _,hge,hcm,?_,?_⟩⟩ ⟨rfl,rfl,rfl,by simp,fun k hk _=>heap_alloc_old w.drew _ (by exact hk)⟩ (.inr rfl)
  ·simp only [Array.size_append,size_zeroCells,hzs,← Nat.add_mul]
   congr 1
   omega
  ·simp only [Array.toList_append]
   rw [← hcl,← Array.length_toList]
   exact List.take_left
theorem mp_is {g:Gh} {w:World} {h b:Nat} {v:Value} (g1:g h = .live (.blk b)) (hr:Rep g w v (.mp h)):v = .map (some b):=by
 cases hr with
 | mpD e=>rw [g1] at e; cases e
 | mp e=>rw [g1] at e; cases e; rfl
theorem l_range (hT:TOk P T) {t:Nat} {x:Operand} {h k e a b:Nat} {z:List Z} {q:Bool} {kd:D} {es:List (MK × Tr)} (ho:o.op = .range t x) (hx:ev x=some (.mp h)) (ht:lk T t=some ⟨.map k e,a,b,z,q⟩) (hm0:m h=some (.map kd es)) (hK:K (.ptr nh 0) [(h,.map kd es)] [(nh,some (.itr h es.length []))]):LOk P o m nh ev K:=by
 refine ⟨_,_,_,hK,by simpa using hm0,by simp,fun g w m' ρ hm hn hrd hev => ?_⟩
 obtain ⟨lc,g1,bb,ents,clock,rfl,b1,b2,b3,b4⟩:=hm.blk h _ (hrd (h,.map kd es) (by simp))
 have hv:ρ x = .map (some bb):=mp_is g1 (hev _ _ hx)
 obtain ⟨u,u1,u2,u3⟩:=run_und hT ht w
 obtain rfl:=D_map u2
 have hc:clock=es.length:=b2.2.1.trans b2.1
 have hloc : ∀ b,Loc.b (.blk w.heap.size)=some b→b=w.heap.size:=fun b e=>by cases e; rfl
 refine LRes.new hm hn (.mapIter (some bb) clock #[] clock) (.blk w.heap.size) hloc _ (.pointer (some ⟨w.heap.size,0,none⟩)) ?_ (fun _=>⟨_,bb,rfl,?_,?_⟩) (.ptr (gset_same ..))
 ·have hgo:(getObj bb).run P w = .ok (.map ents clock) w:=by simp [getObj,Sem.run,b1]
  simp [execOp,ho,hv,Instr.range,u1,hgo]
 ·rw [heap_alloc_new w _,hc]
 ·have:=(hev _ _ hx).grow (grow_alloc (w:=w) hm.xlt hn (.mapIter (some bb) clock #[] clock) hloc)
  rw [hv] at this
  exact this
theorem born_nodup {ents:Array MapEntry} (h : ∀ (i:Nat) (en:MapEntry),ents[i]? = some en→en.born=i):(ents.toList.map (·.born)).Nodup:=by
 have:ents.toList.map (·.born)=List.range ents.size:=by
  refine List.ext_getElem? fun i => ?_
  rw [List.getElem?_map,Array.getElem?_toList]
  by_cases hi:i<ents.size
  ·rw [List.getElem?_range hi]
   cases he:ents[i]? with
   | none=>simp at he; omega
   | some en=>rw [Option.map_some,h i en he]
  ·rw [List.getElem?_eq_none (by simpa using hi)]
   simp; omega
 rw [this]
 exact List.nodup_range
theorem l_entry {x:Operand} {hi h n:Nat} {seen s:List Nat} {i:Nat} {kd:D} {es:List (MK × Tr)} {k:MK} {t:Tr} (ho:o.op = .entry x) (hx:ev x=some (.ptr hi 0)) (hm1:m hi=some (.itr h n seen)) (hm0:m h=some (.map kd es)) (hn0:n=es.length) (hs:seen=s++[i]) (he:es[i]? = some (k,t)) (hgd:good k.val)
  (hK:K (.tup [.tr (.v k.val),.tr t]) [(hi,.itr h n seen),(h,.map kd es)] []):LOk P o m nh ev K:=by
 refine LOk.pure _ _ hK (fun p hp => ?_) fun g w m' ρ hm hrd hev => ?_
 ·simp only [List.mem_cons,List.not_mem_nil,or_false] at hp
  rcases hp with rfl | rfl
  ·exact hm1
  ·exact hm0
 obtain ⟨l1,q1,r,b,rfl,c1,c2⟩:=hm.blk hi _ (hrd (hi,.itr h n seen) (by simp))
 obtain ⟨lc,g1,bb,ents,clock,rfl,b1,b2,b3,b4⟩:=hm.blk h _ (hrd (h,.map kd es) (by simp))
 obtain rfl:b=bb:=by have:=mp_is g1 c2; cases this; rfl
 have hv:ρ x = .pointer (some ⟨r,0,none⟩):=(hev _ _ hx).ptr_inv q1
 obtain ⟨en,d1,d2,d3⟩:=b4 i k t he
 have hb:=b2.2.2 i en d1
 have hc:clock=n:=by rw [hn0]; exact b2.2.1.trans b2.1
 have hrun:=run_entry_at (P:=P) w r b n s.toArray ents clock en (by rw [c1,hs,hb,hc]; simp) b1 (by rw [Array.mem_toList_iff]; exact Array.mem_of_getElem? d1) (born_nodup b2.2.2)
 refine ⟨.tuple #[en.key,en.val],?_,.tup rfl fun j c a e1 e2 => ?_⟩
 ·simp [execOp,ho,hv,hrun]
 ·match j,e2 with
  | 0,e2=>cases e2; cases e1; rw [d2]; exact .tr (.v hgd)
  | 1,e2=>cases e2; cases e1; exact .tr d3
theorem l_lstNil (hT:TOk P T) {op:BinOp} {t q e n B:Nat} {x y:Operand} {rows:List (List Tr)} {v:Bool} (ho:o.op = .binOp op t x y q) (hx:ev x=some (.tr (.lst n B rows))) (hy:ev y=some (.tr (.v (.slice none 0 0)))) (hd:dOf T t=some (.slice e)) (hlt:0<rows.length)
  (h:(op = .eql∧v=false)∨(op = .neq∧v=true)) (hK:K (.tr (.v (.bool v))) [] []):LOk P o m nh ev K:=by
 refine LOk.pure _ _ hK (by simp) fun g w m' ρ hm hrd hev => ?_
 obtain ⟨ao,cap,f,hv,q1,q2,q3,q4,q5,q6⟩:=lst_inv (hev _ _ hx).tr_inv
 obtain ⟨hw,_⟩:=val_inv (hev _ _ hy)
 obtain ⟨u,u1,u2⟩:=dOf_und hT hd
 obtain rfl:=D_slice u2
 obtain ⟨_,b,of,e1,_⟩:=q5 0 rows[0] (by simp [hlt])
 subst e1
 have heq:(Op.equal t (.slice (some ⟨b,of,none⟩) rows.length cap) (.slice none 0 0)).run P w = .ok false w:=by
  show (Op.equalIn (9999+1) t _ _).run P w=_
  generalize 9999=k
  simp [Op.equalIn,run_underlying u1]
 refine ⟨.bool v,?_,.tr (.v trivial)⟩
 rcases h with ⟨rfl,rfl⟩ | ⟨rfl,rfl⟩
 ·simp [execOp,ho,hv,hw,eqGuard,binOp,heq]
 ·simp [execOp,ho,hv,hw,eqGuard,binOp,heq]
end
end Go.Proofs.YtbflekglkkdipaaGreatDoor.am
namespace Go.Proofs.YtbflekglkkdipaaGreatDoor.am
open Go
set_option linter.unusedSimpArgs false
section
variable {P:Program} {T:Ty} {o:Oper} {m:Mem} {nh:Nat} {ev:Operand→Option AV} {K:KK}
theorem frz_inv {g:Gh} {w:World} {v:Value} {z:Nat} {a:AV} (h:Rep g w v (.ifc (4*HMod) (.fn z [a]))) : ∃ b o u,v = .pointer (some ⟨b,o,none⟩)∧w.cell? ⟨b,o,none⟩=some u∧Rep g w u a:=by
 generalize ht:(4*HMod:Nat)=t at h
 generalize ha:(AV.fn z [a])=q at h
 cases h with
 | ifc h1 _=>omega
 | bnd h1 _=>omega
 | psl hp =>
  rename_i len b
  subst ha
  generalize hpv:Value.pointer (some ⟨b,0,none⟩)=pv at hp
  cases hp with
  | fn=>cases hpv
 | frz h1 h2 h3 =>
  cases ha
  exact ⟨_,_,_,rfl,h2,h3⟩
 | win _ _=>cases ha
theorem l_loadF (hT:TOk P T) {ty:TypeId} {x:Operand} {a:AV} (ho:o.op = .load ty x) (hx:ev x=some a) (h:aloadF T m nh ty K a):LOk P o m nh ev K:=by
 have hrun : ∀ (ρ:Operand→Value) (w:World) (v u:Value),ρ x=u→(Instr.loadAt ty u).run P w = .ok v w→(execOp ρ o).run P w = .ok (.value v) w:=fun ρ w v u hu e=>by
  subst hu; simp [execOp,ho,e]
 unfold aloadF at h
 split at h
 ·rename_i hd n i off
  split at h
  case h_2=>exact l_loadO hT ho hx h
  rename_i e B h2 l em
  split at h
  case h_2=>exact h.elim
  rename_i ti e1
  cases hag:ti.d.agg with
  | true=>rw [hag] at h; exact h.elim
  | false =>
  rw [hag,cond_false] at h
  obtain ⟨rfl,rfl,hlt,hK⟩:=h
  obtain ⟨p,hp⟩ : ∃ p,l[i]? = some p:=⟨_,List.getElem?_eq_getElem hlt⟩
  refine LOk.pure _ _ (hK p hp) (by simpa using em) fun g w m' ρ hm hrd hev => ?_
  obtain ⟨lc,g1,g2⟩:=hm.blk hd _ (hrd (hd,.fns e B h2 l) (by simp))
  obtain ⟨_,⟨_,rfl⟩ | ⟨b,cap,cur,rfl,k1,k2,k3,k4,k5⟩⟩:=g2
  ·simp at hlt
  obtain ⟨c,c1,c2⟩:=k5 i p hp
  obtain ⟨k,cap',e3,e4⟩:=(hev _ _ hx).vpt_inv g1
  cases e3
  refine ⟨c,hrun ρ w _ _ e4 (run_load1 hT e1 hag ?_),c2⟩
  rw [heap_cell k1,show i*1+0=i by omega]
  exact c1
 ·rename_i t z b
  split at h
  case h_2=>exact h.elim
  rename_i ti e1
  cases hc:(!ti.d.agg && Nat.beq t (4*HMod)) with
  | false=>rw [hc] at h; exact h.elim
  | true =>
  rw [hc,cond_true] at h
  simp only [Bool.and_eq_true,Bool.not_eq_true'] at hc
  obtain ⟨hag,ht⟩:=hc
  obtain rfl:=Nat.eq_of_beq_eq_true ht
  refine LOk.pure _ _ h (by simp) fun g w m' ρ hm hrd hev => ?_
  obtain ⟨b',o',u,e2,e3,e4⟩:=frz_inv (hev _ _ hx)
  exact ⟨u,hrun ρ w _ _ e2 (run_load1 hT e1 hag e3),e4⟩
 ·exact l_loadO hT ho hx h
theorem l_indexAddrF (hT:TOk P T) {ty:Nat} {x i:Operand} {a:AV} {k:IntKind} {z:Int} (ho:o.op = .indexAddr ty x i) (hx:ev x=some a) (hi:ev i=some (.tr (.v (.int k z)))) (h:aindexAddrF T m ty z K a):LOk P o m nh ev K:=by
 unfold aindexAddrF at h
 split at h
 case h_2=>exact l_indexAddrO hT ho hx hi h
 rename_i hd len
 split at h
 case h_2=>exact l_indexAddrO hT ho hx hi h
 rename_i e' B h2 l em
 split at h
 case h_2=>exact h.elim
 rename_i e s1 s2 s3 s4 e1
 split at h
 case h_2=>exact h.elim
 rename_i te e2
 obtain ⟨hn,h0,h1,h⟩:=h
 refine LOk.pure _ _ h (by simpa using em) fun g w m' ρ hm hrd hev => ?_
 obtain ⟨u,u1,u2,_⟩:=run_und hT e1 w
 obtain rfl:=D_slice u2
 obtain ⟨hz,_⟩:=int_inv (hev _ _ hi)
 obtain ⟨lc,g1,g2⟩:=hm.blk hd _ (hrd (hd,.fns e' B h2 l) (by simp))
 rcases (hev _ _ hx).sl_inv g1 with ⟨b,cap,rfl,hle,hv⟩ | ⟨rfl,rfl,hv⟩
 ·refine ⟨.pointer (some ⟨b,z.toNat*1+0,none⟩),?_,.vpt g1⟩
  simp [execOp,ho,hv,hz,Instr.indexAt,asIntOf,u1,h0,h1,run_size hT e2,hn,add_mk]
 ·omega
theorem fnOf_inv {a:AV} {h f:Nat} {cs:List Tr} (e:fnOf a=some (h,f,cs)):a=fnAV h (f,cs):=by
 unfold fnOf at e
 split at e
 case h_2=>cases e
 rename_i f' t z h' o' cs'
 cases hc:(Nat.beq t (4*HMod) && Nat.beq z 0 && Nat.beq o' 0) with
 | false=>rw [hc] at e; cases e
 | true =>
  rw [hc] at e
  cases e
  simp only [Bool.and_eq_true] at hc
  rw [Nat.eq_of_beq_eq_true hc.1.1,Nat.eq_of_beq_eq_true hc.1.2,Nat.eq_of_beq_eq_true hc.2]
  rfl
theorem fn_val {g:Gh} {w:World} {v:Value} {h:Nat} {p:Nat × List Tr} (hr:Rep g w v (fnAV h p)):v.cells = #[v]:=by
 unfold fnAV at hr
 cases hr with
 | fn=>rfl
theorem l_buildSliceF (hT:TOk P T) {t e len:Nat} {te:TyI} {ps:Array (Nat × Operand)} {a b:Nat} {z:List Z} {q:Bool} {h f:Nat} {cs:List Tr} (ho:o.op = .buildSlice t len ps) (ht:lk T t=some ⟨.slice e,a,b,z,q⟩) (he:lk T e=some te)
  (hr:fnParts (parts ev ps)=some (h,f,cs)) (hl:len=1) (h1:te.size=1) (h3:te.bytes≤140737488351232) (hK:K (.sl nh 1) [] [(nh,some (.fns e te.bytes h [(f,cs)]))]):LOk P o m nh ev K:=by
 subst hl
 obtain ⟨x,hps,hx⟩ : ∃ x,ps = #[(0,x)]∧ev x=some (fnAV h (f,cs)):=by
  unfold fnParts at hr
  split at hr
  case h_2=>cases hr
  rename_i i a hp
  cases hi:Nat.beq i 0 with
  | false=>rw [hi] at hr; cases hr
  | true =>
  rw [hi,cond_true] at hr
  obtain rfl:=Nat.eq_of_beq_eq_true hi
  unfold parts at hp
  obtain ⟨l⟩:=ps
  match l,hp with
  | [(j,x)],hp =>
   simp only [List.map_cons,List.map_nil,List.cons.injEq,Prod.mk.injEq,and_true] at hp
   obtain ⟨rfl,hp⟩:=hp
   exact ⟨x,rfl,by rw [hp,fnOf_inv hr]⟩
  | [],hp=>cases hp
  | _::_::_,hp=>simp at hp
 subst hps
 refine ⟨_,_,_,hK,by simp,by simp,fun g w m' ρ hm hn hrd hev => ?_⟩
 obtain ⟨ti,u,zt,_,u2,u3,_⟩:=hT.info ht
 obtain rfl:=D_slice u3
 obtain ⟨ti',u',z',i1,_,_,i4,_,i6,i7,i8⟩:=hT.info he
 have hrx:=hev _ _ hx
 have q3 : ∀ v ∈ [ρ x],v.cells = #[v]:=fun v hv=>by
  simp only [List.mem_singleton] at hv
  rw [hv]; exact fn_val hrx
 have hz:=(zcells_cells i7).1
 have hfl:=Great.fill_whole (s:=te.size) (by omega) [ρ x] ((Array.range (1*te.size)).map (z'.cells[· % z'.cells.size]!)) (fun v hv=>by rw [q3 v hv,h1]; rfl) (by simp)
 have hrun:=run_buildSlice (P:=P) w t e 1 #[(0,ρ x)] _ ti' z' u2 i1 i6 (by rw [i4,h1]; omega) (by rw [i4,h1]; omega) (by rw [i4]; exact hfl)
 rw [flat_one _ q3] at hrun
 have hloc : ∀ b,Loc.b (.row w.heap.size 1)=some b→b=w.heap.size:=fun b e=>by cases e; rfl
 have hg:=grow_alloc (w:=w) hm.xlt hn (.cells [ρ x].toArray e) hloc
 refine LRes.new hm hn (.cells [ρ x].toArray e) (.row w.heap.size 1) hloc _ (.slice (some ⟨w.heap.size,0,none⟩) 1 1) ?_ (fun _=>⟨by simp; omega,.inr ⟨_,_,_,rfl,heap_alloc_new w _,Nat.le_refl _,by decide,rfl,fun i p hi => ?_⟩⟩) (.sl (gset_same ..) (Nat.le_refl _))
 ·simp only [execOp,ho,Sem.run_bind]
  rw [show Array.map (fun x=>(x.fst,ρ x.snd)) #[(0,x)] = #[(0,ρ x)] by simp,hrun,Result.andThen_ok]
  rfl
 ·match i,hi with
  | 0,hi =>
   cases hi
   exact ⟨ρ x,rfl,hrx.grow hg⟩
theorem fnsAt_inv {a:AV} {h len e B k:Nat} {l:List (Nat × List Tr)} (q:fnsAt m a=some (h,len,e,B,k,l)):a = .sl h len∧m h=some (.fns e B k l):=by
 unfold fnsAt at q
 split at q
 ·split at q
  ·rename_i em; cases q; exact ⟨rfl,em⟩
  ·cases q
 ·cases q
theorem l_appendG (hT:TOk P T) {t:Nat} {x y:Operand} {ax ay:AV} (ho:o.op = .call { callee := .builtin .append,args := #[x,y],argTypes := #[t,t] }) (hx:ev x=some ax) (hy:ev y=some ay) (h:aappendG T m nh t ax ay K):LOk P o m nh ev K:=by
 have hrun : ∀ (ρ:Operand→Value) (w w':World) (v:Value),(Builtin.append_ #[t,t] o.type #[ρ x,ρ y]).run P w = .ok v w'→(execOp ρ o).run P w = .ok (.value v) w':=fun ρ w w' v e=>by
  simp [execOp,ho,resolve,invoke,builtin,e]
 unfold aappendG at h
 split at h
 case h_2=>exact l_appendF hT ho hx hy h
 rename_i hd len e1 B1 k1 l1 hd' len' e2 B2 k2 l2 f1 f2
 obtain ⟨rfl,em1⟩:=fnsAt_inv f1
 obtain ⟨rfl,em2⟩:=fnsAt_inv f2
 split at h
 case h_2=>exact h.elim
 rename_i e s1 s2 s3 s4 t1
 split at h
 case h_2=>exact h.elim
 rename_i te t2
 cases hc:(Nat.beq te.size 1 && Nat.ble 1 te.bytes && Nat.beq k1 k2 && Nat.beq B1 te.bytes && Nat.beq e1 e && !Nat.beq hd hd') with
 | false=>rw [hc] at h; exact h.elim
 | true =>
 rw [hc,cond_true] at h
 simp only [Bool.and_eq_true,Bool.not_eq_true'] at hc
 obtain ⟨⟨⟨⟨⟨c1,c2⟩,c3⟩,c4⟩,c5⟩,c6⟩:=hc
 have hs1:=Nat.eq_of_beq_eq_true c1
 have hb1:=Nat.le_of_ble_eq_true c2
 obtain rfl:=Nat.eq_of_beq_eq_true c3
 obtain rfl:=Nat.eq_of_beq_eq_true c5
 clear c1 c2 c3 c4 c5
 obtain ⟨rfl,rfl,hB,hK⟩:=h
 refine ⟨_,_,_,hK,fun p hp => ?_,fun p hp => ?_,fun g w m' ρ hm hn hrd hev => ?_⟩
 ·simp only [List.mem_cons,List.not_mem_nil,or_false] at hp
  rcases hp with rfl | rfl
  ·exact em1
  ·exact em2
 ·simp only [List.mem_cons,List.not_mem_nil,or_false] at hp
  rcases hp with rfl | rfl
  ·exact .inl rfl
  ·exact .inr ⟨(hd,.fns e1 B1 k1 l1),by simp,rfl⟩
 obtain ⟨l,g1,g2⟩:=hm.blk hd _ (hrd (hd,.fns e1 B1 k1 l1) (by simp))
 obtain ⟨l',g1',g2'⟩:=hm.blk hd' _ (hrd (hd',.fns e2 B2 k1 l2) (by simp))
 have h63:l1.length+l2.length≤9223372036854775807:=by
  have:(l1.length+l2.length)*1≤(l1.length+l2.length)*te.bytes:=Nat.mul_le_mul_left _ hb1
  omega
 have row : ∀ {hq:Nat} {q:Loc} {e B:Nat} {fs:List (Nat × List Tr)} {v:Value},g hq = .live q→BRep g w q (g.F hq) (.fns e B k1 fs)→Rep g w v (.sl hq fs.length) → ∃ xs,w.ownsRow 0 e te.size v fs.length xs∧v.ownBlock=q.b∧xs.length=fs.length ∧
   (∀ (j:Nat) (p:Nat × List Tr),fs[j]? = some p → ∃ u,xs[j]? = some u∧Rep g w u (fnAV k1 p)) ∧ ∃ ao c,v = .slice ao fs.length c ∧ ∀ (j:Nat) (u:Value),xs[j]? = some u → ∃ b o,ao=some ⟨b,o,none⟩∧w.cell? ⟨b,o+j,none⟩=some u:=by
  intro hq q e B fs v hl hbr hv
  obtain ⟨_,⟨rfl,rfl⟩ | ⟨b,cap,cur,rfl,k1,k2,k3,k4,k5⟩⟩:=hbr
  ·rcases hv.sl_inv hl with ⟨b,cap,e0,_,_⟩ | ⟨_,_,e5⟩
   ·cases e0
   ·rw [e5]; exact ⟨[],World.ownsRow_nil _ _ _ _,rfl,rfl,by simp,none,0,rfl,by simp⟩
  ·rcases hv.sl_inv hl with ⟨b',cap',e0,e4,e5⟩ | ⟨e0,_⟩
   ·cases e0
    rw [e5]
    refine ⟨cur.toList.take (fs.length*te.size),⟨by simp; rw [hs1]; omega,.inr ⟨b,cap,cur,rfl,Nat.zero_le _,k1,e4,by simpa [maxLen] using k3,by rw [hs1,Nat.mul_one]; exact k4,rfl⟩⟩,rfl,by simp; rw [hs1]; omega,fun j p hj => ?_,_,_,rfl,fun j u hj => ?_⟩
    ·obtain ⟨u,c1,c2⟩:=k5 j p hj
     have hlt:=(List.getElem?_eq_some_iff.1 hj).1
     exact ⟨u,by rw [List.getElem?_take,if_pos (by rw [hs1]; omega)]; simpa using c1,c2⟩
    ·rw [List.getElem?_take] at hj
     split at hj
     ·exact ⟨b,0,rfl,by rw [heap_cell k1,Nat.zero_add]; simpa using hj⟩
     ·cases hj
   ·cases e0
 obtain ⟨xs,hown,hlb,hxl,hxs,_⟩:=row g1 g2 (hev _ _ hx)
 obtain ⟨cl,_,_,hcl,hcs,ao,cc,q1,q3⟩:=row g1' g2' (hev _ _ hy)
 have one : ∀ u ∈ cl,u.oneCell'=true:=fun u hu=>by
  obtain ⟨j,hj⟩:=List.mem_iff_getElem?.1 hu
  have hlt:=(List.getElem?_eq_some_iff.1 hj).1
  obtain ⟨p,hp⟩ : ∃ p,l2[j]? = some p:=⟨_,List.getElem?_eq_getElem (by omega)⟩
  obtain ⟨u',c1,c2⟩:=hcs j p hp
  rw [hj] at c1; cases c1
  exact c2.one rfl
 obtain ⟨v',w',r1,r2,r3,r4⟩:=append_own (ty:=o.type) hT (g:=g) t1 t2 (by omega) hown (by rw [hcl,hs1,Nat.mul_one]) q3 one h63 (by omega)
 rw [← q1] at r1
 rw [hlb] at r3 r4
 have hun : ∀ h,h≠nh→g h = .un→hd≠h:=fun h _ h2 e=>by rw [e] at g1; rw [h2] at g1; cases g1
 obtain ⟨_,⟨rfl,rn⟩ | ⟨k,cap,cur,rfl,_,k1',k2,k3,k4,k5⟩⟩:=r2
 ·have z1:l1=[]:=List.eq_nil_of_length_eq_zero (by omega)
  have z2:l2=[]:=List.eq_nil_of_length_eq_zero (by omega)
  subst z1 z2
  exact ⟨_,w',.inl ⟨_,hrun ρ w w' _ r1,.slN (gapp_new ..)⟩,mst_append (l:=l) (l' := .nil) (hd:=some hd) hm hn (fun h e=>by cases e; exact g1) r3 (by simp) (by simp [Loc.b]) (by simp [Loc.b]) ⟨by simp,.inl ⟨rfl,by simp⟩⟩,grow_append hm (l:=l) (l' := .nil) (hd:=some hd) hn (fun h e=>by cases e; exact g1) r3 (by simp) (by simp [Loc.b]),fun h h1 h2=>by
   rw [gapp_un h1 (by simp [hun h h1 h2]),h2]⟩
 ·have hnew : ∀ b,(Loc.row k cap).b=some b→l.b=some b∨w.heap.size≤b:=fun b eb=>by
   cases eb
   rcases r4 with r4 | r4
   ·exact .inl (by rw [← r4]; rfl)
   ·simp [Value.ownBlock] at r4; exact .inr (by omega)
  have hG:=grow_append hm (l:=l) (l' := .row k cap) (hd:=some hd) hn (fun h e=>by cases e; exact g1) r3 (by simp) hnew
  refine ⟨_,w',.inl ⟨_,hrun ρ w w' _ r1,.sl (b:=k) (cap:=cap) (gapp_new ..) k2⟩,mst_append (l:=l) (l' := .row k cap) (hd:=some hd) hm hn (fun h e=>by cases e; exact g1) r3 (by simp) hnew (fun b eb=>by cases eb; exact (Array.getElem?_eq_some_iff.1 k1').1)
   ⟨by rw [List.length_append]; exact hB,.inr ⟨k,cap,cur,rfl,k1',by rw [List.length_append]; exact k2,by simpa [maxLen] using k3,by rw [k4,hs1,Nat.mul_one],fun i p hi => ?_⟩⟩,hG,fun h h1 h2=>by
    rw [gapp_un h1 (by simp [hun h h1 h2]),h2]⟩
  have : ∃ u,(xs++cl)[i]? = some u∧Rep g w u (fnAV k1 p):=by
   by_cases c1:i<l1.length
   ·rw [List.getElem?_append_left c1] at hi
    rw [List.getElem?_append_left (by omega)]
    exact hxs i p hi
   ·rw [List.getElem?_append_right (by omega)] at hi
    rw [List.getElem?_append_right (by omega),hxl]
    exact hcs _ p hi
  obtain ⟨u,c1,c2⟩:=this
  refine ⟨u,?_,c2.grow hG⟩
  rw [← k5,List.getElem?_take] at c1
  split at c1
  ·simpa using c1
  ·cases c1
end
end Go.Proofs.YtbflekglkkdipaaGreatDoor.am
namespace Go.Proofs.YtbflekglkkdipaaGreatDoor.am
open Go
set_option linter.unusedSimpArgs false
section
variable {P:Program} {T:Ty} {o:Oper} {m:Mem} {nh:Nat} {ev:Operand→Option AV} {K:KK}
theorem optZ_inv {g:Gh} {w:World} {ρ:Operand→Value} (hev : ∀ x b,ev x=some b→Rep g w (ρ x) b) {lo:Option Operand} {l:Option Int} (h:optZ (lo.map ev)=some l):(lo=none∧l=none) ∨ ∃ x k z,lo=some x∧l=some z∧ρ x = .int k z:=by
 cases lo with
 | none=>left; simpa [optZ,eq_comm] using h
 | some x =>
  right
  simp only [Option.map_some] at h
  unfold optZ at h
  split at h
  ·rename_i e; cases e
  ·rename_i k z e
   cases h
   have e:ev x=some (.tr (.v (.int k z))):=by simpa using e
   exact ⟨x,k,z,rfl,rfl,(int_inv (hev x _ e)).1⟩
  ·cases h
theorem run_bounds {P:Program} {w:World} {ρ:Operand→Value} {isS:Bool} {len cap:Nat} {lo hi:Option Operand} {l h:Option Int} (hl:(lo=none∧l=none) ∨ ∃ x k z,lo=some x∧l=some z∧ρ x = .int k z) (hh:(hi=none∧h=none) ∨ ∃ x k z,hi=some x∧h=some z∧ρ x = .int k z)
  (h0:0≤l.getD 0) (h1:l.getD 0≤h.getD len) (h2:h.getD len≤len) (hc:len≤cap) :
  (Instr.sliceBounds isS len cap (lo.map ρ) (hi.map ρ) none).run P w = .ok ((l.getD 0).toNat,(h.getD len).toNat,cap) w:=by
 have hb : ∀ (k:IntKind) (z:Int) (y:Nat) (code:BoundsCode),0≤z→z≤y→(Instr.sliceBound (.int k z) y code).run P w = .ok z.toNat w:=fun k z y code a b=>by
  simp [Instr.sliceBound,asIntOf,a,b]
 rcases hh with ⟨rfl,rfl⟩ | ⟨x,k,z,rfl,rfl,e⟩
 ·rcases hl with ⟨rfl,rfl⟩ | ⟨x,k,z,rfl,rfl,e⟩
  ·simp [Instr.sliceBounds]
  ·simp only [Option.getD_some,Option.getD_none] at h0 h1
   simp [Instr.sliceBounds,e,hb k z len _ h0 h1]
 ·simp only [Option.getD_some] at h1 h2
  have hz:0≤z:=by omega
  have q:=fun code=>hb k z cap code hz (by omega)
  rcases hl with ⟨rfl,rfl⟩ | ⟨x',k',z',rfl,rfl,e'⟩
  ·simp [Instr.sliceBounds,e,q]
  ·simp only [Option.getD_some] at h0 h1
   simp [Instr.sliceBounds,e,q,e',hb k' z' z.toNat _ h0 (by omega)]
theorem l_slice3 (hT:TOk P T) {t:Nat} {x hi mx:Operand} {a:AV} {h z:Int} {k1 k2:IntKind} (ho:o.op = .slice t x none (some hi) (some mx)) (hx:ev x=some a) (hh:ev hi=some (.tr (.v (.int k1 h)))) (hz:ev mx=some (.tr (.v (.int k2 z)))) (hK:aslice3 T t h z K a):LOk P o m nh ev K:=by
 unfold aslice3 at hK
 split at hK
 case h_2=>exact hK.elim
 rename_i n B rows
 split at hK
 case h_2=>exact hK.elim
 rename_i e s1 s2 s3 s4 e1
 split at hK
 case h_2=>exact hK.elim
 rename_i te e2
 obtain ⟨hn,rfl,h0,h1,hK⟩:=hK
 refine LOk.pure _ _ hK (by simp) fun g w m' ρ hm hrd hev => ?_
 obtain ⟨u,u1,u2,u3⟩:=run_und hT e1 w
 obtain rfl:=D_slice u2
 obtain ⟨ao,cap,f,hv,q1,q2,q3,q4,q5,q6⟩:=lst_inv (hev _ _ hx).tr_inv
 have eh:=(int_inv (hev _ _ hh)).1
 have ez:=(int_inv (hev _ _ hz)).1
 have hb : ∀ (k:IntKind) (y:Nat) (code:BoundsCode),h≤y→(Instr.sliceBound (.int k h) y code).run P w = .ok h.toNat w:=fun k y code b=>by
  simp [Instr.sliceBound,asIntOf,h0,b]
 have hlen:(rows.take h.toNat).length=h.toNat:=by simp; omega
 have hget : ∀ (i:Nat) (row:List Tr),(rows.take h.toNat)[i]? = some row→rows[i]? = some row:=fun i row hr=>by
  rw [List.getElem?_take] at hr
  split at hr
  ·exact hr
  ·cases hr
 have hrun:(Instr.sliceAt t (ρ x) none (some (ρ hi)) (some (ρ mx))).run P w = .ok (.slice (if h.toNat=0 then ao else ao.map (·.add 0)) h.toNat h.toNat) w:=by
  simp only [Instr.sliceAt,Sem.run_bind,u1,Result.andThen_ok,Instr.slice,Instr.sliceBounds,hv,eh,ez,hb k2 cap _ (by omega),hb k1 h.toNat _ (by omega),run_size hT e2,hn,Sem.run_pure]
  simp
 refine ⟨.slice (if h.toNat=0 then ao else ao.map (·.add 0)) h.toNat h.toNat,?_,.ful (.lst f hlen.symm (Nat.le_refl _) (by omega) ?_ (fun ea => ?_) (fun i row hr => ?_) fun i row j t hr ht=>q6 i row j t (hget i row hr) ht) ⟨_,_,rfl⟩⟩
 ·simp only [execOp,ho,Sem.run_bind,Option.map_none,Option.map_some,hrun,Result.andThen_ok]
  rfl
 ·have:h.toNat*B≤rows.length*B:=Nat.mul_le_mul_right _ (by omega)
  omega
 ·have hao:ao=none:=by
   split at ea
   ·exact ea
   ·simpa using ea
  have:=q4 hao; omega
 ·obtain ⟨r1,b,of,r2,r3,r4⟩:=q5 i row (hget i row hr)
  refine ⟨r1,b,of,?_,r3,r4⟩
  rw [r2]
  split
  ·rfl
  ·simp [add_mk]
theorem l_slice (hT:TOk P T) {t:Nat} {x:Operand} {lo hi:Option Operand} {a:AV} {l h:Option Int} (ho:o.op = .slice t x lo hi none) (hx:ev x=some a) (hl:optZ (lo.map ev)=some l) (hh:optZ (hi.map ev)=some h) (hK:aslice T m t l h K a):LOk P o m nh ev K:=by
 unfold aslice at hK
 split at hK
 ·rename_i s
  split at hK
  case h_2=>exact hK.elim
  rename_i s1 s2 s3 s4 e1
  obtain ⟨h0,h1,h2,hK⟩:=hK
  refine LOk.pure _ _ hK (by simp) fun g w m' ρ hm hrd hev => ?_
  obtain ⟨e2,g2⟩:=val_inv (hev _ _ hx)
  obtain ⟨u,u1,u2,u3⟩:=run_und hT e1 w
  obtain rfl:=D_string u2
  have hb:=run_bounds (P:=P) (w:=w) (isS:=false) (len:=s.size) (cap:=s.size) (optZ_inv hev hl) (optZ_inv hev hh) h0 h1 h2 (Nat.le_refl _)
  refine ⟨_,?_,.tr (.v (show (s.extract _ _).size≤9223372036854775807 from ?_))⟩
  ·have hagg:(Instr.sliceAt t (ρ x) (lo.map ρ) (hi.map ρ) none).run P w = .ok (.string (s.extract (l.getD 0).toNat (h.getD s.size).toNat)) w:=by
    simp only [Instr.sliceAt,Sem.run_bind,u1,Result.andThen_ok,Instr.slice,e2]
    simp only [Option.isSome_none,Bool.false_eq_true,if_false,Sem.run_bind,Sem.run_pure,Result.andThen_ok,hb]
   simp only [execOp,ho,Sem.run_bind,Option.map_none,hagg,Result.andThen_ok]
   rfl
  ·have:(s.extract (l.getD 0).toNat (h.getD s.size).toNat).size≤s.size:=by simp [ByteArray.size_extract]; omega
   exact Nat.le_trans this g2
 ·rename_i n B rows
  split at hK
  case h_2=>exact hK.elim
  rename_i e s1 s2 s3 s4 e1
  split at hK
  case h_2=>exact hK.elim
  rename_i te e2
  obtain ⟨hn,h0,h1,h2,hK⟩:=hK
  refine LOk.pure _ _ hK (by simp) fun g w m' ρ hm hrd hev => ?_
  obtain ⟨u,u1,u2,u3⟩:=run_und hT e1 w
  obtain rfl:=D_slice u2
  obtain ⟨ao,cap,f,hv,q1,q2,q3,q4,q5,q6⟩:=lst_inv (hev _ _ hx).tr_inv
  have hb:=run_bounds (P:=P) (w:=w) (isS:=true) (len:=rows.length) (cap:=cap) (optZ_inv hev hl) (optZ_inv hev hh) h0 h1 h2 q1
  generalize hL:l.getD 0=lo' at *
  generalize hH:h.getD (rows.length:Int)=hi' at *
  have hlen:((rows.take hi'.toNat).drop lo'.toNat).length=hi'.toNat - lo'.toNat:=by simp; omega
  have hget : ∀ (i:Nat) (row:List Tr),((rows.take hi'.toNat).drop lo'.toNat)[i]? = some row→rows[lo'.toNat+i]? = some row:=fun i row hr=>by
   rw [List.getElem?_drop,List.getElem?_take] at hr
   split at hr
   ·exact hr
   ·cases hr
  have hrun:(Instr.sliceAt t (ρ x) (lo.map ρ) (hi.map ρ) none).run P w = .ok (.slice (if cap=lo'.toNat then ao else ao.map (·.add (lo'.toNat*n))) (hi'.toNat - lo'.toNat) (cap - lo'.toNat)) w:=by
   simp only [Instr.sliceAt,Sem.run_bind,u1,Result.andThen_ok,Instr.slice,hv,hb,run_size hT e2,hn]
   simp
  refine ⟨.slice (if cap=lo'.toNat then ao else ao.map (·.add (lo'.toNat*n))) (hi'.toNat - lo'.toNat) (cap - lo'.toNat),?_,.tr (.lst (fun i j=>f (lo'.toNat+i) j) hlen.symm (by omega) (by omega) ?_ (fun e => ?_) (fun i row hr => ?_) (fun i row j tt hr hj=>q6 _ row j tt (hget i row hr) hj))⟩
  ·simp only [execOp,ho,Sem.run_bind,Option.map_none,hrun,Result.andThen_ok]
   rfl
  ·have:(hi'.toNat - lo'.toNat)*B≤rows.length*B:=Nat.mul_le_mul_right _ (by omega)
   omega
  ·have hao:ao=none:=by
    split at e
    ·exact e
    ·simpa using e
   have:=q4 hao; omega
  ·obtain ⟨r1,b,of,r2,r3,r4⟩:=q5 _ row (hget i row hr)
   have hi1:lo'.toNat+i<rows.length:=(List.getElem?_eq_some_iff.1 (hget i row hr)).1
   refine ⟨r1,b,of+lo'.toNat*n,?_,r3,fun j hj => ?_⟩
   ·rw [if_neg (show ¬ cap=lo'.toNat by omega),r2]; simp [add_mk]
   ·rw [← r4 j hj]; congr 2; rw [Nat.add_mul]; omega
 ·rename_i hd len
  split at hK
  case h_3=>exact hK.elim
  case h_2 =>
   rename_i e s1 s2 s3 s4 l n B rows ln e1 em
   split at hK
   case h_2=>exact hK.elim
   rename_i te e2
   obtain ⟨hn,h0,h1,hK⟩:=hK
   subst hn
   have hcap : ∀ (g:Gh) (w:World) (ρ:Operand→Value),(∀ x b,ev x=some b→Rep g w (ρ x) b) → ∀ cap,len≤cap→(Instr.sliceBounds true len cap (lo.map ρ) (hi.map ρ) none).run P w = .ok (l.toNat,len,cap) w:=fun g w ρ hev cap hc=>by
    have:=run_bounds (P:=P) (w:=w) (isS:=true) (len:=len) (cap:=cap) (optZ_inv hev hl) (optZ_inv hev hh) (by simp; omega) (by simp; omega) (by simp) hc
    simpa using this
   by_cases hlt:l<(len:Int)
   ·rw [decide_eq_true hlt,cond_true] at hK
    refine LOk.pure _ _ hK (by simpa using em) fun g w m' ρ hm hrd hev => ?_
    obtain ⟨lc,g1,g2⟩:=hm.blk hd _ (hrd (hd,.own te.size B rows ln) (by simp))
    obtain ⟨u,u1,u2,u3⟩:=run_und hT e1 w
    obtain rfl:=D_slice u2
    rcases (hev _ _ hx).sl_inv g1 with ⟨b,cap,rfl,hle,hv⟩ | ⟨rfl,rfl,hv⟩
    ·have hrun:(Instr.sliceAt t (ρ x) (lo.map ρ) (hi.map ρ) none).run P w = .ok (.slice (some ⟨b,l.toNat*te.size+0,none⟩) (len - l.toNat) (cap - l.toNat)) w:=by
      simp only [Instr.sliceAt,Sem.run_bind,u1,Result.andThen_ok,Instr.slice,hv,hcap g w ρ hev cap hle,run_size hT e2]
      simp [show ¬ cap=l.toNat by omega,add_mk]
     have hcm:cap≤9223372036854775807:=by
      obtain ⟨_,_,⟨e,_⟩ | ⟨b2,cap2,cur,_,_,e,_,_,q,_⟩⟩:=g2
      ·cases e
      ·cases e; exact q
     refine ⟨_,?_,.win (.vpt g1) (show len - l.toNat≤cap - l.toNat by omega) (by omega)⟩
     simp only [execOp,ho,Sem.run_bind,Option.map_none,hrun,Result.andThen_ok]
     rfl
    ·simp at hlt; omega
   ·rw [decide_eq_false hlt,cond_false] at hK
    refine LOk.pure _ _ hK (by simpa using em) fun g w m' ρ hm hrd hev => ?_
    obtain ⟨lc,g1,g2⟩:=hm.blk hd _ (hrd (hd,.own te.size B rows ln) (by simp))
    obtain ⟨u,u1,u2,u3⟩:=run_und hT e1 w
    obtain rfl:=D_slice u2
    rcases (hev _ _ hx).sl_inv g1 with ⟨b,cap,rfl,hle,hv⟩ | ⟨rfl,rfl,hv⟩
    ·have hcm:cap≤9223372036854775807:=by
      obtain ⟨_,_,⟨e,_⟩ | ⟨b2,cap2,cur,_,_,e,_,_,q,_⟩⟩:=g2
      ·cases e
      ·cases e; exact q
     have hrun:(Instr.sliceAt t (ρ x) (lo.map ρ) (hi.map ρ) none).run P w = .ok (.slice (if cap=l.toNat then some ⟨b,0,none⟩ else some ⟨b,l.toNat*te.size,none⟩) 0 (cap - l.toNat)) w:=by
      simp only [Instr.sliceAt,Sem.run_bind,u1,Result.andThen_ok,Instr.slice,hv,hcap g w ρ hev cap hle,run_size hT e2]
      simp [add_mk,show len - l.toNat=0 by omega]
     refine ⟨.slice (if cap=l.toNat then some ⟨b,0,none⟩ else some ⟨b,l.toNat*te.size,none⟩) 0 (cap - l.toNat),?_,.tr (.lst (fun _ _=>default) rfl (Nat.zero_le _) (by omega) (by simp) (fun e => ?_) (fun i row hr=>by simp at hr) (fun i row j t hr _=>by simp at hr))⟩
     ·simp only [execOp,ho,Sem.run_bind,Option.map_none,hrun,Result.andThen_ok]
      rfl
     ·split at e <;> cases e
    ·simp at h1; omega
  rename_i e s1 s2 s3 s4 b e1 em
  cases he:(lk T e).isSome with
  | false=>rw [he] at hK; exact hK.elim
  | true =>
  rw [he,cond_true] at hK
  obtain ⟨te,e2⟩:=Option.isSome_iff_exists.1 he
  obtain ⟨h0,h2,hK⟩:=hK
  refine LOk.pure _ _ hK (by simpa using em) fun g w m' ρ hm hrd hev => ?_
  obtain ⟨lc,g1,g2⟩:=hm.blk hd b (hrd (hd,b) (by simp))
  obtain ⟨u,u1,u2,u3⟩:=run_und hT e1 w
  obtain rfl:=D_slice u2
  have hlo:=optZ_inv hev hl
  have hlo0:lo=none:=by
   rcases hlo with ⟨h,_⟩ | ⟨_,_,_,_,h,_⟩
   ·exact h
   ·cases h
  subst hlo0
  have hcap : ∀ cap,len≤cap→(Instr.sliceBounds true len cap ((none:Option Operand).map ρ) (hi.map ρ) none).run P w = .ok (0,(h.getD len).toNat,cap) w:=fun cap hc =>
   run_bounds (P:=P) (w:=w) (isS:=true) (len:=len) (cap:=cap) (l:=none) (.inl ⟨rfl,rfl⟩) (optZ_inv hev hh) (Int.le_refl _) h0 h2 hc
  have hrun : ∀ (ao:Option Addr) (cap:Nat),ρ x = .slice ao len cap→len≤cap→(∀ b,ao=some b→b.spot=none)→(execOp ρ o).run P w = .ok (.value (.slice ao (h.getD len).toNat cap)) w:=fun ao cap hv hc hsp=>by
   have:(Instr.sliceAt t (ρ x) ((none:Option Operand).map ρ) (hi.map ρ) none).run P w = .ok (.slice ao (h.getD len).toNat cap) w:=by
    simp only [Instr.sliceAt,Sem.run_bind,u1,Result.andThen_ok,Instr.slice,hv,hcap cap hc,run_size hT e2]
    cases ao <;> simp [Addr.add]
   simp only [execOp,ho,Sem.run_bind,Option.map_none] at this ⊢
   simp only [this,Result.andThen_ok]
   rfl
  rcases (hev _ _ hx).sl_inv g1 with ⟨b',cap,rfl,hle,hv⟩ | ⟨rfl,rfl,hv⟩
  ·exact ⟨_,hrun _ _ hv hle (fun b e=>by cases e; rfl),.sl g1 (by omega)⟩
  ·have h00:(h.getD ((0:Nat):Int)).toNat=0:=by omega
   refine ⟨_,hrun _ _ hv (Nat.le_refl _) (by simp),?_⟩
   rw [h00]; exact .slN g1
 ·split at hK
  case h_2=>exact hK.elim
  rename_i e s1 s2 s3 s4 e1
  cases he:(lk T e).isSome with
  | false=>rw [he] at hK; exact hK.elim
  | true =>
  rw [he,cond_true] at hK
  obtain ⟨te,e2⟩:=Option.isSome_iff_exists.1 he
  obtain ⟨h0,h1,h2,hK⟩:=hK
  refine LOk.pure _ _ hK (by simp) fun g w m' ρ hm hrd hev => ?_
  obtain ⟨u,u1,u2,u3⟩:=run_und hT e1 w
  obtain rfl:=D_slice u2
  obtain ⟨hv,hg⟩:=val_inv (hev _ _ hx)
  have hb:=run_bounds (P:=P) (w:=w) (isS:=true) (len:=0) (cap:=0) (optZ_inv hev hl) (optZ_inv hev hh) h0 h1 h2 (Nat.le_refl _)
  have hl0:(l.getD 0).toNat=0:=by omega
  have hh0:(h.getD ((0:Nat):Int)).toNat=0:=by
   show (h.getD 0).toNat=0
   omega
  rw [hl0,hh0] at hb
  refine ⟨.slice none 0 0,?_,.tr (.v hg)⟩
  have hrun:(Instr.sliceAt t (ρ x) (lo.map ρ) (hi.map ρ) none).run P w = .ok (.slice none 0 0) w:=by
   simp only [Instr.sliceAt,Sem.run_bind,u1,Result.andThen_ok,Instr.slice,hv,hb,run_size hT e2]
   simp
  simp only [execOp,ho,Sem.run_bind,Option.map_none,hrun,Result.andThen_ok]
  rfl
 ·exact hK.elim
theorem aop_sound (hT:TOk P T) (h:aop T m nh ev K o.op):LOk P o m nh ev K:=by
 generalize hop:o.op=op at h
 unfold aop at h
 split at h
 ·split at h
  ·rename_i e; exact l_move (.inl hop) e h
  ·exact h.elim
 ·split at h
  ·rename_i e; exact l_move (.inr hop) e h
  ·exact h.elim
 ·split at h
  ·rename_i b e; exact l_pick hop e h
  ·exact h.elim
 ·split at h
  ·rename_i i e
   cases hr:rowTy T i with
   | false=>rw [hr] at h; exact l_alloc hT hop e h
   | true =>
    rw [hr,cond_true] at h
    unfold rowTy at hr
    simp only [Bool.and_eq_true] at hr
    rcases h with h | h
    ·exact l_alloc hT hop e h
    ·exact l_allocO hT hop e (Nat.le_of_ble_eq_true hr.1.2) h
  ·exact h.elim
 ·
  split at h
  case h_2=>exact h.elim
  rename_i a e
  split at h
  case h_2=>exact h.elim
  rename_i cs e2
  cases hc:cs.all AV.one with
  | false=>rw [hc] at h; exact h.elim
  | true =>
   rw [hc,cond_true] at h
   split at h
   ·rename_i i e3
    cases hr:rowTy T i with
    | false=>rw [hr] at h; exact l_box hop e e2 hc h
    | true =>
     rw [hr,cond_true] at h
     unfold rowTy at hr
     simp only [Bool.and_eq_true] at hr
     rcases h with h | h
     ·exact l_box hop e e2 hc h
     ·split at h
      ·rename_i e4
       exact l_boxO hT hop e e2 hc e3 (Nat.le_of_ble_eq_true hr.1.2) h.1 e4 h.2
      ·exact h.elim
   ·exact l_box hop e e2 hc h
 ·
  split at h
  ·rename_i fs s1 s2 z s4 e
   cases hc:fs.all (fun p=>(lk T p.1).isSome) with
   | false=>rw [hc] at h; exact h.elim
   | true =>
    rw [hc,cond_true] at h
    split at h
    ·rename_i l e2; exact l_buildS hT hop e hc e2 h
    ·exact h.elim
  ·rename_i n e s1 s2 z s4 e1
   split at h
   case h_2=>exact h.elim
   rename_i te e2
   split at h
   ·rename_i l e3; exact l_buildA hT hop e1 e2 e3 h
   ·exact h.elim
  ·exact h.elim
 ·
  rename_i t len ps
  split at h
  case h_2=>exact h.elim
  rename_i e s1 s2 z s4 e1
  split at h
  case h_2=>exact h.elim
  rename_i te e2
  split at h
  ·rename_i rows e3
   cases hc:(Nat.beq rows.length len && Nat.ble 0 len && Nat.ble 1 te.size && Nat.ble (len*te.size) 16777216 && Nat.ble (len*te.bytes) 140737488351232) with
   | false=>rw [hc] at h; exact h.elim
   | true =>
    rw [hc,cond_true] at h
    simp only [Bool.and_eq_true] at hc
    exact l_buildSlice hT hop e1 e2 e3 (Nat.eq_of_beq_eq_true hc.1.1.1.1) (Nat.le_of_ble_eq_true hc.1.1.2) (Nat.le_of_ble_eq_true hc.1.2) (Nat.le_of_ble_eq_true hc.2) h
  ·split at h
   case h_2 =>
    split at h
    case h_1 =>
     rename_i hh f cs e3
     cases hc:(Nat.beq len 1 && Nat.beq te.size 1 && Nat.ble te.bytes 140737488351232) with
     | false=>rw [hc] at h; exact h.elim
     | true =>
      rw [hc,cond_true] at h
      simp only [Bool.and_eq_true] at hc
      exact l_buildSliceF hT hop e1 e2 e3 (Nat.eq_of_beq_eq_true hc.1.1) (Nat.eq_of_beq_eq_true hc.1.2) (Nat.le_of_ble_eq_true hc.2) h
    split at h
    case h_2=>exact h.elim
    rename_i l e3
    cases hc:(Nat.beq l.length len && Nat.ble 1 len && Nat.beq te.size 1 && Nat.ble len 16777216 && Nat.ble (len*te.bytes) 140737488351232) with
    | false=>rw [hc] at h; exact h.elim
    | true =>
     rw [hc,cond_true] at h
     simp only [Bool.and_eq_true] at hc
     exact l_buildSliceP hT hop e1 e2 e3 (Nat.eq_of_beq_eq_true hc.1.1.1.1) (Nat.eq_of_beq_eq_true hc.1.1.2) (Nat.le_of_ble_eq_true hc.1.2) (Nat.le_of_ble_eq_true hc.2) (Nat.le_of_ble_eq_true hc.1.1.1.2) h
   rename_i rows ln e3
   cases hc:(Nat.beq rows.length len && Nat.ble 1 len && Nat.ble 1 te.size && Nat.ble (len*te.size) 16777216 && Nat.ble (len*te.bytes) 140737488351232) with
   | false=>rw [hc] at h; exact h.elim
   | true =>
    rw [hc,cond_true] at h
    simp only [Bool.and_eq_true] at hc
    exact l_buildSliceO hT hop e1 e2 e3 (Nat.eq_of_beq_eq_true hc.1.1.1.1) (Nat.le_of_ble_eq_true hc.1.1.2) (Nat.le_of_ble_eq_true hc.1.2) (Nat.le_of_ble_eq_true hc.2) (Nat.le_of_ble_eq_true hc.1.1.1.2) h
 ·split at h
  ·rename_i e; exact l_loadF hT hop e h
  ·exact h.elim
 ·split at h
  ·rename_i e1 e2; exact l_storeO hT hop e1 e2 h
  ·exact h.elim
 ·split at h
  ·rename_i e; exact l_fieldAddr hT hop e h
  ·exact h.elim
 ·split at h
  ·rename_i e; exact l_field hT hop e h
  ·exact h.elim
 ·split at h
  ·rename_i a b e1 e2
   split at h
   ·rename_i z e3
    obtain ⟨k,rfl⟩:=isInt_inv e3
    exact l_indexAddrF hT hop e1 e2 h
   ·exact h.elim
  ·exact h.elim
 ·split at h
  ·rename_i a b e1 e2
   split at h
   ·rename_i z e3
    obtain ⟨k,rfl⟩:=isInt_inv e3
    exact l_index hT hop e1 e2 h
   ·exact h.elim
  ·exact h.elim
 ·split at h
  ·rename_i a b e1 e2
   split at h
   ·rename_i e3
    split at h
    ·exact l_nilB hT hop e1 e2 e3 (.inl ⟨rfl,rfl⟩) h
    ·exact l_nilB hT hop e1 e2 e3 (.inr ⟨rfl,rfl⟩) h
    ·exact h.elim
   ·split at h
    ·rename_i c v e3; exact l_binOp hT hop e1 e2 e3 h
    ·exact h.elim
  ·rename_i e1 e2
   split at h
   ·rename_i e3 e4; exact l_ptrNil hT hop e1 e2 e3 e4 (.inl ⟨rfl,rfl⟩) h
   ·rename_i e3 e4; exact l_ptrNil hT hop e1 e2 e3 e4 (.inr ⟨rfl,rfl⟩) h
   ·exact h.elim
  ·rename_i e1 e2
   split at h
   ·rename_i e3; exact l_lstNil hT hop e1 e2 e3 h.1 (.inl ⟨rfl,rfl⟩) h.2
   ·rename_i e3; exact l_lstNil hT hop e1 e2 e3 h.1 (.inr ⟨rfl,rfl⟩) h.2
   ·exact h.elim
  ·rename_i l l' e1 e2
   split at h
   ·rename_i b e3; exact l_eqS hT hop e1 e2 e3 (.inl ⟨rfl,rfl⟩) h
   ·rename_i b e3; exact l_eqS hT hop e1 e2 e3 (.inr ⟨rfl,rfl⟩) h
   ·exact h.elim
  ·rename_i t' _ e1 e2
   cases hlt:Nat.blt t' HMod with
   | false=>rw [hlt] at h; exact h.elim
   | true =>
    rw [hlt,cond_true] at h
    replace hlt:=Nat.le_of_ble_eq_true hlt
    split at h
    ·rename_i e3; exact l_eqNil hT hlt hop e1 e2 e3 (.inl ⟨rfl,rfl⟩) h
    ·rename_i e3; exact l_eqNil hT hlt hop e1 e2 e3 (.inr ⟨rfl,rfl⟩) h
    ·exact h.elim
  ·exact h.elim
 ·
  rename_i x xt t
  split at h
  ·rename_i t' a d e1 e2
   cases hc:(Nat.beq t' t && !d.isIface && Nat.blt t HMod) with
   | false=>rw [hc] at h; exact h.elim
   | true =>
    rw [hc,cond_true] at h
    simp only [Bool.and_eq_true] at hc
    have:=Nat.eq_of_beq_eq_true hc.1.1
    subst this
    exact l_typeAssert hT (Nat.le_of_ble_eq_true hc.2) hop e1 e2 (fun hd=>by rw [hd] at hc; exact absurd hc.1.2 (by simp [D.isIface])) h
  ·exact h.elim
 ·
  split at h
  ·split at h
   ·exact l_makeMap hop h
   ·exact h.elim
  ·exact h.elim
 ·split at h
  ·rename_i e1 e2; exact l_lookup hT hop e1 e2 h
  ·exact h.elim
 ·split at h
  ·rename_i e1 e2 e3; exact l_mapUpdate hT (.inl hop) e1 e2 e3 h
  ·exact h.elim
 ·split at h
  ·rename_i e1 e2 e3; exact l_mapUpdate hT (.inr hop) e1 e2 e3 h
  ·exact h.elim
 ·split at h
  ·rename_i a b e1 e2
   split at h
   ·rename_i l c e3 e4
    obtain ⟨k,rfl⟩:=isInt_inv e3
    obtain ⟨k',rfl⟩:=isInt_inv e4
    exact l_makeSlice hT hop e1 e2 h
   ·exact h.elim
  ·exact h.elim
 ·split at h
  ·rename_i a e1
   split at h
   ·rename_i v e2; exact l_unOp hop e1 e2 h
   ·exact h.elim
  ·exact h.elim
 ·split at h
  ·rename_i e1 e2 e3; exact l_convI hT hop e1 e2 e3 h
  ·rename_i e1 e2 e3; exact l_convS hT hop e1 e2 e3 h
  ·rename_i e1 e2 e3
   split at h
   case h_2=>exact h.elim
   rename_i te rows rd e4 e5
   cases hb:byteT te with
   | false=>rw [hb] at h; exact h.elim
   | true =>
    rw [hb,cond_true] at h
    obtain ⟨l,rfl,hl,hK⟩:=h
    exact l_convB hT hop e1 e4 hb e2 e3 e5 (srcRows_rd e5) hl hK
  ·exact h.elim
 ·split at h
  ·rename_i l e1
   split at h
   ·rename_i a e2; exact l_extract hop e1 e2 h
   ·exact h.elim
  ·exact h.elim
 ·split at h
  ·exact h.elim
  ·rename_i t x _ _ _ i hne e1 e2
   cases hlt:Nat.blt t HMod with
   | false=>rw [hlt] at h; exact h.elim
   | true =>
   rw [hlt,cond_true] at h
   refine l_makeInterface hT (Nat.le_of_ble_eq_true hlt) e2 (fun hd => ?_) hop e1 h
   obtain ⟨d,a,b,c,q⟩:=i
   simp only at hd
   subst hd
   exact hne _ _ _ _ rfl
  ·exact h.elim
 ·rename_i f fs cs
  cases hc:Nat.beq fs.size 0 with
  | false =>
   rw [hc,cond_false] at h
   split at h
   ·rename_i x
    split at h
    ·rename_i a e
     cases hlt:Nat.blt f HMod with
     | false=>rw [hlt] at h; exact h.elim
     | true =>
      rw [hlt,cond_true] at h
      exact l_makeBound (Nat.le_of_ble_eq_true hlt) hop e h
    ·exact h.elim
   ·exact h.elim
  | true =>
   rw [hc,cond_true] at h
   split at h
   ·rename_i l e; exact l_makeFunc hop (Nat.eq_of_beq_eq_true hc) e h
   ·exact h.elim
 ·split at h
  ·rename_i e1 e2 e3; exact l_slice hT hop e1 e2 e3 h
  ·exact h.elim
 ·
  split at h
  ·rename_i e1 e2 e3
   split at h
   ·rename_i h1 h2
    obtain ⟨k1,rfl⟩:=isInt_inv h1
    obtain ⟨k2,rfl⟩:=isInt_inv h2
    exact l_slice3 hT hop e1 e2 e3 h
   ·exact h.elim
  ·exact h.elim
 ·split at h
  ·rename_i hd off e1
   split at h
   ·rename_i b e2; exact l_nilCheckP hop e1 e2 h
   ·exact h.elim
  ·rename_i hd n i off e1
   split at h
   ·rename_i b e2; exact l_nilCheckV hop e1 e2 h
   ·exact h.elim
  ·rename_i e1; exact l_nilCheckE hop e1 h
  ·rename_i e1; exact l_nilCheckF hop e1 h
  ·exact h.elim
 ·split at h
  ·rename_i e1; exact l_len hT hop e1 h
  ·exact h.elim
 ·rename_i x y t t'
  cases hc:Nat.beq t t' with
  | false =>
   rw [hc,cond_false] at h
   split at h
   ·rename_i e1 e2; exact l_appendS hT hop e1 e2 h
   ·rename_i e1 e2; exact l_appendZ hT hop e1 e2 h
   ·exact h.elim
  | true =>
   have:=Nat.eq_of_beq_eq_true hc
   subst this
   rw [hc,cond_true] at h
   split at h
   ·rename_i e1 e2; exact l_appendG hT hop e1 e2 h
   ·exact h.elim
 ·split at h
  ·rename_i e1 e2; exact l_copy hT hop e1 e2 h
  ·exact h.elim
 ·split at h
  ·rename_i k a k' b e1 e2
   split at h
   ·rename_i hk; subst hk; exact l_min hop e1 e2 h
   ·exact h.elim
  ·exact h.elim
 ·split at h
  ·rename_i k a k' b e1 e2
   split at h
   ·rename_i hk; subst hk; exact l_max hop e1 e2 h
   ·exact h.elim
  ·exact h.elim
 ·split at h
  ·rename_i e1 e2; exact l_capN hT hop e1 e2 h
  ·exact h.elim
 ·split at h
  ·rename_i e1 e2
   split at h
   ·rename_i e3; exact l_range hT hop e1 e2 e3 h
   ·exact h.elim
  ·exact h.elim
 ·split at h
  ·rename_i e1
   split at h
   ·rename_i e2
    split at h
    ·rename_i e3
     obtain ⟨h1,s,i,h2,k,t,h3,h4,hK⟩:=h
     exact l_entry hop e1 e2 e3 h1 h2 h3 h4 hK
    ·exact h.elim
   ·exact h.elim
  ·exact h.elim
 ·exact h.elim
end
end Go.Proofs.YtbflekglkkdipaaGreatDoor.am
namespace Go.Proofs.YtbflekglkkdipaaGreatDoor.am
open Go
set_option linter.unusedSimpArgs false
def has (l:List Nat) (h:Nat):Bool:=l.any fun k=>Nat.beq k h
theorem has_iff {l:List Nat} {h:Nat}:has l h=true↔h ∈ l:=by
 unfold has
 rw [List.any_eq_true]
 exact ⟨fun ⟨x,hx,he⟩=>Nat.eq_of_beq_eq_true he ▸ hx,fun hx=>⟨h,hx,Nat.beq_refl h⟩⟩
def sees (m:Mem) (h len:Nat) (t:Tr):Prop:=match m h with
 | some (.vec _ n B rows)=>len≤rows.length∧t = .lst n B (rows.take len)
 | some (.own n B rows [])=>len≤rows.length∧t = .lst n B (rows.take len)
 | _=>False
def seesP (m:Mem) (h off:Nat) (cs:List Tr):Prop:=match m h with
 | some (.cells _ l)=>trs ((l.drop off).take cs.length)=some cs
 | _=>False
def seesQ (m:Mem) (ρ:List Nat) (h off:Nat):AV→Prop
 | .fn f [.ptr i o]=>match m h with
  | some (.cells _ l)=>match l[off]? with
   | some (.ptr k o')=>f=0∧ρ[i]? = some k∧o'=o
   | _=>False
  | _=>False
 | _=>False
def nl1 (t t':Tr):Prop:=t=t'∨(t = .v (.slice none 0 0) ∧ ∃ n B,t' = .lst n B [])
def nlL:List Tr→List Tr→Prop
 | [],[]=>True
 | a::l,a'::l'=>nl1 a a'∧nlL l l'
 | _,_=>False
def nlR:List (List Tr)→List (List Tr)→Prop
 | [],[]=>True
 | a::l,a'::l'=>nlL a a'∧nlR l l'
 | _,_=>False
def nlO (rows rows':List (List Tr)):Prop:=rows=rows'∨nlR rows rows'
theorem nlL_get : ∀ {l l':List Tr},nlL l l'→l.length=l'.length ∧ ∀ (i:Nat) (t':Tr),l'[i]? = some t' → ∃ t,l[i]? = some t∧nl1 t t'
 | [],[],_=>⟨rfl,fun i t h=>by simp at h⟩
 | a::l,a'::l',h=>by
  obtain ⟨h1,h2⟩:=nlL_get h.2
  refine ⟨by simp [h1],fun i t hi => ?_⟩
  cases i with
  | zero=>simp at hi; subst hi; exact ⟨a,rfl,h.1⟩
  | succ i=>exact h2 i t (by simpa using hi)
 | [],_::_,h=>h.elim
 | _::_,[],h=>h.elim
theorem nlR_get : ∀ {l l':List (List Tr)},nlR l l'→l.length=l'.length ∧ ∀ (i:Nat) (t':List Tr),l'[i]? = some t' → ∃ t,l[i]? = some t∧nlL t t'
 | [],[],_=>⟨rfl,fun i t h=>by simp at h⟩
 | a::l,a'::l',h=>by
  obtain ⟨h1,h2⟩:=nlR_get h.2
  refine ⟨by simp [h1],fun i t hi => ?_⟩
  cases i with
  | zero=>simp at hi; subst hi; exact ⟨a,rfl,h.1⟩
  | succ i=>exact h2 i t (by simpa using hi)
 | [],_::_,h=>h.elim
 | _::_,[],h=>h.elim
theorem nlO_get {l l':List (List Tr)} (h:nlO l l'):l.length=l'.length ∧ ∀ (i:Nat) (row':List Tr),l'[i]? = some row' → ∃ row,l[i]? = some row∧row.length=row'.length ∧ ∀ (j:Nat) (t':Tr),row'[j]? = some t' → ∃ t,row[j]? = some t∧nl1 t t':=by
 rcases h with rfl | h
 ·exact ⟨rfl,fun i row' hi=>⟨row',hi,rfl,fun j t' hj=>⟨t',hj,.inl rfl⟩⟩⟩
 ·obtain ⟨h1,h2⟩:=nlR_get h
  refine ⟨h1,fun i row' hi => ?_⟩
  obtain ⟨row,q1,q2⟩:=h2 i row' hi
  exact ⟨row,q1,nlL_get q2⟩
theorem RepO.nl {w:World} {F:Nat→Prop} {x:Value} {t t':Tr} (h:RepO w F x t) (hn:nl1 t t'):RepO w F x t':=by
 rcases hn with rfl | ⟨rfl,n,B,rfl⟩
 ·exact h
 ·cases h; exact .nil
theorem RepO.toT {ok:Nat→Prop} {w:World} {F:Nat→Prop} {x:Value} {t:Tr} (h:RepO w F x t):(∀ b,F b→ok b)→RepT ok w x t:=by
 induction h with
 | v h=>intro _; exact .v h
 | nil=>intro _; exact RepT.nil _ _ (.v ⟨rfl,rfl,rfl⟩)
 | @lst F b cap n B e rows cur Fs h1 h2 h3 h4 h5 h6 h7 h8 h9 h10 _ ih =>
  intro hF
  have hsz : ∀ i row,rows[i]? = some row→i*n+n≤cur.size:=fun i row hi=>by
   have hlt:=(List.getElem?_eq_some_iff.1 hi).1
   have:(i+1)*n≤cap*n:=Nat.mul_le_mul_right _ (by omega)
   rw [Nat.succ_mul] at this; omega
  refine .lst (fun i j=>(cur[i*n+j]?).getD default) rfl h4 h5 h1 (by simp) (fun i row hi => ?_) fun i row j t hi hj => ?_
  ·have:=hsz i row hi
   refine ⟨h7 row (List.mem_of_getElem? hi),b,0,rfl,hF _ h8,fun j hj => ?_⟩
   rw [heap_cell h3,Nat.zero_add]
   simp [show i*n+j<cur.size by omega]
  ·have:=hsz i row hi
   have hjn:j<n:=by rw [← h7 row (List.mem_of_getElem? hi)]; exact (List.getElem?_eq_some_iff.1 hj).1
   have hc:cur[i*n+j]? = some cur[i*n+j]:=by simp [show i*n+j<cur.size by omega]
   rw [hc]
   exact ih i j row t _ hi hj hc fun b hb=>hF b (h9 i j b hb).1
def seesW (m:Mem) (h n i len:Nat) (t:Tr):Prop:=match m h with
 | some (.own n' B rows [])=>n=n'∧1≤i∧i+len≤rows.length∧t = .lst n B ((rows.drop i).take len)
 | _=>False
def seen1 (m:Mem) (S:Nat→Bool):AV→Tr→Prop
 | .tr t,t'=>t=t'
 | .sl h len,t'=>S h=true∧sees m h len t'
 | .ifc q (.vpt h n i len),t'=>q=3*HMod∧S h=true∧seesW m h n i len t'
 | _,_=>False
def seenL (m:Mem) (S:Nat→Bool):List AV→List (List Tr)→Prop
 | [],[]=>True
 | a::l,row::r=>(match row with | [t]=>seen1 m S a t | _=>False)∧seenL m S l r
 | _,_=>False
def seesL (m:Mem) (S:Nat→Bool) (t q off:Nat):Tr→Prop
 | .lst n B rows=>match m q with
  | some (.cells _ as)=>t=2*HMod+as.length∧off=0∧S q=true∧n=1∧as.length≤9223372036854775807∧as.length*B≤150000000000000∧seenL m S as rows
  | _=>False
 | _=>False
mutual
def cv (m:Mem) (ρ nl:List Nat) (S:Nat→Bool):AV→AV→Prop
 | .tr t,.tr t'=>t=t'∨(t = .v (.slice none 0 0) ∧ ∃ n B,t' = .lst n B [])
 | .sl h len,.tr t'=>S h=true∧sees m h len t'
 | .tr t,.sl i len=>t = .v (.slice none 0 0)∧len=0∧ρ[i]? = none∧has nl i=true
 | .sl h len,.sl i len'=>ρ[i]? = some h∧len=len'
 | .und,.und=>True
 | .agg l,.agg l'=>cvL m ρ nl S l l'
 | .tup l,.tup l'=>cvL m ρ nl S l l'
 | .ptr h off,.ptr i off'=>ρ[i]? = some h∧off=off'
 | .vpt h n k off,.vpt i n' k' off'=>ρ[i]? = some h∧n=n'∧k=k'∧off=off'
 | .ptr h off,.ept cs'=>S h=true∧seesP m h off cs'
 | .ptr h off,.ifc t' a'=>t'=4*HMod∧S h=true∧seesQ m ρ h off a'
 | .ept cs,.ept cs'=>cs=cs'
 | .fn f l,.fn f' l'=>f=f'∧cvL m ρ nl S l l'
 | .ifc t a,.ifc t' a'=>t=t'∧cv m ρ nl S a a'
 | .ifc t (.ptr q off),.tr t'=>seesL m S t q off t'
 | .mp h,.mp i=>ρ[i]? = some h
 | .ful n B rows,.ful n' B' rows'=>n=n'∧B=B'∧rows=rows'
 | _,_=>False
def cvL (m:Mem) (ρ nl:List Nat) (S:Nat→Bool):List AV→List AV→Prop
 | [],[]=>True
 | a::l,a'::l'=>cv m ρ nl S a a'∧cvL m ρ nl S l l'
 | _,_=>False
end
def lnK (ρ:List Nat):List ((Nat × Nat) × (Nat × Nat))→Option (List ((Nat × Nat) × (Nat × Nat)))
 | []=>some []
 | (p,(h,len))::r=>match ρ[h]?,lnK ρ r with
  | some h',some r'=>some ((p,(h',len))::r')
  | _,_=>none
theorem lnK_lnk {ρ:List Nat} : ∀ {ln' ln:List ((Nat × Nat) × (Nat × Nat))},lnK ρ ln'=some ln → ∀ i j,(lnk ln' i j=none→lnk ln i j=none) ∧ ∀ h' len,lnk ln' i j=some (h',len) → ∃ h,ρ[h']? = some h∧lnk ln i j=some (h,len)
 | [],ln,h,i,j=>by cases h; exact ⟨fun h=>h,fun _ _ h=>(by cases h)⟩
 | ((a,b),(h0,l0))::r,ln,h,i,j=>by
  unfold lnK at h
  split at h
  case h_2=>cases h
  rename_i h1 r1 e1 e2
  cases h
  have ih:=lnK_lnk e2 i j
  show ((bif Nat.beq b j && Nat.beq a i then some (h0,l0) else lnk r i j)=none→(bif Nat.beq b j && Nat.beq a i then some (h1,l0) else lnk r1 i j)=none) ∧ ∀ h' len,(bif Nat.beq b j && Nat.beq a i then some (h0,l0) else lnk r i j)=some (h',len) → ∃ h,ρ[h']? = some h∧(bif Nat.beq b j && Nat.beq a i then some (h1,l0) else lnk r1 i j)=some (h,len)
  cases hc:(Nat.beq b j && Nat.beq a i) with
  | true=>exact ⟨fun h=>(by cases h),fun h' len h=>(by cases h; exact ⟨h1,e1,rfl⟩)⟩
  | false=>exact ih
def cvB (m:Mem) (ρ nl:List Nat) (S:Nat→Bool):Blk→Blk→Prop
 | .cells t l,.cells t' l'=>t=t'∧cvL m ρ nl S l l'
 | .vec e n B rows,.vec e' n' B' rows'=>e=e'∧n=n'∧B=B'∧rows=rows'
 | .map kd es,.map kd' es'=>kd=kd'∧es=es'
 | .itr h n s,.itr h' n' s'=>ρ[h']? = some h∧n=n'∧s=s'
 | .fns e B h l,.fns e' B' h' l'=>e=e'∧B=B'∧ρ[h']? = some h∧l=l'
 | .own n B rows ln,.own n' B' rows' ln'=>n=n'∧B=B'∧lnK ρ ln'=some ln∧ln.length=ln'.length∧nlO rows rows'
 | .vec _ n B rows,.own n' B' rows' ln'=>n=n'∧B=B'∧ln'=[]∧leafR rows∧nlO rows rows'
 | _,_=>False
def gsub (g:Gh) (ρ nl:List Nat) (X:Nat→Prop):Gh:=⟨fun i=>match ρ[i]? with | some h=>g h | none=>if has nl i then .live .nil else .un,X,[],fun i b => ∃ h,ρ[i]? = some h∧g.F h b⟩
section
variable {g:Gh} {w:World} {m:Mem} {ρ nl:List Nat} {S:Nat→Bool} {X:Nat→Prop}
theorem gsub_some {i h:Nat} (hi:ρ[i]? = some h):gsub g ρ nl X i=g h:=by simp [gsub,hi]
theorem gsub_F {i h:Nat} (hi:ρ[i]? = some h):(gsub g ρ nl X).F i=g.F h:=by funext b; simp [gsub,hi]
theorem gsub_owns {i b:Nat} (h:Owns (gsub g ρ nl X) i b) : ∃ h,ρ[i]? = some h∧Owns g h b:=by
 obtain ⟨l,e1,e2⟩:=h
 change l.b=some b ∨ ∃ h,ρ[i]? = some h∧g.F h b at e2
 unfold gsub at e1
 simp only at e1
 split at e1
 ·rename_i h hi
  refine ⟨h,hi,l,e1,e2.imp id fun ⟨h',q1,q2⟩ => ?_⟩
  rw [hi] at q1; cases q1; exact q2
 ·rename_i hi
  split at e1
  ·cases e1
   rcases e2 with e2 | ⟨h',q1,_⟩
   ·cases e2
   ·rw [hi] at q1; cases q1
  ·cases e1
def SubOk (g:Gh) (w:World) (ρ:List Nat) (S:Nat→Bool) (X:Nat→Prop):Prop :=
 (∀ b,okB g w b → ¬ X b)∧(∀ h b,S h=true→Owns g h b → ¬ X b) ∧ ∀ h,S h=true→h ∉ ρ
theorem SubOk.ok (hs:SubOk g w ρ S X) {b:Nat} (hb:okB g w b):okB (gsub g ρ nl X) w b:=by
 refine ⟨hb.1,hs.1 b hb,fun i e1 => ?_⟩
 obtain ⟨h,_,e2⟩:=gsub_owns e1
 exact hb.2.2 h e2
theorem SubOk.seen (hs:SubOk g w ρ S X) (hm:MSt g w m) {h b:Nat} (hS:S h=true) (hh:Owns g h b):okB (gsub g ρ nl X) w b:=by
 refine ⟨hm.lt h b hh,hs.2.1 h b hS hh,fun i e1 => ?_⟩
 obtain ⟨k,hk,e2⟩:=gsub_owns e1
 have:=hm.inj h k b hh e2
 exact hs.2.2 h hS (this ▸ List.mem_of_getElem? hk)
theorem sees_rep (hs:SubOk g w ρ S X) (hm:MSt g w m) {h len:Nat} {t:Tr} {x:Value} (hS:S h=true) (ht:sees m h len t) (hr:Rep g w x (.sl h len)):RepT (okB (gsub g ρ nl X) w) w x t:=by
 have hnilT : ∀ n B,RepT (okB (gsub g ρ nl X) w) w (.slice none 0 0) (.lst n B []):=fun n B => .lst (fun _ _=>default) (by simp) (Nat.le_refl _) (by omega) (by omega) (fun _=>rfl) (fun i row h=>by simp at h) (fun i row j t h=>by simp at h)
 have hrow : ∀ {rows:List (List Tr)} {i:Nat} {row:List Tr},(rows.take len)[i]? = some row→rows[i]? = some row:=fun {rows i row} h=>by
  rw [List.getElem?_take] at h
  split at h
  ·exact h
  ·cases h
 unfold sees at ht
 split at ht
 case h_3=>exact ht.elim
 ·rename_i e n B rows em
  obtain ⟨hle,rfl⟩:=ht
  obtain ⟨l,g1,g2⟩:=hm.blk h _ em
  obtain ⟨hB,hn,⟨rfl,rfl⟩ | ⟨b,cap,cur,rfl,e1,e2,e3,e4,e5,e6⟩⟩:=g2
  ·rcases hr.sl_inv g1 with ⟨b,cap,e0,_,_⟩ | ⟨_,rfl,rfl⟩
   ·cases e0
   ·exact hnilT n B
  ·rcases hr.sl_inv g1 with ⟨b',cap',e0,e7,rfl⟩ | ⟨e0,_,_⟩
   ·cases e0
    have hok:=hs.seen (nl:=nl) hm hS (.root g1 rfl)
    have hlb:len*B≤rows.length*B:=Nat.mul_le_mul_right _ hle
    refine .lst (fun i j=>(cur[i*n+j]?).getD default) (by rw [List.length_take]; omega) e7 e3 (by omega) (by simp) (fun i row hi => ?_) fun i row j t hi hj => ?_
    ·have hi':=hrow hi
     have hlt:=(List.getElem?_eq_some_iff.1 hi').1
     have hsz:i*n+n≤cur.size:=by
      have:(i+1)*n≤cap*n:=Nat.mul_le_mul_right _ (by omega)
      rw [Nat.succ_mul] at this; omega
     refine ⟨e5 row (List.mem_of_getElem? hi'),b,0,rfl,hok,fun j hj => ?_⟩
     rw [heap_cell e1,Nat.zero_add]
     simp [show i*n+j<cur.size by omega]
    ·obtain ⟨c,c1,c2⟩:=vec_row e5 e6 (hrow hi) hj
     rw [c1]
     exact c2.mono fun b hb=>⟨hs.ok hb,rfl⟩
   ·cases e0
 ·rename_i n B rows em
  obtain ⟨hle,rfl⟩:=ht
  obtain ⟨l,g1,g2⟩:=hm.blk h _ em
  obtain ⟨hB,hn,⟨rfl,rfl⟩ | ⟨b,cap,cur,e,Fs,rfl,e1,e2,e3,e4,e5,e6,e7,e8⟩⟩:=g2
  ·rcases hr.sl_inv g1 with ⟨b,cap,e0,_,_⟩ | ⟨_,rfl,rfl⟩
   ·cases e0
   ·exact hnilT n B
  ·rcases hr.sl_inv g1 with ⟨b',cap',e0,e9,rfl⟩ | ⟨e0,_,_⟩
   ·cases e0
    have hok:=hs.seen (nl:=nl) hm hS (.root g1 rfl)
    have hlb:len*B≤rows.length*B:=Nat.mul_le_mul_right _ hle
    have hsz : ∀ i row,rows[i]? = some row→i*n+n≤cur.size:=fun i row hi=>by
     have hlt:=(List.getElem?_eq_some_iff.1 hi).1
     have:(i+1)*n≤cap*n:=Nat.mul_le_mul_right _ (by omega)
     rw [Nat.succ_mul] at this; omega
    refine .lst (fun i j=>(cur[i*n+j]?).getD default) (by rw [List.length_take]; omega) e9 e3 (by omega) (by simp) (fun i row hi => ?_) fun i row j t hi hj => ?_
    ·have hi':=hrow hi
     have:=hsz i row hi'
     refine ⟨e5 row (List.mem_of_getElem? hi'),b,0,rfl,hok,fun j hj => ?_⟩
     rw [heap_cell e1,Nat.zero_add]
     simp [show i*n+j<cur.size by omega]
    ·have hi':=hrow hi
     have:=hsz i row hi'
     have hjn:j<n:=by rw [← e5 row (List.mem_of_getElem? hi')]; exact (List.getElem?_eq_some_iff.1 hj).1
     have hc:cur[i*n+j]? = some cur[i*n+j]:=by simp [show i*n+j<cur.size by omega]
     rw [hc]
     exact ((e8 i j row t _ hi' hj hc).1 rfl).toT fun b hb=>hs.seen hm hS ⟨_,g1,.inr (e6 i j b hb).1⟩
   ·cases e0
theorem seesL_big {t q off:Nat} {u:Tr} (h:seesL m S t q off u):2*HMod≤t:=by
 unfold seesL at h
 split at h
 case h_2=>exact h.elim
 split at h
 case h_2=>exact h.elim
 omega
theorem seesW_rep (hs:SubOk g w ρ S X) (hm:MSt g w m) {h n i len:Nat} {t:Tr} {x:Value} (hS:S h=true) (ht:seesW m h n i len t) (hr:Rep g w x (.ifc (3*HMod) (.vpt h n i len))):RepT (okB (gsub g ρ nl X) w) w x t:=by
 unfold seesW at ht
 split at ht
 case h_2=>exact ht.elim
 rename_i n' B rows em
 obtain ⟨rfl,h1i,hle,rfl⟩:=ht
 have hrow : ∀ {k:Nat} {row:List Tr},((rows.drop i).take len)[k]? = some row→k<len∧rows[i+k]? = some row:=fun {k row} h=>by
  rw [List.getElem?_take] at h
  split at h
  ·rename_i hk; rw [List.getElem?_drop] at h; exact ⟨hk,h⟩
  ·cases h
 have hlen:((rows.drop i).take len).length=len:=by rw [List.length_take,List.length_drop]; omega
 obtain ⟨l,g1,g2⟩:=hm.blk h _ em
 generalize hq:3*HMod=q at hr
 cases hr with
 | ifc q1 _=>exact absurd q1 (by omega)
 | bnd q1 _=>exact absurd q1 (by omega)
 | psl h1 =>
  obtain ⟨b,cap,_,e⟩:=h1.vpt_inv g1
  simp only [Value.pointer.injEq,Option.some.injEq,Addr.mk.injEq] at e
  have:1*n≤i*n:=Nat.mul_le_mul_right _ h1i
  obtain ⟨_,hn,_⟩:=g2
  omega
 | win h1 h2 h3 =>
  obtain ⟨b,cap,rfl,e⟩:=h1.vpt_inv g1
  simp only [Value.pointer.injEq,Option.some.injEq,Addr.mk.injEq,and_true] at e
  obtain ⟨rfl,rfl⟩:=e
  obtain ⟨hB,hn,⟨e0,_⟩ | ⟨b',cap',cur,e,Fs,e0,e1,e2,e3,e4,e5,e6,e7,e8⟩⟩:=g2
  ·cases e0
  ·cases e0
   have hok:=hs.seen (nl:=nl) hm hS (.root g1 rfl)
   have hsz : ∀ i row,rows[i]? = some row→i*n+n≤cur.size:=fun i row hi=>by
    have hlt:=(List.getElem?_eq_some_iff.1 hi).1
    have:(i+1)*n≤cap*n:=Nat.mul_le_mul_right _ (by omega)
    rw [Nat.succ_mul] at this; omega
   have hlb:len*B≤rows.length*B:=Nat.mul_le_mul_right _ (by omega)
   refine .lst (fun k j=>(cur[(i+k)*n+j]?).getD default) hlen.symm h2 h3 (by omega) (by simp) (fun k row hi => ?_) fun k row j t hi hj => ?_
   ·obtain ⟨hk,hi'⟩:=hrow hi
    have:=hsz _ row hi'
    refine ⟨e5 row (List.mem_of_getElem? hi'),_,i*n+0,rfl,hok,fun j hj => ?_⟩
    rw [heap_cell e1]
    have e:i*n+0+k*n+j=(i+k)*n+j:=by rw [Nat.add_mul]; omega
    rw [e]
    simp [show (i+k)*n+j<cur.size by omega]
   ·obtain ⟨hk,hi'⟩:=hrow hi
    have:=hsz _ row hi'
    have hjn:j<n:=by rw [← e5 row (List.mem_of_getElem? hi')]; exact (List.getElem?_eq_some_iff.1 hj).1
    have hc:cur[(i+k)*n+j]? = some cur[(i+k)*n+j]:=by simp [show (i+k)*n+j<cur.size by omega]
    rw [hc]
    exact ((e8 (i+k) j row t _ hi' hj hc).1 rfl).toT fun b hb=>hs.seen hm hS ⟨_,g1,.inr (e6 (i+k) j b hb).1⟩
theorem seenL_get : ∀ {as:List AV} {rows:List (List Tr)},seenL m S as rows→as.length=rows.length ∧ ∀ (i:Nat) (row:List Tr),rows[i]? = some row → ∃ a t,as[i]? = some a∧row=[t]∧seen1 m S a t
 | [],[],_=>⟨rfl,fun i row h=>by simp at h⟩
 | a::l,row::r,h=>by
  obtain ⟨h1,h2⟩:=h
  obtain ⟨q1,q2⟩:=seenL_get h2
  refine ⟨by simp [q1],fun i row' hi => ?_⟩
  cases i with
  | zero =>
   cases hi
   match row,h1 with
   | [t],h1=>exact ⟨a,t,rfl,rfl,h1⟩
  | succ i=>exact q2 i row' (by simpa using hi)
 | [],_::_,h=>h.elim
 | _::_,[],h=>h.elim
theorem seen1_rep (hs:SubOk g w ρ S X) (hm:MSt g w m) {a:AV} {t:Tr} {x:Value} (h:seen1 m S a t) (hr:Rep g w x a):RepT (okB (gsub g ρ nl X) w) w x t:=by
 unfold seen1 at h
 split at h
 case h_4=>exact h.elim
 ·subst h; exact hr.tr_inv.mono fun b hb=>⟨hs.ok hb,rfl⟩
 ·exact sees_rep hs hm h.1 h.2 hr
 ·obtain ⟨rfl,h1,h2⟩:=h; exact seesW_rep hs hm h1 h2 hr
theorem seesL_rep (hs:SubOk g w ρ S X) (hm:MSt g w m) {b len q off:Nat} {t:Tr} (hr:Rep g w (.pointer (some ⟨b,0,none⟩)) (.ptr q off)) (ht:seesL m S (2*HMod+len) q off t):RepT (okB (gsub g ρ nl X) w) w (.slice (some ⟨b,0,none⟩) len len) t:=by
 unfold seesL at ht
 split at ht
 case h_2=>exact ht.elim
 rename_i n B rows
 split at ht
 case h_2=>exact ht.elim
 rename_i e as em
 obtain ⟨hl,rfl,hS,rfl,hmx,hB,hL⟩:=ht
 obtain rfl:len=as.length:=by omega
 obtain ⟨hlen,hget⟩:=seenL_get hL
 obtain ⟨l',g1,b',cs',rfl,e1,e2,e3,e4⟩:=hm.blk q _ em
 generalize hv:Value.pointer (some ⟨b,0,none⟩)=v at hr
 cases hr with
 | ptrD q1=>rw [g1] at q1; cases q1
 | ptr q1 =>
  rw [g1] at q1
  cases q1
  cases hv
  refine .lst (fun i _=>(cs'[i]?).getD default) hlen (Nat.le_refl _) hmx hB (by simp) (fun i row hi => ?_) fun i row j t hi hj => ?_
  ·obtain ⟨a,t,ha,rfl,_⟩:=hget i row hi
   have hlt:=(List.getElem?_eq_some_iff.1 ha).1
   refine ⟨rfl,b,0,rfl,hs.seen (nl:=nl) hm hS (.root g1 rfl),fun j hj => ?_⟩
   obtain rfl:j=0:=by omega
   rw [heap_cell e1]
   simp [show i<cs'.size by omega]
  ·obtain ⟨a,t',ha,rfl,h1⟩:=hget i row hi
   have hlt:=(List.getElem?_eq_some_iff.1 ha).1
   have hc:cs'[i]? = some (cs'[i]'(by omega)):=by simp
   rw [hc]
   cases j with
   | zero=>cases hj; exact seen1_rep hs hm h1 (e4 _ _ _ hc ha)
   | succ j=>simp at hj
theorem trs_get : ∀ {as:List AV} {ts:List Tr},trs as=some ts→as.length=ts.length ∧ ∀ (i:Nat) (t:Tr),ts[i]? = some t→as[i]? = some (.tr t)
 | [],ts,h=>by cases h; exact ⟨rfl,fun i t h=>by simp at h⟩
 | .tr a::r,ts,h=>by
  unfold trs at h
  split at h
  ·rename_i l e
   cases h
   obtain ⟨h1,h2⟩:=trs_get e
   refine ⟨by simp [h1],fun i t hi => ?_⟩
   cases i with
   | zero=>simp at hi; subst hi; rfl
   | succ i=>exact h2 i t (by simpa using hi)
  ·cases h
 | .und::_,_,h | .agg _::_,_,h | .tup _::_,_,h | .ptr _ _::_,_,h | .vpt _ _ _ _::_,_,h | .sl _ _::_,_,h | .ept _::_,_,h | .fn _ _::_,_,h | .ifc _ _::_,_,h | .mp _::_,_,h | .ful _ _ _::_,_,h=>by cases h
theorem seesP_rep (hs:SubOk g w ρ S X) (hm:MSt g w m) {h off:Nat} {cs:List Tr} {l:Loc} (hS:S h=true) (ht:seesP m h off cs) (hl:g h = .live l) : ∃ b,l = .blk b∧Rep (gsub g ρ nl X) w (.pointer (some ⟨b,off,none⟩)) (.ept cs):=by
 unfold seesP at ht
 split at ht
 case h_2=>exact ht.elim
 rename_i e as em
 obtain ⟨l',g1,b,cs',rfl,e1,e2,e3,e4⟩:=hm.blk h _ em
 rw [hl] at g1
 cases g1
 refine ⟨b,rfl,.ept (fun j=>(cs'[off+j]?).getD default) (hs.seen (nl:=nl) hm hS (.root hl rfl)) (fun j hj => ?_) fun j t hj => ?_⟩
 ·obtain ⟨q1,q2⟩:=trs_get ht
  have:off+j<as.length:=by simp at q1; omega
  rw [heap_cell e1]
  simp [show off+j<cs'.size by omega]
 ·obtain ⟨q1,q2⟩:=trs_get ht
  have hj2:=(List.getElem?_eq_some_iff.1 hj).1
  have hlt:off+j<as.length:=by simp at q1; omega
  have ha:as[off+j]? = some (.tr t):=by
   have:=q2 j t hj
   rw [List.getElem?_take,if_pos hj2,List.getElem?_drop] at this
   exact this
  have hc:cs'[off+j]? = some (cs'[off+j]'(by omega)):=by simp
  rw [hc]
  exact (e4 _ _ _ hc ha).tr_inv.mono fun b hb=>⟨hs.ok hb,rfl⟩
theorem seesQ_inv {h off:Nat} {a:AV} (hq:seesQ m ρ h off a) : ∃ i o k e as,a = .fn 0 [.ptr i o]∧m h=some (.cells e as)∧as[off]? = some (.ptr k o)∧ρ[i]? = some k:=by
 unfold seesQ at hq
 split at hq
 case h_2=>exact hq.elim
 split at hq
 case h_2=>exact hq.elim
 rename_i e as em
 split at hq
 case h_2=>exact hq.elim
 rename_i k o' el
 obtain ⟨rfl,h2,rfl⟩:=hq
 exact ⟨_,_,k,e,as,rfl,em,el,h2⟩
theorem seesQ_cells {h off:Nat} {a:AV} (hq:seesQ m ρ h off a) : ∃ e as,m h=some (.cells e as):=by
 obtain ⟨i,o,k,e,as,_,h2,_⟩:=seesQ_inv hq
 exact ⟨e,as,h2⟩
theorem seesQ_rep (hs:SubOk g w ρ S X) (hm:MSt g w m) {h off b:Nat} {a:AV} (hS:S h=true) (hq:seesQ m ρ h off a) (hl:g h = .live (.blk b)):Rep (gsub g ρ nl X) w (.pointer (some ⟨b,off,none⟩)) (.ifc (4*HMod) a):=by
 obtain ⟨i,o,k,e,as,rfl,em,el,hi⟩:=seesQ_inv hq
 obtain ⟨l',g1,b',cs',rfl,e1,e2,e3,e4⟩:=hm.blk h _ em
 rw [hl] at g1
 cases g1
 have hlt:=(List.getElem?_eq_some_iff.1 el).1
 have hc:cs'[off]? = some (cs'[off]'(by omega)):=by simp
 have hr:=e4 _ _ _ hc el
 have hcell:w.cell? ⟨b,off,none⟩=some (cs'[off]'(by omega)):=by rw [heap_cell e1]; exact hc
 refine .frz (hs.seen (nl:=nl) hm hS (.root hl rfl)) hcell ?_
 generalize cs'[off]'(by omega)=v at hr
 cases hr with
 | ptrD q1 q2=>exact .ptrD ((gsub_some hi).trans q1) q2
 | ptr q1=>exact .ptr ((gsub_some hi).trans q1)
theorem cvL_get : ∀ {l l':List AV},cvL m ρ nl S l l'→l.length=l'.length ∧ ∀ (i:Nat) (a':AV),l'[i]? = some a' → ∃ a,l[i]? = some a∧cv m ρ nl S a a'
 | [],[],_=>⟨rfl,fun i a' h=>by simp at h⟩
 | a::l,a'::l',h=>by
  unfold cvL at h
  obtain ⟨h1,h2⟩:=cvL_get h.2
  refine ⟨by simp [h1],fun i b hb => ?_⟩
  cases i with
  | zero=>simp at hb; subst hb; exact ⟨a,rfl,h.1⟩
  | succ i=>exact h2 i b (by simpa using hb)
 | [],_::_,h=>by unfold cvL at h; exact h.elim
 | _::_,[],h=>by unfold cvL at h; exact h.elim
theorem cv_one {a a':AV} (h:cv m ρ nl S a a') (h1:a.one=true):a'.one=true:=by
 cases a <;> cases a' <;> first | rfl | (unfold cv at h; exact h.elim) | cases h1
theorem cv_rep (hs:SubOk g w ρ S X) (hm:MSt g w m) {x:Value} {a:AV} (hr:Rep g w x a) : ∀ {a':AV},cv m ρ nl S a a'→Rep (gsub g ρ nl X) w x a':=by
 have idx : ∀ {i h:Nat} {q:HS},ρ[i]? = some h→g h=q→gsub g ρ nl X i=q:=fun hi hq=>(gsub_some hi).trans hq
 have cells : ∀ {cs:Array Value} {l l':List AV},cs.size=l.length→(∀ (i:Nat) (c:Value) (a:AV),cs[i]? = some c→l[i]? = some a → ∀ {a':AV},cv m ρ nl S a a'→Rep (gsub g ρ nl X) w c a')→cvL m ρ nl S l l' →
   cs.size=l'.length ∧ ∀ (i:Nat) (c:Value) (a:AV),cs[i]? = some c→l'[i]? = some a→Rep (gsub g ρ nl X) w c a:=fun h1 ih hc=>by
  obtain ⟨e1,e2⟩:=cvL_get hc
  refine ⟨h1.trans e1,fun i c a q1 q2 => ?_⟩
  obtain ⟨b,e3,e4⟩:=e2 i a q2
  exact ih i c b q1 e3 e4
 induction hr with
 | und =>
  intro a' hc
  cases a' <;> first | exact .und | (unfold cv at hc; exact hc.elim)
 | tr h =>
  intro a' hc
  cases a' with
  | tr t' =>
   unfold cv at hc
   have h':=h.mono (ok':=okB (gsub g ρ nl X) w) (w':=w) fun b hb=>⟨hs.ok hb,rfl⟩
   rcases hc with rfl | ⟨rfl,n,B,rfl⟩
   ·exact .tr h'
   ·exact .tr (h'.nil n B)
  | sl i len =>
   unfold cv at hc
   obtain ⟨rfl,rfl,hn,hi⟩:=hc
   cases h
   exact .slN (by simp [gsub,hn,hi])
  | _=>unfold cv at hc; exact hc.elim
 | agg h1 h2 h3 ih =>
  intro a' hc
  cases a' with
  | agg l' =>
   unfold cv at hc
   obtain ⟨e1,e2⟩:=cells h1 ih hc
   obtain ⟨q1,q2⟩:=cvL_get hc
   refine .agg e1 (fun a ha => ?_) e2
   obtain ⟨i,hi⟩:=List.mem_iff_getElem?.1 ha
   obtain ⟨b,q3,q4⟩:=q2 i a hi
   exact cv_one q4 (h2 b (List.mem_of_getElem? q3))
  | _=>unfold cv at hc; exact hc.elim
 | tup h1 h3 ih =>
  intro a' hc
  cases a' with
  | tup l' =>
   unfold cv at hc
   obtain ⟨e1,e2⟩:=cells h1 ih hc
   exact .tup e1 e2
  | _=>unfold cv at hc; exact hc.elim
 | ptrD h1 h2 =>
  intro a' hc
  cases a' with
  | ept cs =>
   unfold cv at hc
   obtain ⟨hS,hsee⟩:=hc
   unfold seesP at hsee
   split at hsee
   ·rename_i e as em
    obtain ⟨l,g1,_⟩:=hm.blk _ _ em
    rw [h1] at g1; cases g1
   ·exact hsee.elim
  | ptr i off=>unfold cv at hc; exact .ptrD (idx hc.1 h1) h2
  | ifc t' b =>
   unfold cv at hc
   obtain ⟨e,as,em⟩:=seesQ_cells hc.2.2
   obtain ⟨l,g1,_⟩:=hm.blk _ _ em
   rw [h1] at g1; cases g1
  | _=>unfold cv at hc; exact hc.elim
 | ptr h1 =>
  intro a' hc
  cases a' with
  | ept cs =>
   unfold cv at hc
   obtain ⟨b,e1,e2⟩:=seesP_rep (nl:=nl) hs hm hc.1 hc.2 h1
   cases e1
   exact e2
  | ptr i off=>unfold cv at hc; obtain ⟨e1,rfl⟩:=hc; exact .ptr (idx e1 h1)
  | ifc t' b =>
   unfold cv at hc
   obtain ⟨rfl,hS,hq⟩:=hc
   exact seesQ_rep (nl:=nl) hs hm hS hq h1
  | _=>unfold cv at hc; exact hc.elim
 | vptD h1 h2 =>
  intro a' hc
  cases a' <;> first | (unfold cv at hc; exact hc.elim) | (unfold cv at hc; exact .vptD (idx hc.1 h1) h2)
 | vpt h1 =>
  intro a' hc
  cases a' <;> first | (unfold cv at hc; exact hc.elim) | (unfold cv at hc; obtain ⟨e1,rfl,rfl,rfl⟩:=hc; exact .vpt (idx e1 h1))
 | slD h1 h2 =>
  intro a' hc
  cases a' with
  | tr t' =>
   unfold cv at hc
   obtain ⟨hS,hsee⟩:=hc
   unfold sees at hsee
   split at hsee
   ·rename_i e n B rows em
    obtain ⟨l,g1,_⟩:=hm.blk _ _ em
    rw [h1] at g1; cases g1
   ·rename_i n B rows em
    obtain ⟨l,g1,_⟩:=hm.blk _ _ em
    rw [h1] at g1; cases g1
   ·exact hsee.elim
  | sl i len=>unfold cv at hc; exact .slD (idx hc.1 h1) h2
  | _=>unfold cv at hc; exact hc.elim
 | sl h1 h2 =>
  intro a' hc
  cases a' with
  | tr t'=>unfold cv at hc; exact .tr (sees_rep hs hm hc.1 hc.2 (.sl h1 h2))
  | sl i len=>unfold cv at hc; obtain ⟨e1,rfl⟩:=hc; exact .sl (idx e1 h1) h2
  | _=>unfold cv at hc; exact hc.elim
 | slN h1 =>
  intro a' hc
  cases a' with
  | tr t'=>unfold cv at hc; exact .tr (sees_rep hs hm hc.1 hc.2 (.slN h1))
  | sl i len=>unfold cv at hc; obtain ⟨e1,rfl⟩:=hc; exact .slN (idx e1 h1)
  | _=>unfold cv at hc; exact hc.elim
 | ept f h1 h2 h3 =>
  intro a' hc
  cases a' with
  | ept cs=>unfold cv at hc; subst hc; exact .ept f (hs.ok h1) h2 fun j t hj=>(h3 j t hj).mono fun b hb=>⟨hs.ok hb,rfl⟩
  | _=>unfold cv at hc; exact hc.elim
 | fn h1 h3 ih =>
  intro a' hc
  cases a' with
  | fn f l' =>
   unfold cv at hc
   obtain ⟨rfl,hc⟩:=hc
   obtain ⟨e1,e2⟩:=cells h1 ih hc
   exact .fn e1 e2
  | _=>unfold cv at hc; exact hc.elim
 | ifc ht h1 ih =>
  intro a' hc
  cases a' with
  | tr t' =>
   rename_i t x a
   cases a with
   | ptr q off=>unfold cv at hc; have:=seesL_big hc; omega
   | _=>unfold cv at hc; exact hc.elim
  | ifc t' b=>unfold cv at hc; obtain ⟨rfl,hc⟩:=hc; exact .ifc ht (ih hc)
  | _=>unfold cv at hc; exact hc.elim
 | bnd hf h1 ih =>
  intro a' hc
  cases a' with
  | tr t' =>
   rename_i t x a
   cases a with
   | ptr q off=>unfold cv at hc; have:=seesL_big hc; omega
   | _=>unfold cv at hc; exact hc.elim
  | ifc t' b=>unfold cv at hc; obtain ⟨rfl,hc⟩:=hc; exact .bnd hf (ih hc)
  | _=>unfold cv at hc; exact hc.elim
 | psl h1 ih =>
  intro a' hc
  cases a' with
  | tr t' =>
   rename_i len b a
   cases a with
   | ptr q off=>unfold cv at hc; exact .tr (seesL_rep hs hm h1 hc)
   | _=>unfold cv at hc; exact hc.elim
  | ifc t' b=>unfold cv at hc; obtain ⟨rfl,hc⟩:=hc; exact .psl (ih hc)
  | _=>unfold cv at hc; exact hc.elim
 | frz h1 h2 h3 ih =>
  intro a' hc
  cases a' with
  | ifc t' b =>
   unfold cv at hc
   obtain ⟨rfl,hc⟩:=hc
   cases b with
   | fn f' l' =>
    unfold cv at hc
    obtain ⟨rfl,hc⟩:=hc
    match l',hc with
    | [a'],hc =>
     unfold cvL at hc
     exact .frz (hs.ok h1) h2 (ih hc.1)
    | [],hc=>unfold cvL at hc; exact hc.elim
    | _::_::_,hc=>unfold cvL at hc; have:=hc.2; unfold cvL at this; exact this.elim
   | _=>unfold cv at hc; exact hc.elim
  | _=>unfold cv at hc; exact hc.elim
 | win h1 h2 h3 ih =>
  intro a' hc
  cases a' with
  | ifc t' b =>
   unfold cv at hc
   obtain ⟨rfl,hc⟩:=hc
   cases b with
   | vpt i' n' k' o' =>
    unfold cv at hc
    obtain ⟨c1,rfl,rfl,rfl⟩:=hc
    exact .win (ih (a' := .vpt i' _ _ 0) (by unfold cv; exact ⟨c1,rfl,rfl,rfl⟩)) h2 h3
   | _=>unfold cv at hc; exact hc.elim
  | _=>unfold cv at hc; exact hc.elim
 | mpD h1 h2 =>
  intro a' hc
  cases a' <;> first | (unfold cv at hc; exact hc.elim) | (unfold cv at hc; exact .mpD (idx hc h1) h2)
 | mp h1 =>
  intro a' hc
  cases a' <;> first | (unfold cv at hc; exact hc.elim) | (unfold cv at hc; exact .mp (idx hc h1))
 | ful h1 h2 =>
  intro a' hc
  cases a' with
  | ful n' B' rows' =>
   unfold cv at hc
   obtain ⟨rfl,rfl,rfl⟩:=hc
   exact .ful (h1.mono fun b hb=>⟨hs.ok hb,rfl⟩) h2
  | _=>unfold cv at hc; exact hc.elim
def nilBk:Blk→Prop
 | .own n _ rows ln=>rows=[]∧ln=[]∧0<n
 | .fns _ _ _ l=>l=[]
 | b' => ∃ e n B,b' = .vec e n B []∧0<n
theorem nilBk_ok {g:Gh} {w:World} {F:Nat→Prop} {b:Blk} (h:nilBk b):BRep g w .nil F b:=by
 unfold nilBk at h
 split at h
 ·obtain ⟨rfl,rfl,h⟩:=h
  exact ⟨by simp,h,.inl ⟨rfl,rfl⟩⟩
 ·subst h
  exact ⟨by simp,.inl ⟨rfl,rfl⟩⟩
 ·obtain ⟨e,n,B,rfl,h⟩:=h
  exact ⟨by simp,h,.inl ⟨rfl,rfl⟩⟩
def cvM (m m':Mem) (ρ nl:List Nat) (S:Nat→Bool):Prop :=
 ∀ i b',m' i=some b'→(∃ h b,ρ[i]? = some h∧m h=some b∧cvB m ρ nl S b b')∨(ρ[i]? = none∧has nl i=true∧nilBk b')
theorem cvB_rep (hs:SubOk g w ρ S X) (hm:MSt g w m) {l:Loc} {F:Nat→Prop} {b b':Blk} (h:BRep g w l F b) (hc:cvB m ρ nl S b b'):BRep (gsub g ρ nl X) w l F b':=by
 cases b with
 | cells t as =>
  cases b' with
  | cells t' as' =>
   unfold cvB at hc
   obtain ⟨rfl,hc⟩:=hc
   obtain ⟨k,cs,rfl,e,h1,h2,h3⟩:=h
   obtain ⟨q1,q2⟩:=cvL_get hc
   refine ⟨k,cs,rfl,e,h1.trans q1,fun a ha => ?_,fun i c a e1 e2 => ?_⟩
   ·obtain ⟨i,hi⟩:=List.mem_iff_getElem?.1 ha
    obtain ⟨b,q3,q4⟩:=q2 i a hi
    exact cv_one q4 (h2 b (List.mem_of_getElem? q3))
   ·obtain ⟨b,q3,q4⟩:=q2 i a e2
    exact cv_rep hs hm (h3 i c b e1 q3) q4
  | _=>unfold cvB at hc; exact hc.elim
 | map kd es =>
  cases b' with
  | map kd' es' =>
   unfold cvB at hc
   obtain ⟨rfl,rfl⟩:=hc
   obtain ⟨k,ents,clock,rfl,e1,e2,e3,e4⟩:=h
   exact ⟨k,ents,clock,rfl,e1,e2,e3,fun i q t hi=>by obtain ⟨en,c1,c2,c3⟩:=e4 i q t hi; exact ⟨en,c1,c2,c3.mono fun b hb=>⟨hs.ok hb,rfl⟩⟩⟩
  | _=>unfold cvB at hc; exact hc.elim
 | itr h0 n s =>
  cases b' with
  | itr h1 n1 s1 =>
   unfold cvB at hc
   obtain ⟨q,rfl,rfl⟩:=hc
   obtain ⟨r,b,rfl,e1,e2⟩:=h
   exact ⟨r,b,rfl,e1,cv_rep hs hm e2 (show cv m ρ nl S (.mp h0) (.mp h1) by unfold cv; exact q)⟩
  | _=>unfold cvB at hc; exact hc.elim
 | fns e B h0 fs =>
  cases b' with
  | fns e' B' h1 fs' =>
   unfold cvB at hc
   obtain ⟨rfl,rfl,q,rfl⟩:=hc
   obtain ⟨hB,hv⟩:=h
   refine ⟨hB,?_⟩
   rcases hv with hv | ⟨k,cap,cur,rfl,e1,e2,e3,e4,e5⟩
   ·exact .inl hv
   ·refine .inr ⟨k,cap,cur,rfl,e1,e2,e3,e4,fun i p hi => ?_⟩
    obtain ⟨c,c1,c2⟩:=e5 i p hi
    refine ⟨c,c1,cv_rep hs hm c2 ?_⟩
    unfold fnAV
    unfold cv
    refine ⟨rfl,?_⟩
    unfold cvL
    refine ⟨?_,?_⟩
    ·unfold cv
     refine ⟨rfl,?_⟩
     unfold cv
     refine ⟨rfl,?_⟩
     unfold cvL
     refine ⟨?_,by unfold cvL; trivial⟩
     unfold cv
     exact ⟨q,rfl⟩
    ·unfold cvL
     refine ⟨?_,by unfold cvL; trivial⟩
     unfold cv
     rfl
  | _=>unfold cvB at hc; exact hc.elim
 | vec e n B rows =>
  cases b' with
  | cells t' as'=>unfold cvB at hc; exact hc.elim
  | map kd es=>unfold cvB at hc; exact hc.elim
  | itr h0 n s=>unfold cvB at hc; exact hc.elim
  | fns e0 B0 h0 fs=>unfold cvB at hc; exact hc.elim
  | own n' B' rows' ln' =>
   unfold cvB at hc
   obtain ⟨rfl,rfl,rfl,hlf,hno⟩:=hc
   obtain ⟨n1,n2⟩:=nlO_get hno
   obtain ⟨hB,hn,hv⟩:=h
   refine ⟨by rw [← n1]; exact hB,hn,?_⟩
   rcases hv with ⟨hv,hr⟩ | ⟨k,cap,cur,rfl,e1,e2,e3,e4,e5,e6⟩
   ·refine .inl ⟨hv,?_⟩
    rw [hr] at n1
    exact List.eq_nil_of_length_eq_zero n1.symm
   ·refine .inr ⟨k,cap,cur,e,fun _ _ _=>False,rfl,e1,by omega,e3,e4,fun row hrow => ?_,fun _ _ _ h=>h.elim,fun _ _ _ _ _ h=>h.elim,fun i j row t c q1 q2 q3=>⟨fun _ => ?_,fun _ _ q=>by cases q⟩⟩
    ·obtain ⟨i,hi⟩:=List.mem_iff_getElem?.1 hrow
     obtain ⟨r0,q1,q2,_⟩:=n2 i row hi
     rw [← q2]; exact e5 r0 (List.mem_of_getElem? q1)
    ·obtain ⟨r0,q4,q5,q6⟩:=n2 i row q1
     obtain ⟨t0,q7,q8⟩:=q6 j t q2
     obtain ⟨c',c1,c2⟩:=vec_row e5 e6 q4 q7
     rw [q3] at c1; cases c1
     obtain ⟨x,rfl⟩:=hlf r0 (List.mem_of_getElem? q4) t0 (List.mem_of_getElem? q7)
     cases c2 with
     | v hx=>exact (RepO.v hx).nl q8
  | vec e' n' B' rows' =>
   unfold cvB at hc
   obtain ⟨rfl,rfl,rfl,rfl⟩:=hc
   obtain ⟨hB,hn,hv⟩:=h
   refine ⟨hB,hn,?_⟩
   rcases hv with hv | ⟨k,cap,cur,rfl,e1,e2,e3,e4,e5,e6⟩
   ·exact .inl hv
   ·exact .inr ⟨k,cap,cur,rfl,e1,e2,e3,e4,e5,fun i t hi=>by obtain ⟨c,c1,c2⟩:=e6 i t hi; exact ⟨c,c1,c2.mono fun b hb=>⟨hs.ok hb,rfl⟩⟩⟩
 | own n B rows ln =>
  cases b' with
  | own n' B' rows' ln' =>
   unfold cvB at hc
   obtain ⟨rfl,rfl,hlk,_,hno⟩:=hc
   obtain ⟨n1,n2⟩:=nlO_get hno
   obtain ⟨hB,hn,hv⟩:=h
   refine ⟨by rw [← n1]; exact hB,hn,?_⟩
   rcases hv with ⟨hv,hr⟩ | ⟨k,cap,cur,e,Fs,rfl,e1,e2,e3,e4,e5,e6,e7,e8⟩
   ·refine .inl ⟨hv,?_⟩
    rw [hr] at n1
    exact List.eq_nil_of_length_eq_zero n1.symm
   ·refine .inr ⟨k,cap,cur,e,Fs,rfl,e1,by omega,e3,e4,fun row hrow => ?_,e6,e7,fun i j row t c q1 q2 q3=>⟨fun hno => ?_,fun h' len q => ?_⟩⟩
    ·obtain ⟨i,hi⟩:=List.mem_iff_getElem?.1 hrow
     obtain ⟨r0,q1,q2,_⟩:=n2 i row hi
     rw [← q2]; exact e5 r0 (List.mem_of_getElem? q1)
    ·obtain ⟨r0,q4,q5,q6⟩:=n2 i row q1
     obtain ⟨t0,q7,q8⟩:=q6 j t q2
     exact ((e8 i j r0 t0 c q4 q7 q3).1 ((lnK_lnk hlk i j).1 hno)).nl q8
    ·obtain ⟨r0,q4,q5,q6⟩:=n2 i row q1
     obtain ⟨t0,q7,q8⟩:=q6 j t q2
     obtain ⟨h0,z1,z2⟩:=(lnK_lnk hlk i j).2 h' len q
     exact cv_rep hs hm ((e8 i j r0 t0 c q4 q7 q3).2 h0 len z2) (by unfold cv; exact ⟨z1,rfl⟩)
  | _=>unfold cvB at hc; exact hc.elim
theorem nodup_get {l:List Nat} (h:l.Nodup) {i j k:Nat} (hi:l[i]? = some k) (hj:l[j]? = some k):i=j:=by
 have h1:=(List.getElem?_eq_some_iff.1 hi)
 have h2:=(List.getElem?_eq_some_iff.1 hj)
 obtain ⟨a1,a2⟩:=h1
 obtain ⟨b1,b2⟩:=h2
 have hp:=List.pairwise_iff_getElem.1 h
 rcases Nat.lt_trichotomy i j with q | q | q
 ·exact absurd (a2.trans b2.symm) (hp i j a1 b1 q)
 ·exact q
 ·exact absurd (b2.trans a2.symm) (hp j i b1 a1 q)
theorem cvM_mst (hs:SubOk g w ρ S X) (hm:MSt g w m) (hρ:ρ.Nodup) (hX : ∀ b,X b→b<w.heap.size) (hXl : ∀ (i h:Nat) (b:Nat),ρ[i]? = some h→Owns g h b → ¬ X b) {m':Mem} (hc:cvM m m' ρ nl S):MSt (gsub g ρ nl X) w m':=by
 refine ⟨fun i b' hb' => ?_,fun i j b e1 e2 => ?_,fun i b e1 => ?_,hX,fun i b e1 => ?_,fun b Q hq=>⟨⟨(hm.gl b Q hq).1.1,fun i ho=>by obtain ⟨h,_,e2⟩:=gsub_owns ho; exact (hm.gl b Q hq).1.2 h e2⟩,(hm.gl b Q hq).2⟩⟩
 ·rcases hc i b' hb' with ⟨h,b,q1,q2,q3⟩ | ⟨q1,q2,q4⟩
  ·obtain ⟨l,e1,e2⟩:=hm.blk h b q2
   rw [gsub_F q1]
   exact ⟨l,(gsub_some q1).trans e1,cvB_rep hs hm e2 q3⟩
  ·exact ⟨.nil,by simp [gsub,q1,q2],nilBk_ok q4⟩
 ·obtain ⟨h,q1,q2⟩:=gsub_owns e1
  obtain ⟨h',q3,q4⟩:=gsub_owns e2
  have:=hm.inj h h' b q2 q4
  subst this
  exact nodup_get hρ q1 q3
 ·obtain ⟨h,q1,q2⟩:=gsub_owns e1
  exact hm.lt h b q2
 ·obtain ⟨h,q1,q2⟩:=gsub_owns e1
  exact hXl i h b q1 q2
end
inductive AE where
 | ret (a:AV)
 | pan (a:AV)
def AE.is (g:Gh) (w:World):AE→Ending→Prop
 | .ret a,.returned v=>Rep g w v a
 | .pan a,.panicked ch => ∃ v,ch=[{ v,recovered:=false }]∧Rep g w v a
 | _,_=>False
def ofL (l:List Blk):Mem:=fun h=>l[h]?
def ofLO (l:List (Option Blk)):Mem:=fun h=>(l[h]?).join
def Under (g:Gh) (k:Nat):Prop := ∀ h,k≤h → ∀ l,g h ≠ .live l
def Callable (P:Program) (f:Nat):Prop := ∀ (args:Array Value) (w:World),(callFunc f args).run P w = .ok (.enter f args) w
structure Ctr (P:Program) (f:Nat) (args:List AV) (bin:List Blk) (res:AE) (bout:List (Option Blk)):Prop where
 callable:Callable P f
 run : ∀ (g:Gh) (w:World) (vs:Array Value),(∀ h,bin.length≤h→g h = .un)→MSt g w (ofL bin)→vs.size=args.length→(∀ (i:Nat) (v:Value) (a:AV),vs[i]? = some v→args[i]? = some a→Rep g w v a) →
  Calls P f vs w fun e w' => ∃ g',Grow g w g' w'∧MSt g' w' (ofLO bout)∧Under g' bout.length∧res.is g' w' e
end Go.Proofs.YtbflekglkkdipaaGreatDoor.am
