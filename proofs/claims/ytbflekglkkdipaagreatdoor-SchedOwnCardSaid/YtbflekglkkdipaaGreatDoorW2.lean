/- The abstract machine: operations: new memory, literals, append. The abstract machine: operations: picks, maps, slices of a length, comparisons of -/
import Derived.Test.YtbflekglkkdipaaGreatDoorW1
import Derived.Great.BuildSlice
import Derived.Maps.AppendAt
import Derived.Deep.DeepAppendWide
import Derived.Laws.StructEq
set_option linter.all false
namespace Go.Proofs.YtbflekglkkdipaaGreatDoor.am
open Go
set_option linter.unusedSimpArgs false
section
variable {P:Program} {T:Ty} {o:Oper} {m:Mem} {nh:Nat} {ev:Operand→Option AV} {K:KK}
theorem l_alloc (hT:TOk P T) {t:Nat} {i:TyI} (ho:o.op = .alloc t) (ht:lk T t=some i) (hK:K (.ptr nh 0) [] [(nh,some (.cells t (zeros i.zero)))]):LOk P o m nh ev K:=by
 refine ⟨_,_,_,hK,by simp,by simp,fun g w m' ρ hm hn hrd hev => ?_⟩
 obtain ⟨z,h1,h2,h3,h4⟩:=run_zero hT ht w
 refine LRes.new hm hn (.cells z.cells t) (.blk w.heap.size) (fun b e=>by cases e; rfl) _ (.pointer (some ⟨w.heap.size,0,none⟩)) ?_ (fun _=>⟨_,_,rfl,heap_alloc_new w _,by rw [h2]; exact cells_zeros _ _ _⟩) (.ptr (gset_same ..))
 simp [execOp,ho,Instr.alloc,h1,newVar,newRow]
theorem l_box {t:Nat} {x:Operand} {a:AV} {cs:List AV} (ho:o.op = .box t x) (hx:ev x=some a) (hc:a.cells=some cs) (h1:cs.all AV.one=true) (hK:K (.ptr nh 0) [] [(nh,some (.cells t cs))]):LOk P o m nh ev K:=by
 refine ⟨_,_,_,hK,by simp,by simp,fun g w m' ρ hm hn hrd hev => ?_⟩
 have hg:=grow_alloc (w:=w) hm.xlt hn (.cells (ρ x).cells t) (l := .blk w.heap.size) (fun b e=>by cases e; rfl)
 refine LRes.new hm hn (.cells (ρ x).cells t) (.blk w.heap.size) (fun b e=>by cases e; rfl) _ (.pointer (some ⟨w.heap.size,0,none⟩)) ?_ (fun _=>⟨_,_,rfl,heap_alloc_new w _,(Rep.cells ((hev _ _ hx).grow hg) hc h1)⟩) (.ptr (gset_same ..))
 simp [execOp,ho,Instr.box,newVar,newRow]
theorem fill_cons {place:Nat→Option (Nat × Nat)} {i off size:Nat} {v:Value} {cells:Array Value} {rest:List (Nat × Value)} (hp:place i=some (off,size)) (hs:v.cells.size=size) (hb:off+size≤cells.size) :
  Instr.fill place cells ((i,v)::rest)=Instr.fill place (cells.toList.take off++v.cells.toList++cells.toList.drop (off+v.cells.size)).toArray rest:=by
 obtain ⟨g1,g2⟩:=Great.foldl_set off v.cells.toList 0 cells
 have e:v.cells.zipIdx.foldl (fun cs (x:Value × Nat)=>cs.setIfInBounds (off+x.2) x.1) cells=(cells.toList.take off++v.cells.toList++cells.toList.drop (off+v.cells.size)).toArray:=by
  have e0:v.cells.zipIdx.foldl (fun cs (x:Value × Nat)=>cs.setIfInBounds (off+x.2) x.1) cells=(v.cells.toList.zipIdx 0).foldl (fun cs (x:Value × Nat)=>cs.setIfInBounds (off+x.2) x.1) cells:=by
   rw [← Array.foldl_toList,Array.toList_zipIdx]
  rw [e0]
  apply Array.ext_getElem?
  intro k
  rw [g2 k]
  simp only [List.getElem?_toArray,List.append_assoc,Nat.add_zero,Array.length_toList]
  by_cases k1:k<off
  ·rw [if_neg (by omega),List.getElem?_append_left (by simp; omega),List.getElem?_take,if_pos k1]; simp
  ·rw [List.getElem?_append_right (by simp; omega),List.length_take,Array.length_toList,Nat.min_eq_left (by omega)]
   by_cases k2:k - off<v.cells.size
   ·rw [if_pos (by omega),List.getElem?_append_left (by rw [Array.length_toList]; omega)]
   ·rw [if_neg (by omega),List.getElem?_append_right (by rw [Array.length_toList]; omega),List.getElem?_drop,Array.length_toList,Array.getElem?_toList]
    congr 1; omega
 conv=>lhs; unfold Instr.fill
 simp only [hp]
 rw [if_neg (by simp; omega)]
 rw [← e]
def vals (ρ:Operand→Value) (ps:List (Nat × Operand)):List (Nat × Value):=ps.map fun p=>(p.1,ρ p.2)
theorem fillS_ok {g:Gh} {w:World} {ρ:Operand→Value} {fs:List (Nat × Nat)} {place:Nat→Option (Nat × Nat)} (hp : ∀ (i ft off:Nat) (ti:TyI),fs[i]? = some (ft,off)→lk T ft=some ti→place i=some (off,ti.size)) (hev : ∀ x b,ev x=some b→Rep g w (ρ x) b) :
  ∀ (ps:List (Nat × Operand)) (l l':List AV) (cells:Array Value),Cells g w cells l→fillS T fs l (ps.map fun p=>(p.1,ev p.2))=some l' → ∃ cells',Instr.fill place cells (vals ρ ps)=some cells'∧Cells g w cells' l'
 | [],l,l',cells,hc,h=>by cases h; exact ⟨cells,rfl,hc⟩
 | (i,x)::ps,l,l',cells,hc,h=>by
  simp only [List.map_cons] at h
  unfold fillS at h
  split at h
  case h_2=>cases h
  rename_i ft off a e1 e2
  split at h
  case h_2=>cases h
  rename_i ti cs e3 e4
  cases hb:(Nat.beq cs.length ti.size && cs.all AV.one && Nat.ble (off+cs.length) l.length) with
  | false=>rw [hb] at h; cases h
  | true =>
   rw [hb,cond_true] at h
   simp only [Bool.and_eq_true] at hb
   obtain ⟨⟨c1,c2⟩,c3⟩:=hb
   have c1:=Nat.eq_of_beq_eq_true c1
   have c3:=Nat.le_of_ble_eq_true c3
   have hcs:=(hev x a e2).cells e4 c2
   have q1:=hcs.1
   have q2:=hc.1
   obtain ⟨cells',w1,w2⟩:=fillS_ok hp hev ps _ l' _ (hc.put hcs off c3) h
   refine ⟨cells',?_,w2⟩
   rw [show vals ρ ((i,x)::ps)=(i,ρ x)::vals ρ ps from rfl,fill_cons (hp i ft off ti e1 e3) (by omega) (by omega)]
   exact w1
theorem fillA_ok {g:Gh} {w:World} {ρ:Operand→Value} {size:Nat} (hev : ∀ x b,ev x=some b→Rep g w (ρ x) b) :
  ∀ (ps:List (Nat × Operand)) (l l':List AV) (cells:Array Value),Cells g w cells l→fillA size l (ps.map fun p=>(p.1,ev p.2))=some l' → ∃ cells',Instr.fill (fun i=>some (i*size,size)) cells (vals ρ ps)=some cells'∧Cells g w cells' l'
 | [],l,l',cells,hc,h=>by cases h; exact ⟨cells,rfl,hc⟩
 | (i,x)::ps,l,l',cells,hc,h=>by
  simp only [List.map_cons] at h
  unfold fillA at h
  split at h
  case h_2=>cases h
  rename_i a e2
  split at h
  case h_2=>cases h
  rename_i cs e4
  cases hb:(Nat.beq cs.length size && cs.all AV.one && Nat.ble (i*size+cs.length) l.length) with
  | false=>rw [hb] at h; cases h
  | true =>
   rw [hb,cond_true] at h
   simp only [Bool.and_eq_true] at hb
   obtain ⟨⟨c1,c2⟩,c3⟩:=hb
   have c1:=Nat.eq_of_beq_eq_true c1
   have c3:=Nat.le_of_ble_eq_true c3
   have hcs:=(hev x a e2).cells e4 c2
   have q1:=hcs.1
   have q2:=hc.1
   obtain ⟨cells',w1,w2⟩:=fillA_ok hev ps _ l' _ (hc.put hcs (i*size) c3) h
   refine ⟨cells',?_,w2⟩
   rw [show vals ρ ((i,x)::ps)=(i,ρ x)::vals ρ ps from rfl,fill_cons (off:=i*size) (size:=size) rfl (by omega) (by omega)]
   exact w1
theorem mapM_sizes (hT:TOk P T) (w:World) : ∀ (fds:List Field),(∀ f ∈ fds,(lk T f.type).isSome=true) → ∃ places:List (Nat × Nat),(fds.mapM fun (f:Field)=>(do pure (f.offset,← sizeOf f.type):Sem (Nat × Nat))).run P w = .ok places w ∧
  ∀ (i:Nat) (f:Field) (ti:TyI),fds[i]? = some f→lk T f.type=some ti→places[i]? = some (f.offset,ti.size)
 | [],_=>⟨[],by simp,fun i f ti h=>by simp at h⟩
 | f::fds,h=>by
  obtain ⟨places,h1,h2⟩:=mapM_sizes hT w fds (fun f hf=>h f (by simp [hf]))
  obtain ⟨ti,e⟩:=Option.isSome_iff_exists.1 (h f (by simp))
  refine ⟨(f.offset,ti.size)::places,by simp only [List.mapM_cons,Sem.run_bind,run_size hT e,Result.andThen_ok,Sem.run_pure,h1],fun i f' ti' q1 q2 => ?_⟩
  cases i with
  | zero=>simp at q1; subst q1; rw [e] at q2; cases q2; rfl
  | succ i=>exact h2 i f' ti' (by simpa using q1) q2
theorem l_buildS (hT:TOk P T) {t:Nat} {ps:Array (Nat × Operand)} {fs:List (Nat × Nat)} {a b:Nat} {z:List Z} {q:Bool} {l:List AV} (ho:o.op = .build t ps) (ht:lk T t=some ⟨.struct fs,a,b,z,q⟩) (hfs:fs.all (fun p=>(lk T p.1).isSome)=true)
  (hf:fillS T fs (zeros z) (parts ev ps)=some l) (hK:K (.agg l) [] []):LOk P o m nh ev K:=by
 refine LOk.pure _ _ hK (by simp) fun g w m' ρ hm hrd hev => ?_
 obtain ⟨u,u1,u2,_⟩:=run_und hT ht w
 obtain ⟨fds,rfl,rfl⟩:=D_struct u2
 obtain ⟨zv,z1,z2,z3,z4⟩:=run_zero hT ht w
 obtain ⟨places,p1,p2⟩:=mapM_sizes hT w fds.toList (fun f hf=>by
  have:=List.all_eq_true.1 hfs (f.type,f.offset) (List.mem_map.2 ⟨f,hf,rfl⟩)
  exact this)
 obtain ⟨cells',c1,c2⟩:=fillS_ok (T:=T) (place:=(places.toArray[·]?)) (fun i ft off ti q1 q2=>by
  obtain ⟨fd,r1,r2,r3⟩:=field_at q1
  have:=p2 i fd ti (by simpa using r1) (by rw [r2]; exact q2)
  rw [r3] at this
  simpa using this) hev ps.toList _ l _ (cells_zeros g w z) hf
 refine ⟨_,?_,c2.agg⟩
 have e:(Array.map (fun x=>(x.fst,ρ x.snd)) ps).toList=vals ρ ps.toList:=by simp [vals]
 simp only [execOp,ho,Instr.build,Sem.run_bind,z1,Result.andThen_ok,u1,Array.mapM_eq_mapM_toList,Sem.run_map,p1,Sem.run_pure,z2]
 rw [e,c1]
 rfl
theorem l_buildA (hT:TOk P T) {t n e:Nat} {te:TyI} {ps:Array (Nat × Operand)} {a b:Nat} {z:List Z} {q:Bool} {l:List AV} (ho:o.op = .build t ps) (ht:lk T t=some ⟨.array n e,a,b,z,q⟩) (he:lk T e=some te)
  (hf:fillA te.size (zeros z) (parts ev ps)=some l) (hK:K (.agg l) [] []):LOk P o m nh ev K:=by
 refine LOk.pure _ _ hK (by simp) fun g w m' ρ hm hrd hev => ?_
 obtain ⟨u,u1,u2,_⟩:=run_und hT ht w
 obtain rfl:=D_array u2
 obtain ⟨zv,z1,z2,z3,z4⟩:=run_zero hT ht w
 obtain ⟨cells',c1,c2⟩:=fillA_ok hev ps.toList _ l _ (cells_zeros g w z) hf
 refine ⟨_,?_,c2.agg⟩
 have e:(Array.map (fun x=>(x.fst,ρ x.snd)) ps).toList=vals ρ ps.toList:=by simp [vals]
 simp only [execOp,ho,Instr.build,Sem.run_bind,z1,Result.andThen_ok,u1,Sem.run_pure,z2,run_size hT he]
 rw [e,c1]
 rfl
theorem rowsOf_ok {g:Gh} {w:World} {ρ:Operand→Value} {size:Nat} (hev : ∀ x b,ev x=some b→Rep g w (ρ x) b) : ∀ (ps:List (Nat × Operand)) (k:Nat) (rows:List (List Tr)),rowsOf size k (ps.map fun p=>(p.1,ev p.2))=some rows →
  vals ρ ps=((ps.map fun p=>ρ p.2).zipIdx k).map (fun x=>(x.2,x.1))∧rows.length=ps.length∧(∀ v ∈ ps.map (fun p=>ρ p.2),v.cells.size=size)∧(∀ r ∈ rows,r.length=size) ∧
   ∀ (i:Nat) (t:Tr),rows.flatten[i]? = some t → ∃ c,((ps.map fun p=>ρ p.2).flatMap fun v=>v.cells.toList)[i]? = some c∧RepT (okB g w) w c t
 | [],k,rows,h=>by cases h; exact ⟨rfl,rfl,by simp,by simp,fun i t h=>by simp at h⟩
 | (i,x)::ps,k,rows,h=>by
  simp only [List.map_cons] at h
  unfold rowsOf at h
  cases hb:Nat.beq i k with
  | false=>rw [hb] at h; cases h
  | true =>
   rw [hb,cond_true] at h
   have hik:=Nat.eq_of_beq_eq_true hb
   subst hik
   split at h
   case h_2=>cases h
   rename_i a e1
   split at h
   case h_2=>cases h
   rename_i cs e2
   cases hb2:Nat.beq cs.length size with
   | false=>rw [hb2] at h; cases h
   | true =>
    rw [hb2,cond_true] at h
    have hcs:=Nat.eq_of_beq_eq_true hb2
    split at h
    case h_2=>cases h
    rename_i l e3
    cases h
    obtain ⟨h1,h2,h3,h4,h5⟩:=rowsOf_ok hev ps _ l e3
    obtain ⟨w1,w2⟩:=(hev x a e1).trCells e2
    refine ⟨?_,by simp [h2],fun v hv => ?_,fun r hr => ?_,fun j t hj => ?_⟩
    ·show (i,ρ x)::vals ρ ps=_
     rw [h1]; rfl
    ·simp only [List.map_cons,List.mem_cons] at hv
     rcases hv with rfl | hv
     ·omega
     ·exact h3 v hv
    ·simp only [List.mem_cons] at hr
     rcases hr with rfl | hr
     ·exact hcs
     ·exact h4 r hr
    ·simp only [List.map_cons,List.flatMap_cons]
     rw [List.flatten_cons] at hj
     by_cases k1:j<cs.length
     ·rw [List.getElem?_append_left k1] at hj
      rw [List.getElem?_append_left (by rw [Array.length_toList]; omega),Array.getElem?_toList]
      exact w2 j t hj
     ·rw [List.getElem?_append_right (by omega)] at hj
      rw [List.getElem?_append_right (by rw [Array.length_toList]; omega),Array.length_toList,w1]
      exact h5 _ t hj
theorem l_buildSlice (hT:TOk P T) {t e len:Nat} {te:TyI} {ps:Array (Nat × Operand)} {a b:Nat} {z:List Z} {q:Bool} {rows:List (List Tr)} (ho:o.op = .buildSlice t len ps) (ht:lk T t=some ⟨.slice e,a,b,z,q⟩) (he:lk T e=some te)
  (hr:rowsOf te.size 0 (parts ev ps)=some rows) (hl:rows.length=len) (h1:1≤te.size) (h2:len*te.size≤16777216) (h3:len*te.bytes≤140737488351232) (hK:K (.sl nh len) [] [(nh,some (.vec e te.size te.bytes rows))]):LOk P o m nh ev K:=by
 refine ⟨_,_,_,hK,by simp,by simp,fun g w m' ρ hm hn hrd hev => ?_⟩
 obtain ⟨ti,u,zt,_,u2,u3,_⟩:=hT.info ht
 obtain rfl:=D_slice u3
 obtain ⟨ti',u',z',i1,_,_,i4,_,i6,i7,i8⟩:=hT.info he
 obtain ⟨q1,q2,q3,q4,q5⟩:=rowsOf_ok hev ps.toList 0 rows hr
 have e1:(Array.map (fun x=>(x.fst,ρ x.snd)) ps).toList=vals ρ ps.toList:=by simp [vals]
 by_cases h00:len=0
 ·subst h00
  obtain rfl:rows=[]:=List.eq_nil_of_length_eq_zero hl
  have hps:ps.toList=[]:=List.eq_nil_of_length_eq_zero q2.symm
  obtain rfl:ps = #[]:=Array.toList_inj.1 hps
  have hrun0:(Instr.buildSlice t 0 #[]).run P w = .ok (.slice (some ⟨w.heap.size,0,none⟩) 0 0) (w.alloc (.cells #[] e)):=by
   simp [Instr.buildSlice,run_underlying u2,sizeOf,typeInfo,i1,newRow,Instr.fill]
   rw [show Array.range 0 = #[] from Array.eq_empty_of_size_eq_zero (by simp),Array.map_empty]
  refine LRes.new hm hn (.cells #[] e) (.row w.heap.size 0) (fun b e=>by cases e; rfl) _ (.slice (some ⟨w.heap.size,0,none⟩) 0 0) ?_ (fun _=>⟨by simp,by omega,.inr ⟨_,0,#[],rfl,heap_alloc_new w _,by simp,by omega,by simp,by simp,fun i t hi=>by simp at hi⟩⟩) (.sl (gset_same ..) (Nat.le_refl _))
  simp only [execOp,ho,List.map_toArray,List.map_nil,Array.map_empty,Sem.run_bind,hrun0,Result.andThen_ok]
  rfl
 have h0:1≤len:=by omega
 have hpos:0<len*te.size:=Nat.mul_pos (by omega) (by omega)
 have hz:=(zcells_cells i7).1
 have hfl:=Great.fill_whole (s:=te.size) (by omega) (ps.toList.map fun p=>ρ p.2) ((Array.range (len*te.size)).map (z'.cells[· % z'.cells.size]!)) q3 (by simp; rw [← hl,q2]; simp)
 have hrun:=run_buildSlice (P:=P) w t e len (Array.map (fun x=>(x.fst,ρ x.snd)) ps) _ ti' z' u2 i1 i6 (by rw [i4]; omega) (by rw [i4]; omega) (by rw [i4,e1,q1]; exact hfl)
 have hloc : ∀ b,Loc.b (.row w.heap.size len)=some b→b=w.heap.size:=fun b e=>by cases e; rfl
 have hg:=grow_alloc (w:=w) hm.xlt hn (.cells ((ps.toList.map fun p=>ρ p.2).flatMap fun v=>v.cells.toList).toArray e) hloc
 have hm63:len≤9223372036854775807:=by
  have:len*1≤len*te.size:=Nat.mul_le_mul_left _ h1
  omega
 have hsz:((ps.toList.map fun p=>ρ p.2).flatMap fun v=>v.cells.toList).length=len*te.size:=by
  have : ∀ (l:List Value),(∀ v ∈ l,v.cells.size=te.size)→(l.flatMap fun v=>v.cells.toList).length=l.length*te.size:=by
   intro l hl
   induction l with
   | nil=>simp
   | cons v l ih=>rw [List.flatMap_cons,List.length_append,Array.length_toList,hl v (by simp),ih (fun v hv=>hl v (by simp [hv])),List.length_cons,Nat.succ_mul]; omega
  rw [this _ q3,← hl,q2]; simp
 generalize ((ps.toList.map fun p=>ρ p.2).flatMap fun v=>v.cells.toList)=cl at *
 refine LRes.new hm hn (.cells cl.toArray e) (.row w.heap.size len) hloc _ (.slice (some ⟨w.heap.size,0,none⟩) len len) ?_ (fun _=>⟨by rw [hl]; omega,by omega,.inr ⟨_,len,cl.toArray,rfl,heap_alloc_new w _,by omega,hm63,by simpa using hsz,q4,fun i t hi => ?_⟩⟩) (.sl (gset_same ..) (Nat.le_refl _))
 ·simp only [execOp,ho,Sem.run_bind,hrun,Result.andThen_ok]
  rfl
 ·obtain ⟨c,c1,c2⟩:=q5 i t hi
  exact ⟨c,by simpa using c1,c2.grow hg⟩
theorem l_nilCheckP {x:Operand} {hd off:Nat} {b:Blk} (ho:o.op = .nilCheck x) (hx:ev x=some (.ptr hd off)) (hb:m hd=some b) (hK:K (.ptr hd off) [(hd,b)] []):LOk P o m nh ev K:=by
 refine LOk.pure _ _ hK (by simpa using hb) fun g w m' ρ hm hrd hev => ?_
 obtain ⟨l,g1,g2⟩:=hm.blk hd b (hrd (hd,b) (by simp))
 have hr:=hev _ _ hx
 generalize hv:ρ x=v at hr
 have hr':=hr
 cases hr with
 | ptrD e=>rw [g1] at e; cases e
 | ptr e=>exact ⟨_,by simp [execOp,ho,hv],hr'⟩
theorem l_nilCheckV {x:Operand} {hd n i off:Nat} {b:Blk} (ho:o.op = .nilCheck x) (hx:ev x=some (.vpt hd n i off)) (hb:m hd=some b) (hK:K (.vpt hd n i off) [(hd,b)] []):LOk P o m nh ev K:=by
 refine LOk.pure _ _ hK (by simpa using hb) fun g w m' ρ hm hrd hev => ?_
 obtain ⟨l,g1,g2⟩:=hm.blk hd b (hrd (hd,b) (by simp))
 have hr:=hev _ _ hx
 obtain ⟨b',cap,_,e⟩:=hr.vpt_inv g1
 exact ⟨_,by simp [execOp,ho,e],e ▸ hr⟩
theorem l_nilCheckE {x:Operand} {cs:List Tr} (ho:o.op = .nilCheck x) (hx:ev x=some (.ept cs)) (hK:K (.ept cs) [] []):LOk P o m nh ev K:=by
 refine LOk.pure _ _ hK (by simp) fun g w m' ρ hm hrd hev => ?_
 have hr:=hev _ _ hx
 obtain ⟨b,of,f,e,_⟩:=hr.ept_inv
 exact ⟨ρ x,by simp [execOp,ho,e],hr⟩
theorem l_nilCheckF {x:Operand} {f:Nat} {l:List AV} (ho:o.op = .nilCheck x) (hx:ev x=some (.fn f l)) (hK:K (.fn f l) [] []):LOk P o m nh ev K:=by
 refine LOk.pure _ _ hK (by simp) fun g w m' ρ hm hrd hev => ?_
 have hr:=hev _ _ hx
 generalize hv:ρ x=v at hr
 have hr':=hr
 cases hr with
 | fn h1 h2=>exact ⟨_,by simp [execOp,ho,hv],hr'⟩
theorem evs_ok {g:Gh} {w:World} {ρ:Operand→Value} (hev : ∀ x b,ev x=some b→Rep g w (ρ x) b) : ∀ (xs:List Operand) (l:List AV),evs ev xs=some l→(xs.map ρ).length=l.length ∧ ∀ (i:Nat) (c:Value) (a:AV),(xs.map ρ)[i]? = some c→l[i]? = some a→Rep g w c a
 | [],l,h=>by cases h; exact ⟨rfl,fun i c a h=>by simp at h⟩
 | x::r,l,h=>by
  unfold evs at h
  split at h
  ·rename_i a l' e1 e2
   cases h
   obtain ⟨h1,h2⟩:=evs_ok hev r l' e2
   refine ⟨by simpa using h1,fun i c b q1 q2 => ?_⟩
   cases i with
   | zero=>simp at q1 q2; subst q1; subst q2; exact hev _ _ e1
   | succ i=>exact h2 i c b (by simpa using q1) (by simpa using q2)
  ·cases h
theorem l_makeFunc {f:Nat} {fs cs:Array Operand} {l:List AV} (ho:o.op = .makeFunc (.func f) fs cs) (hf:fs.size=0) (hl:evs ev cs.toList=some l) (hK:K (.fn f l) [] []):LOk P o m nh ev K:=by
 refine LOk.pure _ _ hK (by simp) fun g w m' ρ hm hrd hev => ?_
 obtain ⟨h1,h2⟩:=evs_ok hev _ _ hl
 have:fs = #[]:=Array.eq_empty_of_size_eq_zero hf
 subst this
 refine ⟨.func (.func f) #[] (cs.map ρ),?_,.fn (by simpa using h1) fun i c a q1 q2=>h2 i c a (by simpa using q1) q2⟩
 simp [execOp,ho,Instr.makeFunc]
theorem l_makeBound {f:Nat} (hf:f<HMod) {x:Operand} {a:AV} (ho:o.op = .makeFunc (.func f) #[x] #[]) (hx:ev x=some a) (hK:K (.ifc (HMod+f) a) [] []):LOk P o m nh ev K :=
 LOk.pure _ _ hK (by simp) fun g w m' ρ hm hrd hev=>⟨.func (.func f) #[ρ x] #[],by simp [execOp,ho,Instr.makeFunc],.bnd hf (hev _ _ hx)⟩
theorem srcRows_ok {g:Gh} {w:World} {m m':Mem} (hm:MSt g w m') {n:Nat} (hn:0<n) {y:AV} {v:Value} {news:List (List Tr)} {rd:List (Nat × Blk)} (h:srcRows n m y=some (news,rd)) (hrd : ∀ p ∈ rd,m' p.1=some p.2) (hv:Rep g w v y) :
  (∀ r ∈ news,r.length=n) ∧ ∃ (ao:Option Addr) (c:Nat) (cl:List Value),v = .slice ao news.length c∧cl.length=news.length*n∧(∀ (j:Nat) (u:Value),cl[j]? = some u → ∃ b o,ao=some ⟨b,o,none⟩∧w.cell? ⟨b,o+j,none⟩=some u) ∧
   ∀ (j:Nat) (t:Tr),news.flatten[j]? = some t → ∃ u,cl[j]? = some u∧RepT (okB g w) w u t:=by
 unfold srcRows at h
 split at h
 ·cases h
  obtain ⟨rfl,_⟩:=val_inv hv
  exact ⟨by simp,none,0,[],rfl,by simp,by simp,by simp⟩
 ·rename_i n' B rows
  cases hb:Nat.beq n n' with
  | false=>rw [hb] at h; cases h
  | true =>
   rw [hb,cond_true] at h
   cases h
   have:=Nat.eq_of_beq_eq_true hb
   subst this
   obtain ⟨ao,cap,f,rfl,q1,q2,q3,q4,q5,q6⟩:=lst_inv hv.tr_inv
   have hrl : ∀ r ∈ news,r.length=n:=fun r hr=>by
    obtain ⟨i,hi⟩:=List.mem_iff_getElem?.1 hr
    exact (q5 i r hi).1
   refine ⟨hrl,ao,cap,((List.range (news.length*n)).map fun k=>f (k / n) (k % n)),rfl,by simp,fun j u hj => ?_,fun j t hj => ?_⟩
   ·simp only [List.getElem?_map,Option.map_eq_some_iff] at hj
    obtain ⟨k,hk,rfl⟩:=hj
    have hlt:j<news.length*n:=by have:=(List.getElem?_eq_some_iff.1 hk).1; simpa using this
    rw [List.getElem?_range hlt] at hk; cases hk
    have hd:j / n<news.length:=Nat.div_lt_of_lt_mul (by rw [Nat.mul_comm]; exact hlt)
    obtain ⟨_,b,o,e,_,hc⟩:=q5 (j / n) news[j / n] (by simp [hd])
    refine ⟨b,o,e,?_⟩
    rw [← hc (j % n) (Nat.mod_lt _ hn)]
    congr 2
    have:=Nat.div_add_mod j n
    rw [Nat.mul_comm] at this; omega
   ·have hlt:j<news.length*n:=by have:=(List.getElem?_eq_some_iff.1 hj).1; rwa [len_flat news hrl] at this
    have hd:j / n<news.length:=Nat.div_lt_of_lt_mul (by rw [Nat.mul_comm]; exact hlt)
    refine ⟨f (j / n) (j % n),by simp [List.getElem?_range hlt],q6 (j / n) news[j / n] _ t (by simp [hd]) ?_⟩
    have hfl : ∀ (rows:List (List Tr)) (j:Nat),(∀ r ∈ rows,r.length=n)→rows.flatten[j]? = (rows[j / n]?).bind fun r=>r[j % n]? := by
     intro rows
     induction rows with
     | nil=>intro j _; simp
     | cons r rs ih =>
      intro j hr
      have hr0:=hr r (by simp)
      rw [List.flatten_cons]
      by_cases k1:j<n
      ·rw [List.getElem?_append_left (by omega),Nat.div_eq_of_lt k1,Nat.mod_eq_of_lt k1]; rfl
      ·rw [List.getElem?_append_right (by omega),hr0,ih (j - n) (fun r h=>hr r (by simp [h]))]
       have e1:j / n=(j - n) / n+1:=by
        rw [← Nat.sub_add_cancel (show n≤j by omega),Nat.add_div_right _ hn]; simp
       have e2:j % n=(j - n) % n:=by rw [Nat.mod_eq_sub_mod (by omega)]
       rw [e1,e2]; rfl
    rw [hfl news j hrl] at hj
    simpa [hd] using hj
 ·rename_i hd len
  split at h
  case h_2=>cases h
  rename_i e n' B rows em
  cases hb:(Nat.beq n n' && Nat.ble len rows.length) with
  | false=>rw [hb] at h; cases h
  | true =>
   rw [hb,cond_true] at h
   cases h
   simp only [Bool.and_eq_true] at hb
   have:=Nat.eq_of_beq_eq_true hb.1
   have hle:=Nat.le_of_ble_eq_true hb.2
   subst this
   obtain ⟨l,g1,g2⟩:=hm.blk hd _ (hrd (hd,.vec e n B rows) (by simp))
   have g2':=g2
   obtain ⟨_,_,⟨rfl,rfl⟩ | ⟨b,cap,cur,rfl,e1,e2,e3,e4,e5,e6⟩⟩:=g2'
   ·rcases hv.sl_inv g1 with ⟨b,cap,e0,_,_⟩ | ⟨_,rfl,rfl⟩
    ·cases e0
    ·exact ⟨by simp,none,0,[],rfl,by simp,by simp,by simp⟩
   ·rcases hv.sl_inv g1 with ⟨b',cap',e0,e7,rfl⟩ | ⟨e0,_,_⟩
    ·cases e0
     have hlt:(rows.take len).length=len:=by rw [List.length_take]; omega
     have hcs:len*n≤cur.size:=by rw [e4]; exact Nat.mul_le_mul_right _ (by omega)
     have hpre : ∀ j,j<len*n→rows.flatten[j]? = (rows.take len).flatten[j]? := fun j hj=>by
      conv=>lhs; rw [← List.take_append_drop len rows,List.flatten_append]
      rw [List.getElem?_append_left]
      rw [len_flat _ (fun r hr=>e5 r (List.mem_of_mem_take hr)),hlt]; exact hj
     refine ⟨fun r hr=>e5 r (List.mem_of_mem_take hr),some ⟨b,0,none⟩,cap,cur.toList.take (len*n),by rw [hlt],by rw [hlt,List.length_take,Array.length_toList]; omega,fun j u hj=>⟨b,0,rfl,?_⟩,fun j t hj => ?_⟩
     ·rw [heap_cell e1,Nat.zero_add]
      rw [List.getElem?_take] at hj
      split at hj
      ·simpa using hj
      ·cases hj
     ·have hj':j<len*n:=by
       have:=(List.getElem?_eq_some_iff.1 hj).1
       rwa [len_flat _ (fun r hr=>e5 r (List.mem_of_mem_take hr)),hlt] at this
      obtain ⟨c,c1,c2⟩:=e6 j t (by rw [hpre j hj']; exact hj)
      exact ⟨c,by rw [List.getElem?_take,if_pos hj']; simpa using c1,c2⟩
    ·cases e0
 ·cases h
theorem fitsW {need old bytes:Nat} (h:old<need) (hb:need*bytes≤150000000000000) (h4:bytes≤4096):Builtin.nextslicecap need old*bytes≤281474976710656:=by
 refine growslice_fits_wide h ?_
 have h1:need / 4*bytes*4≤need*bytes:=by
  rw [Nat.mul_right_comm]
  exact Nat.mul_le_mul_right _ (Nat.div_mul_le_self _ _)
 rw [Nat.add_mul,Nat.add_mul]
 omega
theorem append_anyE (hT:TOk P T) {w:World} {t e ty:Nat} {te:TyI} {a b:Nat} {z:List Z} {q:Bool} (ht:lk T t=some ⟨.slice e,a,b,z,q⟩) (he:lk T e=some te) (hn:1≤te.size)
  {k n cap e0:Nat} {cur:Array Value} (hk:w.heap[k]? = some (.cells cur e0 (0,0))) (hnc:n≤cap) (hcm:cap≤9223372036854775807) (hcs:cur.size=cap*te.size) {b2 o2 mm c:Nat} {cl:List Value} (hl:cl.length=mm*te.size)
  (hc : ∀ (j:Nat) (u:Value),cl[j]? = some u→w.cell? ⟨b2,o2+j,none⟩=some u) (h1 : ∀ u ∈ cl,u.oneCell'=true) (h63:n+mm≤9223372036854775807) (hB:(n+mm)*te.bytes≤150000000000000) :
  ∃ w' k' cap' cur' e',(Builtin.append_ #[t,t] ty #[.slice (some ⟨k,0,none⟩) n cap,.slice (some ⟨b2,o2,none⟩) mm c]).run P w = .ok (.slice (some ⟨k',0,none⟩) (n+mm) cap') w'∧w.grownBy w' (some k) ∧
   w'.heap[k']? = some (.cells cur' e' (0,0))∧n+mm≤cap'∧cap'≤9223372036854775807∧cur'.size=cap'*te.size∧(∀ i,i<n*te.size→cur'[i]? = cur[i]?)∧(∀ (j:Nat) (u:Value),cl[j]? = some u→cur'[n*te.size+j]? = some u)∧(k'=k∨k'=w.heap.size)∧(e'=e0∨e'=e):=by
 obtain ⟨ti,u,zt,_,u2,u3,_⟩:=hT.info ht
 obtain rfl:=D_slice u3
 obtain ⟨ti',u',z',i1,_,_,i4,i5,i6,i7,i8⟩:=hT.info he
 have hzs:z'.cells.size=te.size:=by rw [(zcells_cells i7).1]; simpa using i8
 have hnews : ∀ j u,cl[j]? = some u→w.cell? ((⟨b2,o2,none⟩:Addr).add j)=some u:=fun j u hj=>by rw [add_mk]; exact hc j u hj
 have htk:(cur.toList.take (n*te.size)).length=n*te.size:=by
  have:n*te.size≤cap*te.size:=Nat.mul_le_mul_right _ hnc
  simp; omega
 by_cases hroom:n+mm≤cap
 ·have hfit:n*te.size+cl.length≤cur.size:=by rw [hl,hcs,← Nat.add_mul]; exact Nat.mul_le_mul_right _ hroom
  have hf:=run_firstCells_some (P:=P) w te.size mm ⟨b2,o2,none⟩ mm c cl hl hnews
  have hst:=run_storeCells_at P k (n*te.size) e0 cl 0 cur w hk (by simpa using hfit) h1
  simp only [Nat.add_zero] at hst
  refine ⟨w.setRow k (cur.toList.take (n*te.size)++cl++cur.toList.drop (n*te.size+cl.length)).toArray,k,cap,(cur.toList.take (n*te.size)++cl++cur.toList.drop (n*te.size+cl.length)).toArray,e0,?_,⟨rfl,rfl,rfl,by simp,fun i _ hi=>setRow_other w k i _ (fun q=>hi (by rw [q]))⟩,setRow_heap w k cur _ e0 _ hk,hroom,hcm,?_,fun i hi => ?_,fun j u hj => ?_,.inl rfl,.inl rfl⟩
  ·rw [← i4] at hf hst
   rw [← i4]
   simp [Builtin.append_,run_underlying u2,sizeOf,typeInfo,i1,Builtin.lenOf,hroom,hf,Addr.add_lit,hst]
  ·simp only [List.size_toArray,List.length_append,List.length_take,List.length_drop,Array.length_toList]
   omega
  ·simp only [List.getElem?_toArray,List.append_assoc]
   rw [List.getElem?_append_left (by omega),List.getElem?_take,if_pos hi,Array.getElem?_toList]
  ·have hjl:=(List.getElem?_eq_some_iff.1 hj).1
   simp only [List.getElem?_toArray,List.append_assoc]
   rw [List.getElem?_append_right (by omega),htk,Nat.add_sub_cancel_left,List.getElem?_append_left hjl,hj]
 ·have hxs : ∀ j u,(cur.toList.take (n*te.size))[j]? = some u→w.cell? ((⟨k,0,none⟩:Addr).add j)=some u:=fun j u hj=>by
   rw [add_mk,Nat.zero_add,cell_of_row w k j cur e0 (0,0) hk]
   rw [List.getElem?_take] at hj
   split at hj
   ·simpa using hj
   ·cases hj
  have hr:=run_append_grow (P:=P) w t ty e ti' z' u2 i1 i6 ⟨k,0,none⟩ n cap (cur.toList.take (n*te.size)) (by rw [i4]; exact htk) hxs ⟨b2,o2,none⟩ mm c cl (by rw [i4]; exact hl) hnews (by omega) (by omega) (by rw [i5]; exact fitsW (by omega) hB (hT.small he))
  have hge:=grownCap_ge w (n+mm) cap e
  have hcm':grownCap w (n+mm) cap e≤maxLen:=grownCap_le_maxLen w (n+mm) cap e (by simpa [maxLen] using h63)
  refine ⟨_,w.heap.size,_,_,e,hr,⟨rfl,rfl,rfl,by simp,fun i hi _=>heap_alloc_old w.drew _ (by exact hi)⟩,heap_alloc_new w.drew _,hge,by simpa [maxLen] using hcm',?_,fun i hi => ?_,fun j u hj => ?_,.inr rfl,.inr rfl⟩
  ·simp only [Array.size_append,List.size_toArray,size_zeroCells,hzs,htk,hl,← Nat.add_mul]
   congr 1
   omega
  ·rw [Array.append_assoc,Array.getElem?_append_left (by simp only [List.size_toArray]; omega)]
   simp only [List.getElem?_toArray]
   rw [List.getElem?_take,if_pos hi,Array.getElem?_toList]
  ·have hjl:=(List.getElem?_eq_some_iff.1 hj).1
   rw [Array.append_assoc,Array.getElem?_append_right (by simp only [List.size_toArray]; omega),List.size_toArray,htk,Nat.add_sub_cancel_left,Array.getElem?_append_left (by simpa using hjl)]
   simpa using hj
theorem append_any (hT:TOk P T) {w:World} {t e ty:Nat} {te:TyI} {a b:Nat} {z:List Z} {q:Bool} (ht:lk T t=some ⟨.slice e,a,b,z,q⟩) (he:lk T e=some te) (hn:1≤te.size)
  {k n cap e0:Nat} {cur:Array Value} (hk:w.heap[k]? = some (.cells cur e0 (0,0))) (hnc:n≤cap) (hcm:cap≤9223372036854775807) (hcs:cur.size=cap*te.size) {b2 o2 mm c:Nat} {cl:List Value} (hl:cl.length=mm*te.size)
  (hc : ∀ (j:Nat) (u:Value),cl[j]? = some u→w.cell? ⟨b2,o2+j,none⟩=some u) (h1 : ∀ u ∈ cl,u.oneCell'=true) (h63:n+mm≤9223372036854775807) (hB:(n+mm)*te.bytes≤150000000000000) :
  ∃ w' k' cap' cur' e',(Builtin.append_ #[t,t] ty #[.slice (some ⟨k,0,none⟩) n cap,.slice (some ⟨b2,o2,none⟩) mm c]).run P w = .ok (.slice (some ⟨k',0,none⟩) (n+mm) cap') w'∧w.grownBy w' (some k) ∧
   w'.heap[k']? = some (.cells cur' e' (0,0))∧n+mm≤cap'∧cap'≤9223372036854775807∧cur'.size=cap'*te.size∧(∀ i,i<n*te.size→cur'[i]? = cur[i]?)∧(∀ (j:Nat) (u:Value),cl[j]? = some u→cur'[n*te.size+j]? = some u)∧(k'=k∨k'=w.heap.size):=by
 obtain ⟨w',k',cap',cur',e',s1,s2,s3,s4,s5,s6,s7,s8,s9,_⟩:=append_anyE (ty:=ty) (c:=c) hT ht he hn hk hnc hcm hcs hl hc h1 h63 hB
 exact ⟨w',k',cap',cur',e',s1,s2,s3,s4,s5,s6,s7,s8,s9⟩
theorem append_own (hT:TOk P T) {g:Gh} {w:World} {t e ty:Nat} {te:TyI} {a b:Nat} {z:List Z} {q:Bool} (ht:lk T t=some ⟨.slice e,a,b,z,q⟩) (he:lk T e=some te) (hn:1≤te.size)
  {v:Value} {n:Nat} {xs:List Value} (hown:w.ownsRow 0 e te.size v n xs) {ao:Option Addr} {mm c:Nat} {cl:List Value} (hl:cl.length=mm*te.size)
  (hc : ∀ (j:Nat) (u:Value),cl[j]? = some u → ∃ b o,ao=some ⟨b,o,none⟩∧w.cell? ⟨b,o+j,none⟩=some u) (h1 : ∀ u ∈ cl,u.oneCell'=true) (h63:n+mm≤9223372036854775807) (hB:(n+mm)*te.bytes≤150000000000000) :
  ∃ v' w',(Builtin.append_ #[t,t] ty #[v,.slice ao mm c]).run P w = .ok v' w'∧w'.ownsRow 0 e te.size v' (n+mm) (xs++cl)∧w.grownBy w' v.ownBlock∧(v'.ownBlock=v.ownBlock∨v'.ownBlock=some w.heap.size):=by
 obtain ⟨ti,u,zt,_,u2,u3,_⟩:=hT.info ht
 obtain rfl:=D_slice u3
 obtain ⟨ti',u',z',i1,_,_,i4,i5,i6,i7,i8⟩:=hT.info he
 have hzs:z'.cells.size=te.size:=by rw [(zcells_cells i7).1]; simpa using i8
 by_cases hm:mm=0
 ·subst hm
  have:cl=[]:=List.eq_nil_of_length_eq_zero (by simpa using hl)
  subst this
  refine ⟨v,w,?_,by simpa using hown,⟨rfl,rfl,rfl,Nat.le_refl _,fun _ _ _=>rfl⟩,.inl rfl⟩
  obtain ⟨_,⟨rfl,rfl⟩ | ⟨k,cap,cur,rfl,_,e1,e2,_⟩⟩:=hown
  ·cases ao <;> simp [Builtin.append_,run_underlying u2,sizeOf,typeInfo,i1,Builtin.lenOf,Builtin.firstCells,loadCells,loadCellsFrom]
  ·cases ao <;> simp [Builtin.append_,run_underlying u2,sizeOf,typeInfo,i1,Builtin.lenOf,Builtin.firstCells,loadCells,loadCellsFrom,e2,storeCells]
 ·have hpos:0<cl.length:=by rw [hl]; exact Nat.mul_pos (by omega) (by omega)
  obtain ⟨bk,of,rfl,_⟩:=hc 0 cl[0] (by simp)
  have hnews : ∀ j u,cl[j]? = some u→w.cell? ((⟨bk,of,none⟩:Addr).add j)=some u:=fun j u hj=>by
   obtain ⟨b2,o2,q1,q2⟩:=hc j u hj
   cases q1
   rw [add_mk]; exact q2
  obtain ⟨hxl,⟨rfl,rfl⟩ | ⟨k,cap,cur,rfl,_,k1,k2,k3,k4,k5⟩⟩:=hown
  ·have hx:xs=[]:=List.eq_nil_of_length_eq_zero (by simpa using hxl)
   subst hx
   rw [Nat.zero_add] at hB h63
   have hr:=run_append_nil (P:=P) w t ty e ti' z' u2 i1 i6 ⟨bk,of,none⟩ mm c cl (by rw [i4]; exact hl) hnews (by omega) (by omega) (by rw [i5]; omega)
   have hge:=grownCap_ge w mm 0 e
   have hcm:grownCap w mm 0 e≤maxLen:=grownCap_le_maxLen w mm 0 e (by simpa [maxLen] using h63)
   refine ⟨_,_,hr,⟨by simp [hl],.inr ⟨w.heap.size,_,_,by rw [Nat.zero_add],Nat.zero_le _,heap_alloc_new w.drew _,by rw [Nat.zero_add]; exact hge,hcm,?_,?_⟩⟩,⟨rfl,rfl,rfl,by simp,fun k hk _=>heap_alloc_old w.drew _ (by exact hk)⟩,.inr rfl⟩
   ·simp only [Array.size_append,List.size_toArray,size_zeroCells,hzs,hl,← Nat.add_mul]
    congr 1
    omega
   ·rw [List.nil_append]
    simp only [Array.toList_append]
    rw [Nat.zero_add,← hl]
    exact List.take_left
  ·obtain ⟨w',k',cap',cur',e',s1,s2,s3,s4,s5,s6,s7,s8,s9,s10⟩:=append_anyE (P:=P) (ty:=ty) (c:=c) hT ht he hn k1 k2 (by simpa [maxLen] using k3) k4 hl (fun j u hj=>by have:=hnews j u hj; rwa [add_mk] at this) h1 h63 hB
   obtain rfl:e'=e:=s10.elim id id
   have hxs:xs.length≤cur.size:=by rw [hxl,k4]; exact Nat.mul_le_mul_right _ k2
   refine ⟨_,w',s1,⟨by rw [List.length_append,hxl,hl,Nat.add_mul],.inr ⟨k',cap',cur',rfl,Nat.zero_le _,s3,s4,by simpa [maxLen] using s5,s6,?_⟩⟩,s2,?_⟩
   ·refine List.ext_getElem? fun i => ?_
    rw [show (n+mm)*te.size=xs.length+cl.length by rw [hxl,hl,Nat.add_mul],List.getElem?_take]
    by_cases hi:i<xs.length
    ·rw [if_pos (by omega),List.getElem?_append_left hi,Array.getElem?_toList,s7 i (by omega),← k5,List.getElem?_take,if_pos (by omega),Array.getElem?_toList]
    ·rw [List.getElem?_append_right (by omega)]
     by_cases hj:i - xs.length<cl.length
     ·rw [if_pos (by omega),List.getElem?_eq_getElem hj,Array.getElem?_toList]
      have:=s8 (i - xs.length) _ (List.getElem?_eq_getElem hj)
      rwa [← hxl,show xs.length+(i - xs.length)=i by omega] at this
     ·rw [if_neg (by omega),List.getElem?_eq_none (by omega)]
   ·rcases s9 with rfl | rfl
    ·exact .inl rfl
    ·exact .inr rfl
def gapp (g:Gh) (nh:Nat) (l':Loc) (hd:Option Nat):Gh:=⟨fun h=>if h=nh then .live l' else if hd=some h then .dead else g h,g.X,[],fun k b=>(k=nh ∧ ∃ h,hd=some h∧g.F h b)∨(k≠nh∧g.F k b)⟩
theorem gapp_new (g:Gh) (nh:Nat) (l':Loc) (hd:Option Nat):gapp g nh l' hd nh = .live l':=by simp [gapp]
theorem gapp_un {g:Gh} {nh:Nat} {l':Loc} {hd:Option Nat} {h:Nat} (h1:h≠nh) (h2:hd≠some h):gapp g nh l' hd h=g h:=by simp [gapp,h1,h2]
theorem gapp_F {g:Gh} {nh:Nat} {l':Loc} {hd:Option Nat} {k:Nat} (h1:k≠nh):(gapp g nh l' hd).F k=g.F k:=by funext b; simp [gapp,h1]
theorem gapp_owns {g:Gh} {nh:Nat} {l':Loc} {hd:Option Nat} {k b:Nat} (h:Owns (gapp g nh l' hd) k b):(k=nh∧(l'.b=some b ∨ ∃ h,hd=some h∧g.F h b))∨(k≠nh∧hd≠some k∧Owns g k b):=by
 obtain ⟨l,e1,e2⟩:=h
 change (if k=nh then HS.live l' else if hd=some k then HS.dead else g k) = .live l at e1
 change l.b=some b∨((k=nh ∧ ∃ h,hd=some h∧g.F h b)∨(k≠nh∧g.F k b)) at e2
 split at e1
 ·rename_i q
  cases e1
  refine .inl ⟨q,?_⟩
  rcases e2 with e2 | ⟨_,e2⟩ | ⟨e2,_⟩
  ·exact .inl e2
  ·exact .inr e2
  ·exact absurd q e2
 ·rename_i q
  split at e1
  ·cases e1
  ·rename_i q2
   refine .inr ⟨q,q2,l,e1,?_⟩
   rcases e2 with e2 | ⟨e2,_⟩ | ⟨_,e2⟩
   ·exact .inl e2
   ·exact absurd e2 q
   ·exact .inr e2
theorem gapp_was {g:Gh} {w:World} {l l':Loc} {hd:Option Nat} (hh : ∀ h,hd=some h→g h = .live l) (hd0:hd=none→l.b=none) (hl' : ∀ b,l'.b=some b→l.b=some b∨w.heap.size≤b) {b:Nat} (h:l'.b=some b ∨ ∃ h,hd=some h∧g.F h b) :
  (∃ h,hd=some h∧Owns g h b)∨w.heap.size≤b:=by
 rcases h with h | ⟨h,e,h1⟩
 ·rcases hl' b h with e3 | e3
  ·cases hd with
   | none=>rw [hd0 rfl] at e3; cases e3
   | some h=>exact .inl ⟨h,rfl,l,hh h rfl,.inl e3⟩
  ·exact .inr e3
 ·exact .inl ⟨h,e,l,hh h e,.inr h1⟩
theorem grow_append {g:Gh} {w w':World} {m:Mem} (hm:MSt g w m) {nh:Nat} (hn:g nh = .un) {l l':Loc} {hd:Option Nat} (hh : ∀ h,hd=some h→g h = .live l) (hw:w.grownBy w' l.b) (hd0:hd=none→l.b=none) (hl' : ∀ b,l'.b=some b→l.b=some b∨w.heap.size≤b) :
  Grow g w (gapp g nh l' hd) w':=by
 refine ⟨hw.os,hw.tape,hw.output,hw.size,fun b hb=>hw.block b hb.1 fun e => ?_,fun b hb=>hw.block b (hm.xlt b hb) fun e => ?_,rfl,fun h h1 => ?_,fun h lx h1 => ?_,fun h b e1 => ?_⟩
 ·cases hd with
  | none=>rw [hd0 rfl] at e; cases e
  | some h=>exact hb.2.2 h (.root (hh h rfl) e.symm)
 ·cases hd with
  | none=>rw [hd0 rfl] at e; cases e
  | some h=>exact hm.xl h b (.root (hh h rfl) e.symm) hb
 ·show (if h=nh then HS.live l' else if hd=some h then HS.dead else g h) ≠ .un
  split
  ·simp
  ·split
   ·simp
   ·exact h1
 ·change (if h=nh then HS.live l' else if hd=some h then HS.dead else g h) = .live lx at h1
  split at h1
  ·rename_i e; subst e; exact .inr hn
  ·split at h1
   ·cases h1
   ·exact .inl h1
 ·rcases gapp_owns e1 with ⟨_,e2⟩ | ⟨_,_,e2⟩
  ·exact (gapp_was hh hd0 hl' e2).imp (fun ⟨h,_,e⟩=>⟨h,e⟩) id
  ·exact .inl ⟨h,e2⟩
theorem mst_append {g:Gh} {w w':World} {m:Mem} (hm:MSt g w m) {nh:Nat} (hn:g nh = .un) {l l':Loc} {hd:Option Nat} (hh : ∀ h,hd=some h→g h = .live l) (hw:w.grownBy w' l.b) (hd0:hd=none→l.b=none) (hl' : ∀ b,l'.b=some b→l.b=some b∨w.heap.size≤b)
  (hlt : ∀ b,l'.b=some b→b<w'.heap.size) {bl:Blk} (hb:BRep (gapp g nh l' hd) w' l' ((gapp g nh l' hd).F nh) bl) :
  MSt (gapp g nh l' hd) w' (updM m ((nh,some bl)::(hd.toList.map fun h=>(h,none)))):=by
 have hg:=grow_append hm hn hh hw hd0 hl'
 have hdn:hd≠some nh:=fun e=>by have:=hh nh e; rw [hn] at this; cases this
 have was:=fun {b}=>gapp_was (b:=b) hh hd0 hl'
 refine ⟨fun h b' hb' => ?_,fun h h' b e1 e2 => ?_,fun h b e1 => ?_,fun b hb=>Nat.lt_of_lt_of_le (hm.xlt b hb) hw.size,fun h b e1 hx => ?_,hm.gl.grow hg⟩
 ·by_cases e:h=nh
  ·subst e
   have:b'=bl:=by simpa [updM,lk] using hb'.symm
   subst this
   exact ⟨l',gapp_new ..,hb⟩
  ·have e':Nat.beq nh h=false:=beq_ne fun q=>e q.symm
   rw [gapp_F e]
   cases hd with
   | none =>
    have hb'':m h=some b':=by simpa [updM,lk,e'] using hb'
    obtain ⟨l1,e1,e2⟩:=hm.blk h b' hb''
    refine ⟨l1,by rw [gapp_un e (by simp),e1],e2.grow hg fun k hk=>hw.block k (hm.lt h k ⟨l1,e1,hk⟩) fun q => ?_⟩
    rw [hd0 rfl] at q; cases q
   | some hx =>
    by_cases e3:hx=h
    ·subst e3
     simp [updM,lk,e'] at hb'
    ·have e3':Nat.beq hx h=false:=beq_ne e3
     have hb'':m h=some b':=by simpa [updM,lk,e',e3'] using hb'
     obtain ⟨l1,e1,e2⟩:=hm.blk h b' hb''
     refine ⟨l1,by rw [gapp_un e (by simp [e3]),e1],e2.grow hg fun k hk=>hw.block k (hm.lt h k ⟨l1,e1,hk⟩) fun q=>e3 ?_⟩
     exact hm.inj hx h k (.root (hh hx rfl) q.symm) ⟨l1,e1,hk⟩
 ·rcases gapp_owns e1 with ⟨q1,e3⟩ | ⟨q1,q2,e3⟩ <;> rcases gapp_owns e2 with ⟨q3,e4⟩ | ⟨q3,q4,e4⟩
  ·rw [q1,q3]
  ·rcases was e3 with ⟨hx,q5,e5⟩ | e5
   ·exact absurd (by rw [q5,hm.inj hx h' b e5 e4]) q4
   ·have:=hm.lt h' b e4; omega
  ·rcases was e4 with ⟨hx,q5,e5⟩ | e5
   ·exact absurd (by rw [q5,hm.inj hx h b e5 e3]) q2
   ·have:=hm.lt h b e3; omega
  ·exact hm.inj h h' b e3 e4
 ·rcases gapp_owns e1 with ⟨_,e3⟩ | ⟨_,_,e3⟩
  ·rcases e3 with e3 | ⟨hx,q,e3⟩
   ·exact hlt b e3
   ·exact Nat.lt_of_lt_of_le (hm.lt hx b ⟨l,hh hx q,.inr e3⟩) hw.size
  ·exact Nat.lt_of_lt_of_le (hm.lt h b e3) hw.size
 ·rcases gapp_owns e1 with ⟨_,e3⟩ | ⟨_,_,e3⟩
  ·rcases was e3 with ⟨hx',q,e4⟩ | e4
   ·exact hm.xl hx' b e4 hx
   ·have:=hm.xlt b hx; omega
  ·exact hm.xl h b e3 hx
theorem l_appX (hT:TOk P T) {t e:Nat} {te:TyI} {a0 b0:Nat} {z0:List Z} {q0:Bool} {x y:Operand} {ax ay:AV} {news:List (List Tr)} {rd:List (Nat × Blk)} (ho:o.op = .call { callee := .builtin .append,args := #[x,y],argTypes := #[t,t] }) (hx:ev x=some ax) (hy:ev y=some ay)
  (e1:lk T t=some ⟨.slice e,a0,b0,z0,q0⟩) (e2:lk T e=some te) (hs1:1≤te.size) (hb1:1≤te.bytes) (rdm : ∀ p ∈ rd,m p.1=some p.2)
  (hsrc : ∀ (g:Gh) (w:World) (m':Mem) (v:Value),MSt g w m'→(∀ p ∈ rd,m' p.1=some p.2)→Rep g w v ay→(∀ r ∈ news,r.length=te.size) ∧ ∃ (ao:Option Addr) (c:Nat) (cl:List Value),v = .slice ao news.length c∧cl.length=news.length*te.size∧(∀ (j:Nat) (u:Value),cl[j]? = some u → ∃ b o,ao=some ⟨b,o,none⟩∧w.cell? ⟨b,o+j,none⟩=some u) ∧
   ∀ (j:Nat) (t:Tr),news.flatten[j]? = some t → ∃ u,cl[j]? = some u∧RepT (okB g w) w u t) (h:appX m nh e te news rd K ax):LOk P o m nh ev K:=by
 have hrun : ∀ (ρ:Operand→Value) (w w':World) (v:Value),(Builtin.append_ #[t,t] o.type #[ρ x,ρ y]).run P w = .ok v w'→(execOp ρ o).run P w = .ok (.value v) w':=fun ρ w w' v e=>by
  simp [execOp,ho,resolve,invoke,builtin,e]
 have one : ∀ {g:Gh} {w:World} {cl:List Value},cl.length=news.length*te.size→(∀ r ∈ news,r.length=te.size)→(∀ (j:Nat) (t:Tr),news.flatten[j]? = some t → ∃ u,cl[j]? = some u∧RepT (okB g w) w u t) → ∀ u ∈ cl,u.oneCell'=true:=by
  intro g w cl h1 h2 h3 u hu
  obtain ⟨j,hj⟩:=List.mem_iff_getElem?.1 hu
  have hlt:j<news.flatten.length:=by rw [len_flat news h2,← h1]; exact (List.getElem?_eq_some_iff.1 hj).1
  obtain ⟨u',c1,c2⟩:=h3 j news.flatten[j] (by simp [hlt])
  rw [hj] at c1; cases c1
  exact c2.one
 unfold appX at h
 split at h
 ·
  obtain ⟨hB,hK⟩:=h
  refine ⟨_,_,_,hK,rdm,by simp,fun g w m' ρ hm hn hrd hev => ?_⟩
  obtain ⟨hr,ao,c,cl,q1,q2,q3,q4⟩:=hsrc g w m' _ hm hrd (hev _ _ hy)
  obtain ⟨hv,_⟩:=val_inv (hev _ _ hx)
  have h63:0+news.length≤9223372036854775807:=by
   have:news.length*1≤news.length*te.bytes:=Nat.mul_le_mul_left _ hb1
   omega
  obtain ⟨v',w',r1,r2,r3,r4⟩:=append_own (ty:=o.type) hT (g:=g) e1 e2 hs1 (World.ownsRow_nil w 0 e te.size) q2 q3 (one q2 hr q4) h63 (by rw [Nat.zero_add]; omega)
  rw [Nat.zero_add,List.nil_append] at r2
  rw [← hv,← q1] at r1
  obtain ⟨_,⟨rfl,rn⟩ | ⟨k,cap,cur,rfl,_,k1,k2,k3,k4,k5⟩⟩:=r2
  ·have hnil:news=[]:=List.eq_nil_of_length_eq_zero rn
   subst hnil
   refine ⟨_,w',.inl ⟨_,hrun ρ w w' _ r1,.slN (gapp_new ..)⟩,mst_append (l := .nil) (l' := .nil) (hd:=none) hm hn (by simp) r3 (by simp [Loc.b]) (by simp [Loc.b]) (by simp [Loc.b]) ⟨by simp,by omega,.inl ⟨rfl,rfl⟩⟩,grow_append hm (l := .nil) (l' := .nil) (hd:=none) hn (by simp) r3 (by simp [Loc.b]) (by simp [Loc.b]),fun h h1 h2=>by rw [gapp_un h1 (by simp),h2]⟩
  ·have hnew:k=w.heap.size:=by
    rcases r4 with r4 | r4 <;> simp [Value.ownBlock] at r4
    exact r4
   have hG:=grow_append hm (l := .nil) (l' := .row k cap) (hd:=none) hn (by simp) r3 (by simp [Loc.b]) (fun b eb => .inr (by cases eb; omega))
   refine ⟨_,w',.inl ⟨_,hrun ρ w w' _ r1,.sl (b:=k) (cap:=cap) (gapp_new ..) k2⟩,mst_append (l := .nil) (l' := .row k cap) (hd:=none) hm hn (by simp) r3 (by simp [Loc.b]) (fun b eb => .inr (by cases eb; omega)) (fun b eb=>by cases eb; exact (Array.getElem?_eq_some_iff.1 k1).1)
    ⟨hB,by omega,.inr ⟨k,cap,cur,rfl,k1,k2,by simpa [maxLen] using k3,k4,hr,fun i t hi => ?_⟩⟩,hG,fun h h1 h2=>by rw [gapp_un h1 (by simp),h2]⟩
   obtain ⟨u,c1,c2⟩:=q4 i t hi
   refine ⟨u,?_,c2.grow hG⟩
   rw [← k5,List.getElem?_take] at c1
   split at c1
   ·simpa using c1
   ·cases c1
 ·
  rename_i hd len
  split at h
  case h_2=>exact h.elim
  rename_i e' n B rows em
  obtain ⟨rfl,rfl,rfl,hle,hB,hne,hK⟩:=h
  refine ⟨_,_,_,hK,fun p hp => ?_,fun p hp => ?_,fun g w m' ρ hm hn hrd hev => ?_⟩
  ·simp only [List.mem_cons] at hp
   rcases hp with rfl | hp
   ·exact em
   ·exact rdm p hp
  ·simp only [List.mem_cons,List.not_mem_nil,or_false] at hp
   rcases hp with rfl | rfl
   ·exact .inl rfl
   ·exact .inr ⟨(hd,.vec e' te.size te.bytes rows),by simp,rfl⟩
  obtain ⟨hr,ao,c,cl,q1,q2,q3,q4⟩:=hsrc g w m' _ hm (fun p hp=>hrd p (by simp [hp])) (hev _ _ hy)
  obtain ⟨l,g1,g2⟩:=hm.blk hd _ (hrd (hd,.vec e' te.size te.bytes rows) (by simp))
  have h63:len+news.length≤9223372036854775807:=by
   have:(len+news.length)*1≤(len+news.length)*te.bytes:=Nat.mul_le_mul_left _ hb1
   omega
  obtain ⟨xs,hown,hlb,hxr,hxs⟩ : ∃ xs,w.ownsRow 0 e' te.size (ρ x) len xs∧(ρ x).ownBlock=l.b∧(∀ r ∈ rows,r.length=te.size) ∧ ∀ (j:Nat) (t:Tr),(rows.take len).flatten[j]? = some t → ∃ u,xs[j]? = some u∧RepT (okB g w) w u t:=by
   obtain ⟨_,_,⟨rfl,rfl⟩ | ⟨k,cap,cur,rfl,k1,k2,k3,k4,k5,k6⟩⟩:=g2
   ·rcases (hev _ _ hx).sl_inv g1 with ⟨b,cap,e0,_,_⟩ | ⟨_,rfl,e5⟩
    ·cases e0
    ·rw [e5]; exact ⟨[],World.ownsRow_nil _ _ _ _,rfl,by simp,by simp⟩
   ·rcases (hev _ _ hx).sl_inv g1 with ⟨b,cap',e0,e4,e5⟩ | ⟨e0,_⟩
    ·cases e0
     rw [e5]
     have hcs:len*te.size≤cur.size:=by rw [k4]; exact Nat.mul_le_mul_right _ (by omega)
     refine ⟨cur.toList.take (len*te.size),⟨by simp; omega,.inr ⟨k,cap,cur,rfl,Nat.zero_le _,k1,e4,by simpa [maxLen] using k3,k4,rfl⟩⟩,rfl,k5,fun j t hj => ?_⟩
     have hlt:(rows.take len).length=len:=by rw [List.length_take]; omega
     have hj':j<len*te.size:=by
      have:=(List.getElem?_eq_some_iff.1 hj).1
      rwa [len_flat _ (fun r hr=>k5 r (List.mem_of_mem_take hr)),hlt] at this
     obtain ⟨u,c1,c2⟩:=k6 j t (by
      rw [← hj]
      conv=>lhs; rw [← List.take_append_drop len rows,List.flatten_append]
      rw [List.getElem?_append_left]
      rw [len_flat _ (fun r hr=>k5 r (List.mem_of_mem_take hr)),hlt]; exact hj')
     exact ⟨u,by rw [List.getElem?_take,if_pos hj']; simpa using c1,c2⟩
    ·cases e0
  obtain ⟨v',w',r1,r2,r3,r4⟩:=append_own (ty:=o.type) hT (g:=g) e1 e2 hs1 hown q2 q3 (one q2 hr q4) h63 (by omega)
  rw [← q1] at r1
  rw [hlb] at r3 r4
  have hxl:=hown.1
  have hrows : ∀ r ∈ rows.take len++news,r.length=te.size:=fun r h'=>by
   simp only [List.mem_append] at h'
   rcases h' with h' | h'
   ·exact hxr r (List.mem_of_mem_take h')
   ·exact hr r h'
  obtain ⟨_,⟨rfl,rn⟩ | ⟨k,cap,cur,rfl,_,k1,k2,k3,k4,k5⟩⟩:=r2
  ·have hnil:news=[]:=List.eq_nil_of_length_eq_zero (by omega)
   subst hnil
   have hl0:len=0:=by simpa using rn
   subst hl0
   exact ⟨_,w',.inl ⟨_,hrun ρ w w' _ r1,.slN (gapp_new ..)⟩,mst_append (l:=l) (l' := .nil) (hd:=some hd) hm hn (fun h e=>by cases e; exact g1) r3 (by simp) (by simp [Loc.b]) (by simp [Loc.b]) ⟨by simp,by omega,.inl ⟨rfl,by simp⟩⟩,grow_append hm (l:=l) (l' := .nil) (hd:=some hd) hn (fun h e=>by cases e; exact g1) r3 (by simp) (by simp [Loc.b]),fun h h1 h2=>by
    have:hd≠h:=fun e=>by rw [e] at g1; rw [h2] at g1; cases g1
    rw [gapp_un h1 (by simp [this]),h2]⟩
  ·have hnew : ∀ b,(Loc.row k cap).b=some b→l.b=some b∨w.heap.size≤b:=fun b eb=>by
    cases eb
    rcases r4 with r4 | r4
    ·exact .inl (by rw [← r4]; rfl)
    ·simp [Value.ownBlock] at r4; exact .inr (by omega)
   have hG:=grow_append hm (l:=l) (l' := .row k cap) (hd:=some hd) hn (fun h e=>by cases e; exact g1) r3 (by simp) hnew
   refine ⟨_,w',.inl ⟨_,hrun ρ w w' _ r1,.sl (b:=k) (cap:=cap) (gapp_new ..) k2⟩,mst_append (l:=l) (l' := .row k cap) (hd:=some hd) hm hn (fun h e=>by cases e; exact g1) r3 (by simp) hnew (fun b eb=>by cases eb; exact (Array.getElem?_eq_some_iff.1 k1).1)
    ⟨by rw [List.length_append,List.length_take,Nat.min_eq_left hle]; exact hB,by omega,.inr ⟨k,cap,cur,rfl,k1,by rw [List.length_append,List.length_take,Nat.min_eq_left hle]; exact k2,by simpa [maxLen] using k3,k4,hrows,fun i t hi => ?_⟩⟩,hG,fun h h1 h2=>by
     have:hd≠h:=fun e=>by rw [e] at g1; rw [h2] at g1; cases g1
     rw [gapp_un h1 (by simp [this]),h2]⟩
   have hfl:(rows.take len).flatten.length=len*te.size:=by
    rw [len_flat _ (fun r h'=>hxr r (List.mem_of_mem_take h')),List.length_take,Nat.min_eq_left hle]
   rw [List.flatten_append] at hi
   have : ∃ u,(xs++cl)[i]? = some u∧RepT (okB g w) w u t:=by
    by_cases c1:i<len*te.size
    ·rw [List.getElem?_append_left (by omega)] at hi
     rw [List.getElem?_append_left (by omega)]
     exact hxs i t hi
    ·rw [List.getElem?_append_right (by omega),hfl] at hi
     rw [List.getElem?_append_right (by omega),hxl]
     exact q4 _ t hi
   obtain ⟨u,c1,c2⟩:=this
   refine ⟨u,?_,c2.grow hG⟩
   rw [← k5,List.getElem?_take] at c1
   split at c1
   ·simpa using c1
   ·cases c1
 ·exact h.elim
theorem l_append (hT:TOk P T) {t:Nat} {x y:Operand} {ax ay:AV} (ho:o.op = .call { callee := .builtin .append,args := #[x,y],argTypes := #[t,t] }) (hx:ev x=some ax) (hy:ev y=some ay) (h:aappend T m nh t ax ay K):LOk P o m nh ev K:=by
 have hrun : ∀ (ρ:Operand→Value) (w w':World) (v:Value),(Builtin.append_ #[t,t] o.type #[ρ x,ρ y]).run P w = .ok v w'→(execOp ρ o).run P w = .ok (.value v) w':=fun ρ w w' v e=>by
  simp [execOp,ho,resolve,invoke,builtin,e]
 unfold aappend at h
 split at h
 case h_2=>exact h.elim
 rename_i e s1 s2 s3 s4 e1
 split at h
 case h_2=>exact h.elim
 rename_i te e2
 split at h
 case h_2=>exact h.elim
 rename_i news rd e3
 cases hb:(Nat.ble 1 te.size && Nat.ble 1 te.bytes) with
 | false=>rw [hb] at e3; cases e3
 | true =>
 rw [hb,cond_true] at e3
 simp only [Bool.and_eq_true] at hb
 have hs1:=Nat.le_of_ble_eq_true hb.1
 have hb1:=Nat.le_of_ble_eq_true hb.2
 have rdm : ∀ p ∈ rd,m p.1=some p.2:=by
  unfold srcRows at e3
  split at e3
  ·cases e3; simp
  ·rename_i n' B rows
   cases hbb:Nat.beq te.size n' with
   | true=>rw [hbb] at e3; cases e3; simp
   | false=>rw [hbb] at e3; cases e3
  ·rename_i hd len
   split at e3
   ·rename_i e' n' B rows em
    cases hbb:(Nat.beq te.size n' && Nat.ble len rows.length) with
    | true=>rw [hbb] at e3; cases e3; simpa using em
    | false=>rw [hbb] at e3; cases e3
   ·cases e3
  ·cases e3
 exact l_appX hT ho hx hy e1 e2 hs1 hb1 rdm (fun g w m' v hm hrd hv=>srcRows_ok hm (by omega) e3 hrd hv) h
end
end Go.Proofs.YtbflekglkkdipaaGreatDoor.am
namespace Go.Proofs.YtbflekglkkdipaaGreatDoor.am
open Go
set_option linter.unusedSimpArgs false
section
variable {P:Program} {T:Ty} {o:Oper} {m:Mem} {nh:Nat} {ev:Operand→Option AV} {K:KK}
theorem l_pick {c x y:Operand} {b:Bool} (ho:o.op = .pick c x y) (hc:ev c=some (.tr (.v (.bool b)))) (h:cond b (match ev x with | some a=>K a [] [] | none=>False) (match ev y with | some a=>K a [] [] | none=>False)):LOk P o m nh ev K:=by
 cases b with
 | true =>
  rw [cond_true] at h
  split at h
  case h_2=>exact h.elim
  rename_i a e
  refine LOk.pure _ _ h (by simp) fun g w m' ρ hm hrd hev=>⟨_,?_,hev _ _ e⟩
  simp [execOp,ho,(val_inv (hev _ _ hc)).1,asBool]
 | false =>
  rw [cond_false] at h
  split at h
  case h_2=>exact h.elim
  rename_i a e
  refine LOk.pure _ _ h (by simp) fun g w m' ρ hm hrd hev=>⟨_,?_,hev _ _ e⟩
  simp [execOp,ho,(val_inv (hev _ _ hc)).1,asBool]
theorem l_makeMap {t:Nat} {kd:D} (ho:o.op = .makeMap t none) (hK:K (.mp nh) [] [(nh,some (.map kd []))]):LOk P o m nh ev K:=by
 refine ⟨_,_,_,hK,by simp,by simp,fun g w m' ρ hm hn hrd hev => ?_⟩
 refine LRes.new hm hn (.map #[] 0) (.blk w.heap.size) (fun b e=>by cases e; rfl) _ (.map (some w.heap.size)) ?_ (fun _=>⟨_,_,_,rfl,heap_alloc_new w _,⟨rfl,rfl,by simp⟩,by simp,by simp⟩) (.mp (gset_same ..))
 simp [execOp,ho,Instr.makeMap]
theorem l_makeSlice (hT:TOk P T) {t:Nat} {l c:Operand} {lz cz:Int} {k k':IntKind} (ho:o.op = .makeSlice t l c) (hl:ev l=some (.tr (.v (.int k lz)))) (hc:ev c=some (.tr (.v (.int k' cz)))) (h:amakeSlice T nh t lz cz K):LOk P o m nh ev K:=by
 unfold amakeSlice at h
 split at h
 case h_2=>exact h.elim
 rename_i e s1 s2 s3 s4 e1
 split at h
 case h_2=>exact h.elim
 rename_i te e2
 cases hb:(Nat.ble 1 te.size && Nat.ble 1 te.bytes) with
 | false=>rw [hb] at h; exact h.elim
 | true =>
 rw [hb,cond_true] at h
 simp only [Bool.and_eq_true] at hb
 have hs1:=Nat.le_of_ble_eq_true hb.1
 have hb1:=Nat.le_of_ble_eq_true hb.2
 obtain ⟨h0,h1,h2,hK⟩:=h
 refine ⟨_,_,_,hK,by simp,by simp,fun g w m' ρ hm hn hrd hev => ?_⟩
 obtain ⟨u,u1,u2,_⟩:=run_und hT e1 w
 obtain rfl:=D_slice u2
 obtain ⟨ti',u',z',i1,_,_,i4,i5,i6,i7,i8⟩:=hT.info e2
 have hz:=(zcells_cells i7).1
 have hzs:z'.cells.size=te.size:=by rw [hz]; simpa using i8
 have hcb:cz≤140737488351232:=by
  have:cz*1≤cz*te.bytes:=Int.mul_le_mul_of_nonneg_left (by omega) (by omega)
  omega
 obtain ⟨hlv,_⟩:=val_inv (hev _ _ hl)
 obtain ⟨hcv,_⟩:=val_inv (hev _ _ hc)
 have w1:IntKind.i64.wrap lz=lz:=by
  simp only [IntKind.wrap,IntKind.signed,IntKind.bits,Bool.true_and,Nat.reduceSub,Int.reducePow]
  split
  ·rename_i h; have:=of_decide_eq_true h; omega
  ·rename_i h; have : ¬ _:=fun e=>h (decide_eq_true e); omega
 have w2:IntKind.i64.wrap cz=cz:=by
  simp only [IntKind.wrap,IntKind.signed,IntKind.bits,Bool.true_and,Nat.reduceSub,Int.reducePow]
  split
  ·rename_i h; have:=of_decide_eq_true h; omega
  ·rename_i h; have : ¬ _:=fun e=>h (decide_eq_true e); omega
 obtain ⟨cn,rfl⟩:=Int.eq_ofNat_of_zero_le (show 0≤cz by omega)
 obtain ⟨ln,rfl⟩:=Int.eq_ofNat_of_zero_le h0
 have hlc:ln≤cn:=by omega
 have hmul:cn*te.bytes≤140737488351232:=by
  have:((cn*te.bytes:Nat):Int)≤140737488351232:=by rw [Int.natCast_mul]; exact h2
  omega
 have hsm : ∀ n:Nat,n≤cn → ¬ ((ti'.bytes:Int)*(n:Int) > 281474976710656):=fun n hn=>by
  have e3:(ti'.bytes:Int)*(n:Int)=((n*te.bytes:Nat):Int):=by rw [i5,Int.natCast_mul,Int.mul_comm]
  have:n*te.bytes≤cn*te.bytes:=Nat.mul_le_mul_right _ hn
  rw [e3]; omega
 generalize hcl:(Array.range (cn*te.size)).map (z'.cells[· % z'.cells.size]!)=cl
 have hclsz:cl.size=cn*te.size:=by rw [← hcl]; simp
 have hloc : ∀ b,Loc.b (.row w.heap.size cn)=some b→b=w.heap.size:=fun b e=>by cases e; rfl
 have hg:=grow_alloc (w:=w) hm.xlt hn (.cells cl e) hloc
 refine LRes.new hm hn (.cells cl e) (.row w.heap.size cn) hloc _ (.slice (some ⟨w.heap.size,0,none⟩) ln cn) ?_ (fun _=>⟨?_,by omega,.inr ⟨_,cn,cl,rfl,heap_alloc_new w _,by simpa using hlc,by omega,hclsz,fun row hr => ?_,fun i t hi => ?_⟩⟩) (.sl (gset_same ..) hlc)
 ·have hrun:(Instr.makeSlice t (.int k (ln:Int)) (.int k' (cn:Int))).run P w = .ok (.slice (some ⟨w.heap.size,0,none⟩) ln cn) (w.alloc (.cells cl e)):=by
   have q1:=hsm cn (Nat.le_refl _)
   have q2 : ¬ (ln:Int) > cn:=by omega
   have q3 : ¬ (cn:Int)<0:=by omega
   have q4 : ¬ (ln:Int)<0:=by omega
   by_cases hz0:cn*te.size=0
   ·have hcl0:cl = #[]:=by rw [← hcl,hz0]; simp
    subst hcl0
    simp only [Instr.makeSlice,Sem.run_bind,u1,Result.andThen_ok,asInt,asIntOf,Sem.run_pure,typeInfo,run_program,i1]
    simp [w1,w2,q1,q2,q3,q4,sizeOf,typeInfo,i1,i4,hz0,newRow]
    rw [show (Array.map (fun _=>(default:Value)) (Array.range 0)) = #[] by simp]
   ·simp only [Instr.makeSlice,Sem.run_bind,u1,Result.andThen_ok,asInt,asIntOf,Sem.run_pure,typeInfo,run_program,i1]
    simp [w1,w2,q1,q2,q3,q4,sizeOf,typeInfo,i1,i4,hz0,zeroValue,i6,newRow,hcl]
  simp only [execOp,ho,Sem.run_bind,hlv,hcv]
  show ((Instr.makeSlice t (.int k (ln:Int)) (.int k' (cn:Int))).run P w).andThen _=_
  rw [hrun]
  rfl
 ·simp only [List.length_replicate,Int.toNat_natCast]
  have:ln*te.bytes≤cn*te.bytes:=Nat.mul_le_mul_right _ hlc
  omega
 ·rw [List.eq_of_mem_replicate hr]; simpa [ztrs] using i8
 ·have hfl : ∀ (n:Nat) (r:List Tr) (i:Nat),(List.replicate n r).flatten[i]? = if i<n*r.length then r[i % r.length]? else none:=by
   intro n r
   induction n with
   | zero=>intro i; simp
   | succ n ih =>
    intro i
    rw [List.replicate_succ,List.flatten_cons]
    by_cases h1:i<r.length
    ·rw [List.getElem?_append_left h1,if_pos (by rw [Nat.succ_mul]; omega),Nat.mod_eq_of_lt h1]
    ·rw [List.getElem?_append_right (by omega),ih]
     by_cases h2:i<(n+1)*r.length
     ·rw [if_pos (by rw [Nat.succ_mul] at h2; omega),if_pos h2,← Nat.mod_eq_sub_mod (by omega)]
     ·rw [if_neg (by rw [Nat.succ_mul] at h2; omega),if_neg h2]
  have hlen:(ztrs te.zero).length=te.size:=by simpa [ztrs] using i8
  rw [hfl,hlen] at hi
  split at hi
  case isFalse=>cases hi
  rename_i hilt
  simp only [Int.toNat_natCast] at hilt
  have hic:i<cn*te.size:=Nat.lt_of_lt_of_le hilt (Nat.mul_le_mul_right _ hlc)
  simp only [ztrs,List.getElem?_map,Option.map_eq_some_iff] at hi
  obtain ⟨z,z1,rfl⟩:=hi
  refine ⟨z.val,?_,.v (good_zero z)⟩
  rw [← hcl]
  have hmod:i % te.size<te.zero.length:=by rw [i8]; exact Nat.mod_lt _ (by omega)
  simp only [Array.getElem?_map,Array.getElem?_range,if_pos hic,Option.map_some,hzs]
  rw [hz]
  have z2:te.zero[i % te.size]'hmod=z:=by simpa [hmod] using z1
  congr 1
  rw [getElem!_pos _ _ (by simpa using hmod)]
  simp [z2]
theorem D_map {u:TypeDesc} {k e:Nat} (h:D.of u = .map k e):u = .map k e:=by
 cases u <;> first | (cases h; done) | (cases h; rfl)
theorem MK.of_val {v:Value} {q:MK} (h:MK.of v=some q):v=q.val:=by
 unfold MK.of at h
 split at h <;> first | (cases h; rfl) | cases h
theorem fits_und {u:TypeDesc} {kd:D} (h:D.of u=kd) {q:MK} (hf:q.fits kd=true):(∃ a,q = .ks a∧u = .string)∨(∃ k n,q = .ki k n∧u = .int k) ∨ ∃ x,q = .kb x∧u = .bool:=by
 subst h
 cases q with
 | ks a=>cases u <;> first | exact .inl ⟨a,rfl,rfl⟩ | cases hf
 | ki k n=>cases u <;> first | (simp only [D.of,MK.fits,decide_eq_true_eq] at hf; subst hf; exact .inr (.inl ⟨_,n,rfl,rfl⟩)) | cases hf
 | kb x=>cases u <;> first | exact .inr (.inr ⟨x,rfl,rfl⟩) | cases hf
theorem run_checkKey {kt:Nat} {u:TypeDesc} (hu:P.underlying kt=some u) {q:MK} (hf:q.fits (D.of u)=true) (e:Bool) (w:World):(Instr.checkKey e 10000 kt q.val).run P w = .ok () w:=by
 show (Instr.checkKey e (9999+1) kt q.val).run P w = .ok () w
 generalize 9999=n
 rcases fits_und rfl hf with ⟨a,rfl,rfl⟩ | ⟨k,n,rfl,rfl⟩ | ⟨x,rfl,rfl⟩ <;> simp [Instr.checkKey,run_underlying hu,MK.val]
theorem sameNow_ok {u:TypeDesc} {q k:MK} (hq:q.fits (D.of u)=true) (hk:k.fits (D.of u)=true):Instr.sameNow u q.val k.val=some (q.same k):=by
 rcases fits_und rfl hq with ⟨a,rfl,rfl⟩ | ⟨k1,n,rfl,rfl⟩ | ⟨x,rfl,rfl⟩
 ·rcases fits_und rfl hk with ⟨a',rfl,_⟩ | ⟨k2,n',rfl,h⟩ | ⟨x',rfl,h⟩
  ·simp [Instr.sameNow,MK.val,MK.same,beq_toListBytes]
  ·cases h
  ·cases h
 ·rcases fits_und rfl hk with ⟨a',rfl,h⟩ | ⟨k2,n',rfl,h⟩ | ⟨x',rfl,h⟩
  ·cases h
  ·cases h; simp [Instr.sameNow,MK.val,MK.same]
  ·cases h
 ·rcases fits_und rfl hk with ⟨a',rfl,h⟩ | ⟨k2,n',rfl,h⟩ | ⟨x',rfl,h⟩
  ·cases h
  ·cases h
  ·simp [Instr.sameNow,MK.val,MK.same]
def mfind:List (MK × Tr)→MK→Nat→Option Nat
 | [],_,_=>none
 | (k,_)::r,q,i=>bif MK.same q k then some i else mfind r q (i+1)
theorem findNow_ok {ok:Nat→Prop} {w:World} {u:TypeDesc} {q:MK} (hq:q.fits (D.of u)=true) : ∀ (es:List (MK × Tr)) (ents:List MapEntry) (i:Nat),ents.length=es.length→(∀ p ∈ es,p.1.fits (D.of u)=true) →
  (∀ (j:Nat) (k:MK) (t:Tr),es[j]? = some (k,t) → ∃ en,ents[j]? = some en∧en.key=k.val∧RepT ok w en.val t) →
  ∃ r,Instr.findNow u q.val ents i=some r∧((r=none∧mget es q=none∧mfind es q i=none) ∨ ∃ j v t,r=some (j,v)∧mfind es q i=some j∧mget es q=some t∧RepT ok w v t)
 | [],[],i,_,_,_=>⟨none,rfl,.inl ⟨rfl,rfl,rfl⟩⟩
 | [],_::_,_,h,_,_=>by simp at h
 | _::_,[],_,h,_,_=>by simp at h
 | (k,t)::es,en::ents,i,hl,hf,he=>by
  obtain ⟨en',h1,h2,h3⟩:=he 0 k t rfl
  simp at h1
  subst h1
  unfold Instr.findNow mget mfind
  rw [h2,sameNow_ok hq (hf (k,t) (by simp))]
  cases hs:q.same k with
  | true=>exact ⟨_,rfl,.inr ⟨i,en.val,t,rfl,rfl,rfl,h3⟩⟩
  | false =>
   simp only [cond_false]
   exact findNow_ok hq es ents (i+1) (by simpa using hl) (fun p hp=>hf p (by simp [hp])) (fun j k' t' hj=>by simpa using he (j+1) k' t' (by simpa using hj))
theorem l_lookup (hT:TOk P T) {ty:Nat} {x i:Operand} {ok:Bool} {a:AV} {kv:Value} (ho:o.op = .lookup ty x i ok) (hx:ev x=some a) (hi:ev i=some (.tr (.v kv))) (h:alookup T m ty kv ok K a):LOk P o m nh ev K:=by
 unfold alookup at h
 split at h
 case h_2=>exact h.elim
 rename_i hd
 split at h
 case h_2=>exact h.elim
 rename_i k e s1 s2 s3 s4 kd es q e1 em eq
 split at h
 case h_2=>exact h.elim
 rename_i kd' d s6 s7 z s8 e2 e3
 cases hb:(decide (kd=kd') && q.fits kd && !d.agg) with
 | false=>rw [hb] at h; exact h.elim
 | true =>
 rw [hb,cond_true] at h
 simp only [Bool.and_eq_true,decide_eq_true_eq,Bool.not_eq_true'] at hb
 obtain ⟨⟨rfl,hf⟩,hda⟩:=hb
 have main : ∀ (g:Gh) (w:World) (m':Mem) (ρ:Operand→Value),MSt g w m'→(∀ p ∈ [(hd,Blk.map kd es)],m' p.1=some p.2)→(∀ x b,ev x=some b→Rep g w (ρ x) b) →
   ∃ v,(Instr.lookup ty (ρ x) (ρ i) ok).run P w = .ok (if ok then .tuple #[v,.bool (mget es q).isSome] else v) w∧RepT (okB g w) w v ((mget es q).getD (.v z.val)):=by
  intro g w m' ρ hm hrd hev
  obtain ⟨lc,g1,b,ents,clock,rfl,b1,b2,b3,b4⟩:=hm.blk hd _ (hrd (hd,.map kd es) (by simp))
  have hv:ρ x = .map (some b):=by
   have hr:=hev _ _ hx
   generalize ρ x=v at hr
   cases hr with
   | mpD e=>rw [g1] at e; cases e
   | mp e=>rw [g1] at e; cases e; rfl
  have hk:ρ i=q.val:=(val_inv (hev _ _ hi)).1.trans (MK.of_val eq)
  obtain ⟨u,u1,u2,u3⟩:=run_und hT e1 w
  obtain rfl:=D_map u2
  obtain ⟨uk,k1,k2⟩:=dOf_und hT e2
  subst k2
  have hck:=run_checkKey k1 hf ents.isEmpty w
  obtain ⟨r,r1,r2⟩:=findNow_ok (ok:=okB g w) (w:=w) hf es ents.toList 0 (by simpa using b2.1) b3 (fun j k t hj=>by simpa using b4 j k t hj)
  obtain ⟨zv,z1,z2,_,z4⟩:=run_zero hT e3 w
  have hzv:zv=z.val:=by
   have hc:zv.cells = #[z.val]:=by simpa using z2
   obtain ⟨ti',u',zt,q1,q2,q3,q4,q5,q6,q7,q8⟩:=hT.info e3
   have hzz:zt=zv:=by
    have:(zeroValue e).run P w = .ok zt w:=by simp [zeroValue,typeInfo,q1,q6]
    rw [z1] at this; cases this; rfl
   subst hzz
   unfold zcells at q7
   split at q7
   ·
    rename_i hag
    rw [hda] at hag; cases hag
   ·split at q7
    ·cases q7
    ·simp only [Option.map_eq_some_iff] at q7
     obtain ⟨z',h1,h2⟩:=q7
     cases h2
     exact Z.of_val h1
  have hgo:(getObj b).run P w = .ok (.map ents clock) w:=by simp [getObj,Sem.run,b1]
  have hfk:(Instr.findKey k q.val ents.toList).run P w = .ok r w:=by
   simp [Instr.findKey,run_underlying k1,r1]
  rcases r2 with ⟨rfl,m1,_⟩ | ⟨j,v,t,rfl,_,m1,m2⟩
  ·refine ⟨z.val,?_,by rw [m1]; exact .v (good_zero z)⟩
   rw [m1,hv,hk]
   cases ok <;> simp [Instr.lookup,u1,hgo,hck,hfk,z1,hzv]
  ·refine ⟨v,?_,by rw [m1]; exact m2⟩
   rw [m1,hv,hk]
   cases ok <;> simp [Instr.lookup,u1,hgo,hck,hfk]
 cases hok:ok with
 | true =>
  rw [hok,cond_true] at h
  refine LOk.pure _ _ h (by simpa using em) fun g w m' ρ hm hrd hev => ?_
  obtain ⟨v,v1,v2⟩:=main g w m' ρ hm hrd hev
  rw [hok,if_pos rfl] at v1
  refine ⟨_,by simp only [execOp,ho,hok,Sem.run_bind,v1,Result.andThen_ok]; rfl,.tup rfl fun j c b c1 c2 => ?_⟩
  match j with
  | 0=>simp at c1 c2; subst c1; subst c2; exact .tr v2
  | 1=>simp at c1 c2; subst c1; subst c2; exact .tr (.v trivial)
  | j+2=>simp at c2
 | false =>
  rw [hok,cond_false] at h
  refine LOk.pure _ _ h (by simpa using em) fun g w m' ρ hm hrd hev => ?_
  obtain ⟨v,v1,v2⟩:=main g w m' ρ hm hrd hev
  rw [hok,if_neg (by simp)] at v1
  exact ⟨_,by simp only [execOp,ho,hok,Sem.run_bind,v1,Result.andThen_ok]; rfl,.tr v2⟩
theorem mput_none : ∀ {es:List (MK × Tr)} {q:MK} {x:Tr} {i:Nat},mfind es q i=none→mput es q x=es++[(q,x)]:=by
 intro es
 induction es with
 | nil=>intro q x i _; rfl
 | cons p r ih =>
  obtain ⟨k,v⟩:=p
  intro q x i h
  unfold mfind at h
  unfold mput
  cases hs:q.same k with
  | true=>rw [hs] at h; cases h
  | false=>rw [hs] at h; rw [cond_false,ih h]; rfl
theorem mput_some : ∀ {es:List (MK × Tr)} {q:MK} {x:Tr} {i j:Nat},mfind es q i=some j → ∃ d k t,j=i+d∧es[d]? = some (k,t)∧q.same k=true∧mput es q x=es.set d (q,x):=by
 intro es
 induction es with
 | nil=>intro q x i j h; cases h
 | cons p r ih =>
  obtain ⟨k,v⟩:=p
  intro q x i j h
  unfold mfind at h
  unfold mput
  cases hs:q.same k with
  | true=>rw [hs] at h; cases h; exact ⟨0,k,v,rfl,rfl,hs,rfl⟩
  | false =>
   rw [hs] at h
   obtain ⟨d,k',t',h1,h2,h3,h4⟩:=ih h (x:=x)
   exact ⟨d+1,k',t',by omega,h2,h3,by rw [cond_false,h4]; rfl⟩
theorem same_val {q k:MK} {u:TypeDesc} (hq:q.fits (D.of u)=true) (hk:k.fits (D.of u)=true) (h:q.same k=true):k.val=q.val:=by
 rcases fits_und rfl hq with ⟨a,rfl,rfl⟩ | ⟨k1,n,rfl,rfl⟩ | ⟨x,rfl,rfl⟩
 ·rcases fits_und rfl hk with ⟨a',rfl,_⟩ | ⟨k2,n',rfl,h'⟩ | ⟨x',rfl,h'⟩
  ·have h:(a.toList == a'.toList)=true:=h
   have:a.data.toList=a'.data.toList:=by
    rw [ByteArray.toList_eq,ByteArray.toList_eq] at h
    exact eq_of_beq h
   obtain ⟨⟨x⟩⟩:=a
   obtain ⟨⟨y⟩⟩:=a'
   simp only at this
   subst this
   rfl
  ·cases h'
  ·cases h'
 ·rcases fits_und rfl hk with ⟨a',rfl,h'⟩ | ⟨k2,n',rfl,h'⟩ | ⟨x',rfl,h'⟩
  ·cases h'
  ·cases h'; have h:(n == n')=true:=h; rw [eq_of_beq h]
  ·cases h'
 ·rcases fits_und rfl hk with ⟨a',rfl,h'⟩ | ⟨k2,n',rfl,h'⟩ | ⟨x',rfl,h'⟩
  ·cases h'
  ·cases h'
  ·have h:(x == x')=true:=h; rw [eq_of_beq h]
theorem sameBits_self (q:MK) (n:Nat):Instr.sameBits n q.val q.val=true:=by
 cases q with
 | ks a =>
  have:(a == a)=true:=by rw [beq_toListBytes]; simp
  cases n <;> simp [Instr.sameBits,MK.val,this]
 | ki k z=>cases n <;> simp [Instr.sameBits,MK.val]
 | kb x=>cases n <;> simp [Instr.sameBits,MK.val]
theorem l_mapUpdate (hT:TOk P T) {ty:Nat} {x i y:Operand} {a b:AV} {kv:Value} (ho:o.op = .mapUpdate ty x i y∨o.op = .insert ty x i y) (hx:ev x=some a) (hi:ev i=some (.tr (.v kv))) (hy:ev y=some b) (h:amapUpdate T m ty kv b K a):LOk P o m nh ev K:=by
 unfold amapUpdate at h
 split at h
 case h_2=>exact h.elim
 rename_i hd
 split at h
 case h_2=>exact h.elim
 rename_i k e s1 s2 s3 s4 kd es q t e1 em eq
 split at h
 case h_2=>exact h.elim
 rename_i kd' e2
 cases hb:(decide (kd=kd') && q.fits kd) with
 | false=>rw [hb] at h; exact h.elim
 | true =>
 rw [hb,cond_true] at h
 simp only [Bool.and_eq_true,decide_eq_true_eq] at hb
 obtain ⟨rfl,hf⟩:=hb
 refine ⟨_,_,_,h,by simpa using em,fun p hp => .inr ⟨(hd,.map kd es),by simp,by simp at hp; rw [hp]⟩,fun g w m' ρ hm hn hrd hev => ?_⟩
 obtain ⟨lc,g1,b,ents,clock,rfl,b1,b2,b3,b4⟩:=hm.blk hd _ (hrd (hd,.map kd es) (by simp))
 have hv:ρ x = .map (some b):=by
  have hr:=hev _ _ hx
  generalize ρ x=v at hr
  cases hr with
  | mpD e=>rw [g1] at e; cases e
  | mp e=>rw [g1] at e; cases e; rfl
 have hk:ρ i=q.val:=(val_inv (hev _ _ hi)).1.trans (MK.of_val eq)
 have hval:=(hev _ _ hy).tr_inv
 obtain ⟨u,u1,u2,u3⟩:=run_und hT e1 w
 obtain rfl:=D_map u2
 obtain ⟨uk,k1,k2⟩:=dOf_und hT e2
 subst k2
 have hck:=run_checkKey k1 hf false w
 obtain ⟨r,r1,r2⟩:=findNow_ok (ok:=okB g w) (w:=w) hf es ents.toList 0 (by simpa using b2.1) b3 (fun j k t hj=>by simpa using b4 j k t hj)
 have hgo:(getObj b).run P w = .ok (.map ents clock) w:=by simp [getObj,Sem.run,b1]
 have hfk:(Instr.findKey k q.val ents.toList).run P w = .ok r w:=by
  simp [Instr.findKey,run_underlying k1,r1]
 have hset : ∀ ob,(setObj b ob).run P w = .ok () { w with heap:=w.heap.setIfInBounds b ob }:=fun ob=>by simp [setObj,Sem.run,b1]
 have hlt:b<w.heap.size:=(Array.getElem?_eq_some_iff.1 b1).1
 have fin : ∀ (ents':Array MapEntry) (clock':Nat),(execOp ρ o).run P w = .ok .skip { w with heap:=w.heap.setIfInBounds b (.map ents' clock') }→(ents'.size=(mput es q t).length∧clock'=ents'.size ∧ ∀ (i:Nat) (en:MapEntry),ents'[i]? = some en→en.born=i) →
   (∀ (j:Nat) (k:MK) (tt:Tr),(mput es q t)[j]? = some (k,tt) → ∃ en,ents'[j]? = some en∧en.key=k.val∧RepT (okB g w) w en.val tt)→(∀ p ∈ mput es q t,p.1.fits (D.of uk)=true)→LRes P (execOp ρ o) g w m' nh [(hd,some (.map (D.of uk) (mput es q t)))] .und:=by
  intro ents' clock' hrun hsz hen hfits
  have hko : ∀ j,j≠b→(w.heap.setIfInBounds b (.map ents' clock'))[j]? = w.heap[j]? := fun j hj=>by
   rw [Array.getElem?_setIfInBounds_ne (Ne.symm hj)]
  have hg:=grow_write (g:=g) (h:=hd) (b:=b) (w:=w) (w' := { w with heap:=w.heap.setIfInBounds b (.map ents' clock') }) (hm.xl hd b (.root g1 rfl)) (.root g1 rfl) rfl rfl rfl (by simp) hko
  refine ⟨g,_,.inr ⟨hrun,rfl⟩,mst_write hm g1 (.inl rfl) hg (by simp) hko ⟨b,ents',clock',rfl,?_,hsz,hfits,fun j k tt hj => ?_⟩,hg,fun _ _ h=>h⟩
  ·show (w.heap.setIfInBounds b _)[b]? = _
   simp [hlt]
  ·obtain ⟨en,c1,c2,c3⟩:=hen j k tt hj
   exact ⟨en,c1,c2,c3.grow hg⟩
 rcases r2 with ⟨rfl,_,m1⟩ | ⟨j,v,t',rfl,m1,_,_⟩
 ·have hmp:=mput_none (x:=t) m1
  refine fin (ents.push { key:=q.val,val:=ρ y,born:=clock }) (clock+1) ?_ ⟨by rw [hmp]; simp [b2.1],by rw [b2.2.1]; simp,fun i en hi => ?_⟩ (fun j kk tt hj => ?_) fun p hp => ?_
  ·rcases ho with ho | ho <;> simp [execOp,ho,hv,hk,Instr.mapUpdate,u1,hgo,hck,hfk,hset]
  ·rw [Array.getElem?_push] at hi
   split at hi
   ·rename_i e; cases hi; rw [e]; exact b2.2.1
   ·exact b2.2.2 i en hi
  ·rw [hmp] at hj
   by_cases hjl:j<es.length
   ·rw [List.getElem?_append_left hjl] at hj
    obtain ⟨en,c1,c2,c3⟩:=b4 j kk tt hj
    exact ⟨en,by rw [Array.getElem?_push,if_neg (by have:=b2.1; omega)]; exact c1,c2,c3⟩
   ·rw [List.getElem?_append_right (by omega)] at hj
    have hj0:j - es.length=0:=by
     have:=(List.getElem?_eq_some_iff.1 hj).1
     simp at this; omega
    rw [hj0] at hj
    simp at hj
    obtain ⟨rfl,rfl⟩:=hj
    exact ⟨_,by rw [Array.getElem?_push,if_pos (by have:=b2.1; omega)],rfl,hval⟩
  ·rw [hmp] at hp
   simp only [List.mem_append,List.mem_singleton] at hp
   rcases hp with hp | rfl
   ·exact b3 p hp
   ·exact hf
 ·obtain ⟨d,k0,t0,d1,d2,d3,hmp⟩:=mput_some (x:=t) m1
  have d1:j=d:=by omega
  subst d1
  obtain ⟨en0,c1,c2,c3⟩:=b4 j k0 t0 d2
  have hkk:k0.val=q.val:=same_val hf (b3 (k0,t0) (List.mem_of_getElem? d2)) d3
  have hkey:((ents[j]?).map (·.key)).getD q.val=q.val:=by rw [c1]; simp [c2,hkk]
  refine fin (ents.modify j fun e => { e with key:=q.val,val:=ρ y }) clock ?_ ⟨by rw [hmp]; simp [b2.1],by rw [b2.2.1]; simp,fun i en hi => ?_⟩ (fun i' kk tt hj => ?_) fun p hp => ?_
  ·have hst:(Instr.keyThatStays q.val q.val).run P w = .ok q.val w:=by
    unfold Instr.keyThatStays
    rw [if_pos (sameBits_self q _)]
    rfl
   rcases ho with ho | ho <;> simp only [execOp,ho,hv,hk,Instr.mapUpdate,Sem.run_bind,u1,Result.andThen_ok,hgo,hck,hfk,hkey,hst,hset,Sem.run_pure]
  ·rw [Array.getElem?_modify] at hi
   split at hi
   ·rw [Option.map_eq_some_iff] at hi
    obtain ⟨e0,q1,rfl⟩:=hi
    exact b2.2.2 i e0 q1
   ·exact b2.2.2 i en hi
  ·rw [hmp,List.getElem?_set] at hj
   rw [Array.getElem?_modify]
   split at hj
   ·rename_i hji
    subst hji
    split at hj
    ·simp at hj
     obtain ⟨rfl,rfl⟩:=hj
     rw [if_pos rfl,c1]
     exact ⟨_,rfl,rfl,hval⟩
    ·cases hj
   ·rename_i hji
    rw [if_neg hji]
    exact b4 i' kk tt hj
  ·rw [hmp] at hp
   rcases List.mem_or_eq_of_mem_set hp with hp | rfl
   ·exact b3 p hp
   ·exact hf
theorem seqS_ok (hT:TOk P T) {g:Gh} {w:World} {xs ys:Array Value} (d:Nat) : ∀ (F:List Field) (i:Nat) (l l':List AV) (b:Bool),seqS T (F.map fun f=>(f.type,f.offset)) i l l'=some b→(∀ f ∈ F,f.name ≠ "_") →
  (∀ (j:Nat) (a:AV),l[j]? = some a → ∃ c,xs[i+j]? = some c∧Rep g w c a)→(∀ (j:Nat) (a:AV),l'[j]? = some a → ∃ c,ys[i+j]? = some c∧Rep g w c a)→(Op.eqFields (d+1) xs ys F).run P w = .ok b w:=by
 intro F
 induction F with
 | nil =>
  intro i l l' b h _ _ _
  cases l with
  | nil=>cases l' with
   | nil=>cases h; rfl
   | cons=>cases h
  | cons=>cases l' <;> cases h
 | cons f F ih =>
  intro i l l' b h hn hl hl'
  cases l with
  | nil=>cases h
  | cons a l =>
  cases l' with
  | nil=>cases a <;> first | cases h | (rename_i t; cases t <;> cases h)
  | cons a' l' =>
  cases a with
  | tr t =>
   cases t with
   | v x =>
    cases a' with
    | tr t' =>
     cases t' with
     | v y =>
      simp only [List.map_cons] at h
      unfold seqS at h
      cases hb:Nat.beq f.offset i with
      | false=>rw [hb] at h; cases h
      | true =>
      rw [hb,cond_true] at h
      have hoff:=Nat.eq_of_beq_eq_true hb
      obtain ⟨cx,c1,c2⟩:=hl 0 _ rfl
      obtain ⟨cy,d1,d2⟩:=hl' 0 _ rfl
      rw [(val_inv c2).1] at c1
      rw [(val_inv d2).1] at d1
      have ih' : ∀ r,seqS T (F.map fun f=>(f.type,f.offset)) (i+1) l l'=some r→(Op.eqFields (d+1) xs ys F).run P w = .ok r w:=fun r hr =>
       ih (i+1) l l' r hr (fun f hf=>hn f (by simp [hf])) (fun j a hj=>by rw [show i+1+j=i+(j+1) by omega]; exact hl (j+1) a (by simpa using hj)) (fun j a hj=>by rw [show i+1+j=i+(j+1) by omega]; exact hl' (j+1) a (by simpa using hj))
      have step : ∀ (u:TypeDesc) (e:Bool),P.underlying f.type=some u→(∀ fs,u ≠ .struct fs)→(∀ n e,u ≠ .array n e)→(Op.equalIn (d+1) f.type x y).run P w = .ok e w → ∀ r,seqS T (F.map fun f=>(f.type,f.offset)) (i+1) l l'=some r→(Op.eqFields (d+1) xs ys (f::F)).run P w = .ok (e && r) w:=by
       intro u e hu hns hna he r hr
       have hpart : ∀ (zs:Array Value) (z:Value),zs[i]? = some z→(part f.type zs f.offset).run P w = .ok z w:=fun zs z hz=>by
        have hag:(isAgg f.type).run P w = .ok false w:=by
         unfold isAgg
         rw [Sem.run_bind,run_underlying hu w]
         cases u <;> first | rfl | exact absurd rfl (hns _) | exact absurd rfl (hna _ _)
        unfold part
        simp only [Sem.run_bind,hag,Result.andThen_ok,Bool.false_eq_true,if_false,hoff,hz,Sem.run_pure]
       unfold Op.eqFields
       rw [if_pos (hn f (by simp))]
       simp only [Sem.run_bind,hpart xs x (by simpa using c1),hpart ys y (by simpa using d1),Result.andThen_ok,he]
       cases e with
       | true=>simp [ih' r hr]
       | false=>simp
      split at h
      ·rename_i q k n k' n' hd
       by_cases hk:k=k'
       ·subst hk
        rw [if_pos rfl] at h
        split at h
        ·rename_i r hr
         cases h
         obtain ⟨u,u1,u2⟩:=dOf_und hT hd
         obtain rfl:=D_int u2
         exact step _ _ u1 (fun _=>by simp) (fun _ _=>by simp) (run_equalIn_int w d _ _ _ _ _ u1) r hr
        ·cases h
       ·rw [if_neg hk] at h; cases h
      ·rename_i a1 a2 hd
       split at h
       ·rename_i r hr
        cases h
        obtain ⟨u,u1,u2⟩:=dOf_und hT hd
        obtain rfl:=D_string u2
        exact step _ _ u1 (fun _=>by simp) (fun _ _=>by simp) (run_equalIn_string w d _ _ _ u1) r hr
       ·cases h
      ·rename_i a1 a2 hd
       split at h
       ·rename_i r hr
        cases h
        obtain ⟨u,u1,u2⟩:=dOf_und hT hd
        obtain rfl:=D_bool u2
        exact step _ _ u1 (fun _=>by simp) (fun _ _=>by simp) (run_equalIn_bool' w d _ _ _ u1) r hr
       ·cases h
      ·cases h
     | lst=>cases h
    | _=>cases h
   | lst=>cases a' <;> cases h
  | _=>cases h
theorem eq_info (hT:TOk P T) {t k bb:Nat} {fs:List (Nat × Nat)} {z:List Z} (e1:lk T t=some ⟨.struct fs,k,bb,z,true⟩) : ∃ fds:Array Field,P.underlying t=some (.struct fds)∧fs=fds.toList.map (fun f=>(f.type,f.offset))∧P.fieldsOf t=fds ∧
  P.stoodInHeld t=false∧P.eqGuardType P.depth t=false ∧ ∀ f ∈ fds.toList,f.name ≠ "_" := by
 obtain ⟨ti,u,z,q1,q2,q3,_⟩:=hT.info e1
 have hq:eqOf P t u=true:=by
  have:=(hT t _ e1).1
  unfold tyOf at this
  rw [q1,q2] at this
  simp only at this
  split at this
  case h_2=>cases this
  split at this
  case h_2=>cases this
  split at this
  ·simp only [Option.some.injEq,TyI.mk.injEq] at this
   exact this.2.2.2.2
  ·cases this
 obtain ⟨fds,rfl,rfl⟩:=D_struct q3
 unfold eqOf at hq
 simp only [Bool.and_eq_true,Bool.not_eq_true'] at hq
 obtain ⟨⟨hs,hgd⟩,hnm⟩:=hq
 exact ⟨fds,q2,rfl,by simp [Program.fieldsOf,q2],hs,hgd,fun f hf=>by
  have:=Array.all_eq_true'.1 hnm f (by simpa using hf)
  simpa using this⟩
theorem seq1_ok (hT:TOk P T) {g:Gh} {w:World} (d t:Nat) {a b:AV} {r:Bool} (h:seq1 (dOf T t) a b=some r) {x y:Value} (hx:Rep g w x a) (hy:Rep g w y b) :
  (isAgg t).run P w = .ok false w∧(Op.equalIn (d+1) t x y).run P w = .ok r w:=by
 have agg : ∀ {u:TypeDesc},P.underlying t=some u→(∀ fs,u ≠ .struct fs)→(∀ n e,u ≠ .array n e)→(isAgg t).run P w = .ok false w:=fun {u} hu hns hna=>by
  unfold isAgg
  rw [Sem.run_bind,run_underlying hu w]
  cases u <;> first | rfl | exact absurd rfl (hns _) | exact absurd rfl (hna _ _)
 unfold seq1 at h
 split at h
 case h_2=>cases h
 rename_i a b
 rw [(val_inv hx).1,(val_inv hy).1]
 split at h
 ·rename_i q k n k' n' hd
  by_cases hk:k=k'
  ·subst hk
   rw [if_pos rfl] at h
   cases h
   obtain ⟨u,u1,u2⟩:=dOf_und hT hd
   obtain rfl:=D_int u2
   exact ⟨agg u1 (fun _=>by simp) (fun _ _=>by simp),run_equalIn_int w d _ _ _ _ _ u1⟩
  ·rw [if_neg hk] at h; cases h
 ·rename_i a1 a2 hd
  cases h
  obtain ⟨u,u1,u2⟩:=dOf_und hT hd
  obtain rfl:=D_string u2
  exact ⟨agg u1 (fun _=>by simp) (fun _ _=>by simp),run_equalIn_string w d _ _ _ u1⟩
 ·rename_i a1 a2 hd
  cases h
  obtain ⟨u,u1,u2⟩:=dOf_und hT hd
  obtain rfl:=D_bool u2
  exact ⟨agg u1 (fun _=>by simp) (fun _ _=>by simp),run_equalIn_bool' w d _ _ _ u1⟩
 ·cases h
theorem seqN_ok (hT:TOk P T) {g:Gh} {w:World} {xs ys:Array Value} (d:Nat) : ∀ (F:List Field) (i:Nat) (l l':List AV) (b:Bool),seqN T (F.map fun f=>(f.type,f.offset)) i l l'=some b→(∀ f ∈ F,f.name ≠ "_") →
  (∀ (j:Nat) (a:AV),l[j]? = some a → ∃ c,xs[i+j]? = some c∧Rep g w c a)→(∀ (j:Nat) (a:AV),l'[j]? = some a → ∃ c,ys[i+j]? = some c∧Rep g w c a)→(Op.eqFields (d+2) xs ys F).run P w = .ok b w:=by
 intro F
 induction F with
 | nil =>
  intro i l l' b h _ _ _
  cases l with
  | nil=>cases l' with
   | nil=>cases h; rfl
   | cons=>cases h
  | cons=>cases l' <;> cases h
 | cons f F ih =>
  intro i l l' b h hn hl hl'
  rw [List.map_cons] at h
  unfold seqN at h
  cases hb:Nat.beq f.offset i with
  | false=>rw [hb] at h; cases h
  | true =>
  rw [hb,cond_true] at h
  have hoff:=Nat.eq_of_beq_eq_true hb
  have step : ∀ (x y:Value) (a r:Bool),(part f.type xs f.offset).run P w = .ok x w→(part f.type ys f.offset).run P w = .ok y w→(Op.equalIn (d+2) f.type x y).run P w = .ok a w→(Op.eqFields (d+2) xs ys F).run P w = .ok r w→(Op.eqFields (d+2) xs ys (f::F)).run P w = .ok (a && r) w:=by
   intro x y a r hp1 hp2 he hr
   unfold Op.eqFields
   rw [if_pos (hn f (by simp))]
   simp only [Sem.run_bind,hp1,hp2,Result.andThen_ok,he]
   cases a with
   | true=>simp [hr]
   | false=>simp
  split at h
  ·rename_i gs k hs
   unfold subS at hs
   split at hs
   case h_2=>cases hs
   rename_i gs' k' bb z e1
   cases hs
   split at h
   case h_2=>cases h
   rename_i a r h1 h2
   cases h
   obtain ⟨fds,u1,rfl,u2,u3,_,u5⟩:=eq_info hT e1
   have hag:(isAgg f.type).run P w = .ok true w:=by
    unfold isAgg
    rw [Sem.run_bind,run_underlying u1 w]; rfl
   have hsz:=run_size hT e1 w
   have hpart : ∀ zs:Array Value,(part f.type zs f.offset).run P w = .ok (.agg (zs.extract i (i+k))) w:=fun zs=>by
    unfold part
    simp only [Sem.run_bind,hag,Result.andThen_ok,if_true,hsz,hoff,Sem.run_pure]
   have hget : ∀ (zs:Array Value) (m:List AV),(∀ (j:Nat) (a:AV),m[j]? = some a → ∃ c,zs[i+j]? = some c∧Rep g w c a) → ∀ (j:Nat) (a:AV),(m.take k)[j]? = some a → ∃ c,(zs.extract i (i+k))[0+j]? = some c∧Rep g w c a:=fun zs m hm j a hj=>by
    rw [List.getElem?_take] at hj
    split at hj
    ·rename_i hjk
     obtain ⟨c,c1,c2⟩:=hm j a hj
     refine ⟨c,?_,c2⟩
     have hlt:i+j<zs.size:=(Array.getElem?_eq_some_iff.1 c1).1
     rw [Nat.zero_add,Array.getElem?_extract,if_pos (by omega)]
     exact c1
    ·cases hj
   have hin:=seqS_ok hT (g:=g) (w:=w) d fds.toList 0 _ _ a h1 u5 (hget xs l hl) (hget ys l' hl')
   have heq:=run_equalIn_struct (P:=P) w (d+1) f.type (xs.extract i (i+k)) (ys.extract i (i+k)) (by rw [u2]; exact u1) u3
   rw [u2,hin] at heq
   refine step _ _ a r (hpart xs) (hpart ys) heq (ih (i+k) _ _ r h2 (fun f hf=>hn f (by simp [hf])) (fun j a hj => ?_) (fun j a hj => ?_))
   ·rw [List.getElem?_drop] at hj
    rw [show i+k+j=i+(k+j) by omega]
    exact hl (k+j) a hj
   ·rw [List.getElem?_drop] at hj
    rw [show i+k+j=i+(k+j) by omega]
    exact hl' (k+j) a hj
  ·split at h
   case h_2=>cases h
   rename_i x l y l'
   split at h
   case h_2=>cases h
   rename_i a r h1 h2
   cases h
   obtain ⟨cx,c1,c2⟩:=hl 0 _ rfl
   obtain ⟨cy,d1,d2⟩:=hl' 0 _ rfl
   obtain ⟨hag,heq⟩:=seq1_ok hT (d+1) f.type h1 c2 d2
   have hpart : ∀ (zs:Array Value) (z:Value),zs[i]? = some z→(part f.type zs f.offset).run P w = .ok z w:=fun zs z hz=>by
    unfold part
    simp only [Sem.run_bind,hag,Result.andThen_ok,Bool.false_eq_true,if_false,hoff,hz,Sem.run_pure]
   exact step _ _ a r (hpart xs cx (by simpa using c1)) (hpart ys cy (by simpa using d1)) heq (ih (i+1) _ _ r h2 (fun f hf=>hn f (by simp [hf])) (fun j a hj=>by rw [show i+1+j=i+(j+1) by omega]; exact hl (j+1) a (by simpa using hj)) (fun j a hj=>by rw [show i+1+j=i+(j+1) by omega]; exact hl' (j+1) a (by simpa using hj)))
theorem aeqS_ok (hT:TOk P T) {t:Nat} {l l':List AV} {b:Bool} (h:aeqS T t l l'=some b) {g:Gh} {w:World} {xs ys:Array Value} (hx:Cells g w xs l) (hy:Cells g w ys l') (xo yo:Operand) :
  (do eqGuard .eql t xo yo (.agg xs) (.agg ys); binOp .eql t (.agg xs) (.agg ys):Sem Value).run P w = .ok (.bool b) w∧(do eqGuard .neq t xo yo (.agg xs) (.agg ys); binOp .neq t (.agg xs) (.agg ys):Sem Value).run P w = .ok (.bool !b) w:=by
 unfold aeqS at h
 split at h
 case h_2=>cases h
 rename_i fs s1 s2 s3 e1
 obtain ⟨fds,q2,rfl,hfd,hs,hgd,hnm⟩:=eq_info hT e1
 have hag:=fun op=>run_eqGuard_agg (P:=P) w op t xo yo xs ys hgd
 have heq:=run_equalIn_struct (P:=P) w 9999 t xs ys (by rw [hfd]; exact q2) hs
 have hl1 : ∀ (j:Nat) (a:AV),l[j]? = some a → ∃ c,xs[0+j]? = some c∧Rep g w c a:=fun j a hj=>by rw [Nat.zero_add]; exact get_cells hx hj
 have hl2 : ∀ (j:Nat) (a:AV),l'[j]? = some a → ∃ c,ys[0+j]? = some c∧Rep g w c a:=fun j a hj=>by rw [Nat.zero_add]; exact get_cells hy hj
 have hgo:(Op.eqFields 9999 xs ys fds.toList).run P w = .ok b w:=by
  split at h
  ·rename_i b' hb
   cases h
   exact seqS_ok hT (g:=g) (w:=w) (xs:=xs) (ys:=ys) 9998 fds.toList 0 l l' b hb hnm hl1 hl2
  ·exact seqN_ok hT (g:=g) (w:=w) (xs:=xs) (ys:=ys) 9997 fds.toList 0 l l' b h hnm hl1 hl2
 rw [hfd,hgo] at heq
 constructor
 ·simp only [Sem.run_bind,hag,Result.andThen_ok,run_eql_struct,heq]
 ·simp only [Sem.run_bind,hag,Result.andThen_ok,run_neq_struct,heq]
theorem l_eqS (hT:TOk P T) {op:BinOp} {ty ty2:Nat} {x y:Operand} {l l':List AV} {b r:Bool} (ho:o.op = .binOp op ty x y ty2) (hx:ev x=some (.agg l)) (hy:ev y=some (.agg l')) (h:aeqS T ty l l'=some b) (hop:(op = .eql∧r=b)∨(op = .neq∧r = !b))
  (hK:K (.tr (.v (.bool r))) [] []):LOk P o m nh ev K:=by
 refine LOk.pure _ _ hK (by simp) fun g w m' ρ hm hrd hev => ?_
 have hcells : ∀ (v:Value) (l:List AV),Rep g w v (.agg l) → ∃ cs,v = .agg cs∧Cells g w cs l:=fun v l hr=>by
  cases hr with
  | agg h1 h2 h3=>exact ⟨_,rfl,h1,h2,h3⟩
 obtain ⟨xs,e1,c1⟩:=hcells _ _ (hev _ _ hx)
 obtain ⟨ys,e2,c2⟩:=hcells _ _ (hev _ _ hy)
 obtain ⟨r1,r2⟩:=aeqS_ok hT h c1 c2 x y
 refine ⟨.bool r,?_,.tr (.v trivial)⟩
 simp only [Sem.run_bind] at r1 r2
 rcases hop with ⟨rfl,rfl⟩ | ⟨rfl,rfl⟩
 ·simp only [execOp,ho,e1,e2,Sem.run_bind,r1,Result.andThen_ok,Sem.run_pure]
 ·simp only [execOp,ho,e1,e2,Sem.run_bind,r2,Result.andThen_ok,Sem.run_pure]
theorem D_iface {u:TypeDesc} (h:D.of u = .iface) : ∃ ms,u = .interface ms:=by
 cases u <;> first | (cases h; done) | exact ⟨_,rfl⟩
theorem l_eqNil (hT:TOk P T) {t:Nat} (hlt:t<HMod) {op:BinOp} {ty ty2:Nat} {x y:Operand} {a:AV} {r:Bool} (ho:o.op = .binOp op ty x y ty2) (hx:ev x=some (.ifc t a)) (hy:ev y=some (.tr (.v .nilIface))) (hd:dOf T ty=some .iface) (hop:(op = .eql∧r=false)∨(op = .neq∧r=true))
  (hK:K (.tr (.v (.bool r))) [] []):LOk P o m nh ev K:=by
 refine LOk.pure _ _ hK (by simp) fun g w m' ρ hm hrd hev => ?_
 obtain ⟨u,u1,u2⟩:=dOf_und hT hd
 obtain ⟨ms,rfl⟩:=D_iface u2
 have e2:=(val_inv (hev _ _ hy)).1
 have hr:=hev _ _ hx
 generalize hv:ρ x=v at hr
 cases hr with
 | bnd _ hr=>omega
 | psl hr=>omega
 | frz _ _ hr=>omega
 | win hr=>omega
 | ifc _ hr =>
  rename_i xv _
  have heq:(Op.equal ty (.iface t xv) .nilIface).run P w = .ok false w:=by
   show (Op.equalIn (9999+1) ty (.iface t xv) .nilIface).run P w = .ok false w
   generalize 9999=n
   simp [Op.equalIn,run_underlying u1]
  refine ⟨.bool r,?_,.tr (.v trivial)⟩
  rcases hop with ⟨rfl,rfl⟩ | ⟨rfl,rfl⟩
  ·simp [execOp,ho,hv,e2,eqGuard,binOp,heq]
  ·simp [execOp,ho,hv,e2,eqGuard,binOp,heq]
theorem D_ptr {u:TypeDesc} {e:Nat} (h:D.of u = .ptr e):u = .pointer e:=by
 cases u <;> first | (cases h; done) | (cases h; rfl)
theorem l_nilB (hT:TOk P T) {op:BinOp} {ty ty2:Nat} {x y:Operand} {a b:Value} {r:Bool} (ho:o.op = .binOp op ty x y ty2) (hx:ev x=some (.tr (.v a))) (hy:ev y=some (.tr (.v b))) (hd:nilB (dOf T ty) y a b=true) (hop:(op = .eql∧r=true)∨(op = .neq∧r=false))
  (hK:K (.tr (.v (.bool r))) [] []):LOk P o m nh ev K:=by
 refine LOk.pure _ _ hK (by simp) fun g w m' ρ hm hrd hev => ?_
 have e1:=(val_inv (hev _ _ hx)).1
 have e2:=(val_inv (hev _ _ hy)).1
 unfold nilB at hd
 split at hd
 ·split at hd
  case h_2=>cases hd
  rename_i v hd'
  obtain ⟨u,u1,u2⟩:=dOf_und hT hd'
  obtain ⟨ms,rfl⟩:=D_iface u2
  have heq:(Op.equal ty .nilIface .nilIface).run P w = .ok true w:=by
   show (Op.equalIn (9999+1) ty .nilIface .nilIface).run P w = .ok true w
   generalize 9999=n
   simp [Op.equalIn,run_underlying u1]
  refine ⟨.bool r,?_,.tr (.v trivial)⟩
  rcases hop with ⟨rfl,rfl⟩ | ⟨rfl,rfl⟩
  ·simp [execOp,ho,e1,e2,eqGuard,binOp,heq]
  ·simp [execOp,ho,e1,e2,eqGuard,binOp,heq]
 ·split at hd
  case h_2=>cases hd
  rename_i e hd'
  obtain ⟨u,u1,u2⟩:=dOf_und hT hd'
  obtain rfl:=D_ptr u2
  have heq:(Op.equal ty (.pointer none) (.pointer none)).run P w = .ok true w:=by
   show (Op.equalIn (9999+1) ty (.pointer none) (.pointer none)).run P w = .ok true w
   generalize 9999=n
   simp [Op.equalIn,run_underlying u1]
  refine ⟨.bool r,?_,.tr (.v trivial)⟩
  rcases hop with ⟨rfl,rfl⟩ | ⟨rfl,rfl⟩
  ·simp [execOp,ho,e1,e2,eqGuard,binOp,heq]
  ·simp [execOp,ho,e1,e2,eqGuard,binOp,heq]
 ·split at hd
  case h_2=>cases hd
  rename_i e hd'
  obtain ⟨u,u1,u2⟩:=dOf_und hT hd'
  obtain rfl:=D_slice u2
  have heq:(Op.equal ty (.slice none 0 0) (.slice none 0 0)).run P w = .ok true w:=by
   show (Op.equalIn (9999+1) ty (.slice none 0 0) (.slice none 0 0)).run P w = .ok true w
   generalize 9999=n
   simp [Op.equalIn,run_underlying u1]
  refine ⟨.bool r,?_,.tr (.v trivial)⟩
  rcases hop with ⟨rfl,rfl⟩ | ⟨rfl,rfl⟩
  ·simp [execOp,ho,e1,e2,eqGuard,binOp,heq]
  ·simp [execOp,ho,e1,e2,eqGuard,binOp,heq]
 ·cases hd
theorem l_ptrNil (hT:TOk P T) {op:BinOp} {ty ty2 e:Nat} {x y:Operand} {hd off:Nat} {b:Blk} {r:Bool} (ho:o.op = .binOp op ty x y ty2) (hx:ev x=some (.ptr hd off)) (hy:ev y=some (.tr (.v (.pointer none)))) (hde:dOf T ty=some (.ptr e)) (hm0:m hd=some b) (hop:(op = .eql∧r=false)∨(op = .neq∧r=true))
  (hK:K (.tr (.v (.bool r))) [(hd,b)] []):LOk P o m nh ev K:=by
 refine LOk.pure _ _ hK (fun p hp=>by simp at hp; subst hp; exact hm0) fun g w m' ρ hm hrd hev => ?_
 have e2:=(val_inv (hev _ _ hy)).1
 obtain ⟨u,u1,u2⟩:=dOf_und hT hde
 obtain rfl:=D_ptr u2
 obtain ⟨l,g1,g2⟩:=hm.blk hd _ (hrd (hd,b) (by simp))
 have hr:=hev _ _ hx
 generalize hv:ρ x=v at hr
 cases hr with
 | ptrD e=>rw [g1] at e; cases e
 | ptr eq =>
  rename_i k
  have heq:(Op.equal ty (.pointer (some ⟨k,off,none⟩)) (.pointer none)).run P w = .ok false w:=by
   show (Op.equalIn (9999+1) ty _ _).run P w = .ok false w
   generalize 9999=n
   simp [Op.equalIn,run_underlying u1]
  refine ⟨.bool r,?_,.tr (.v trivial)⟩
  rcases hop with ⟨rfl,rfl⟩ | ⟨rfl,rfl⟩
  ·simp [execOp,ho,hv,e2,eqGuard,binOp,heq]
  ·simp [execOp,ho,hv,e2,eqGuard,binOp,heq]
theorem l_typeAssert (hT:TOk P T) {t:Nat} (hlt:t<HMod) {x:Operand} {xt:Nat} {a:AV} {d:D} (ho:o.op = .typeAssert x xt t false) (hx:ev x=some (.ifc t a)) (hd:dOf T t=some d) (hni:d ≠ .iface) (hK:K a [] []):LOk P o m nh ev K:=by
 refine LOk.pure _ _ hK (by simp) fun g w m' ρ hm hrd hev => ?_
 obtain ⟨u,u1,u2⟩:=dOf_und hT hd
 have hr:=hev _ _ hx
 generalize hv:ρ x=v at hr
 cases hr with
 | bnd _ hr=>omega
 | psl hr=>omega
 | frz _ _ hr=>omega
 | win hr=>omega
 | ifc _ hr =>
  rename_i xv _
  refine ⟨xv,?_,hr⟩
  have:(Instr.typeAssert (.iface t xv) xt t false).run P w = .ok xv w:=by
   unfold Instr.typeAssert
   simp only [Sem.run_bind,run_underlying u1,Result.andThen_ok]
   cases u <;> first | (exact absurd u2.symm hni) | simp
  simp only [execOp,ho,hv,Sem.run_bind,this,Result.andThen_ok]
  rfl
end
end Go.Proofs.YtbflekglkkdipaaGreatDoor.am
namespace Go.Proofs.YtbflekglkkdipaaGreatDoor.am
open Go
set_option linter.unusedSimpArgs false
def gfoc (g:Gh) (h nh:Nat) (l':Loc) (Fo Fn:Nat→Prop):Gh:=⟨fun k=>if k=nh then .live l' else g k,g.X,[],fun k b=>(k=nh∧Fn b)∨(k≠nh∧g.F k b∧(k=h → ¬ Fo b))⟩
theorem gfoc_new {g:Gh} {h nh:Nat} {l':Loc} {Fo Fn:Nat→Prop}:gfoc g h nh l' Fo Fn nh = .live l':=by simp [gfoc]
theorem gfoc_ne {g:Gh} {h nh k:Nat} {l':Loc} {Fo Fn:Nat→Prop} (hk:k≠nh):gfoc g h nh l' Fo Fn k=g k:=by simp [gfoc,hk]
theorem gfoc_Fnew {g:Gh} {h nh:Nat} {l':Loc} {Fo Fn:Nat→Prop}:(gfoc g h nh l' Fo Fn).F nh=Fn:=by funext b; simp [gfoc]
theorem gfoc_Fh {g:Gh} {h nh:Nat} {l':Loc} {Fo Fn:Nat→Prop} (hk:h≠nh):(gfoc g h nh l' Fo Fn).F h=fun b=>g.F h b ∧ ¬ Fo b:=by funext b; simp [gfoc,hk]
theorem gfoc_F {g:Gh} {h nh k:Nat} {l':Loc} {Fo Fn:Nat→Prop} (hk:k≠nh) (hh:k≠h):(gfoc g h nh l' Fo Fn).F k=g.F k:=by funext b; simp [gfoc,hk,hh]
theorem gfoc_owns {g:Gh} {h nh k b:Nat} {l':Loc} {Fo Fn:Nat→Prop} (hl' : ∀ b,l'.b=some b→Fo b) (hFn : ∀ b,Fn b→Fo b) (ho:Owns (gfoc g h nh l' Fo Fn) k b) :
  (k=nh∧Fo b)∨(k≠nh∧Owns g k b∧(k=h → ∀ l,g h = .live l→l.b≠some b → ¬ Fo b)):=by
 obtain ⟨l,e1,e2⟩:=ho
 by_cases hk:k=nh
 ·subst hk
  rw [gfoc_new] at e1; cases e1
  rw [gfoc_Fnew] at e2
  exact .inl ⟨rfl,e2.elim (hl' b) (hFn b)⟩
 ·rw [gfoc_ne hk] at e1
  change l.b=some b∨((k=nh∧Fn b)∨(k≠nh∧g.F k b∧(k=h → ¬ Fo b))) at e2
  refine .inr ⟨hk,⟨l,e1,?_⟩,fun hh l1 q1 q2 => ?_⟩
  ·rcases e2 with e2 | ⟨q,_⟩ | ⟨_,q,_⟩
   ·exact .inl e2
   ·exact absurd q hk
   ·exact .inr q
  ·subst hh
   rw [e1] at q1; cases q1
   rcases e2 with e2 | ⟨q,_⟩ | ⟨_,_,q⟩
   ·exact absurd e2 q2
   ·exact absurd q hk
   ·exact q rfl
section
variable {g:Gh} {w:World} {m:Mem} {h nh:Nat} {l l':Loc} {Fo Fn:Nat→Prop}
theorem grow_focus (hn:g nh = .un) (hl:g h = .live l) (hFo : ∀ b,Fo b→g.F h b) (hl' : ∀ b,l'.b=some b→Fo b) (hFn : ∀ b,Fn b→Fo b):Grow g w (gfoc g h nh l' Fo Fn) w:=by
 refine ⟨rfl,rfl,rfl,Nat.le_refl _,fun _ _=>rfl,fun _ _=>rfl,rfl,fun k hk => ?_,fun k lx hk => ?_,fun k b hk => ?_⟩
 ·by_cases e:k=nh
  ·subst e; exact absurd hn hk
  ·rw [gfoc_ne e]; exact hk
 ·by_cases e:k=nh
  ·subst e; exact .inr hn
  ·rw [gfoc_ne e] at hk; exact .inl hk
 ·rcases gfoc_owns hl' hFn hk with ⟨_,q⟩ | ⟨_,q,_⟩
  ·exact .inl ⟨h,l,hl,.inr (hFo b q)⟩
  ·exact .inl ⟨k,q⟩
theorem mst_focus (hm:MSt g w m) (hn:g nh = .un) (hl:g h = .live l) (hFo : ∀ b,Fo b→g.F h b) (hroot : ∀ b,l.b=some b → ¬ Fo b) (hl' : ∀ b,l'.b=some b→Fo b) (hFn : ∀ b,Fn b→Fo b) {child parent:Blk}
  (hc:BRep (gfoc g h nh l' Fo Fn) w l' Fn child) (hp:BRep (gfoc g h nh l' Fo Fn) w l (fun b=>g.F h b ∧ ¬ Fo b) parent):MSt (gfoc g h nh l' Fo Fn) w (updM m [(nh,some child),(h,some parent)]):=by
 have hhn:h≠nh:=fun e=>by rw [e,hn] at hl; cases hl
 have hg:=grow_focus (w:=w) hn hl hFo hl' hFn
 refine ⟨fun k b hb => ?_,fun k k' b e1 e2 => ?_,fun k b e1 => ?_,hm.xlt,fun k b e1 => ?_,hm.gl.grow hg⟩
 ·by_cases e:k=nh
  ·subst e
   have:b=child:=by simpa [updM,lk] using hb.symm
   subst this
   exact ⟨l',gfoc_new,by rw [gfoc_Fnew]; exact hc⟩
  ·have e':Nat.beq nh k=false:=beq_ne fun q=>e q.symm
   by_cases e2:k=h
   ·subst e2
    have:b=parent:=by simpa [updM,lk,e'] using hb.symm
    subst this
    exact ⟨l,(gfoc_ne e).trans hl,by rw [gfoc_Fh e]; exact hp⟩
   ·have e3:Nat.beq h k=false:=beq_ne fun q=>e2 q.symm
    have hb':m k=some b:=by simpa [updM,lk,e',e3] using hb
    obtain ⟨l1,q1,q2⟩:=hm.blk k b hb'
    exact ⟨l1,(gfoc_ne e).trans q1,by rw [gfoc_F e e2]; exact q2.grow hg fun _ _=>rfl⟩
 ·have key : ∀ {k},Owns g k b→(k=h → ∀ l,g h = .live l→l.b≠some b → ¬ Fo b) → ¬ Fo b:=fun {k} q1 q2 q3=>by
   have:=hm.inj k h b q1 ⟨l,hl,.inr (hFo b q3)⟩
   exact q2 this l hl (fun e=>hroot b e q3) q3
  rcases gfoc_owns hl' hFn e1 with ⟨a1,a2⟩ | ⟨a1,a2,a3⟩ <;> rcases gfoc_owns hl' hFn e2 with ⟨b1,b2⟩ | ⟨b1,b2,b3⟩
  ·rw [a1,b1]
  ·exact absurd a2 (key b2 b3)
  ·exact absurd b2 (key a2 a3)
  ·exact hm.inj k k' b a2 b2
 ·rcases gfoc_owns hl' hFn e1 with ⟨_,q⟩ | ⟨_,q,_⟩
  ·exact hm.lt h b ⟨l,hl,.inr (hFo b q)⟩
  ·exact hm.lt k b q
 ·rcases gfoc_owns hl' hFn e1 with ⟨_,q⟩ | ⟨_,q,_⟩
  ·exact hm.xl h b ⟨l,hl,.inr (hFo b q)⟩
  ·exact hm.xl k b q
end
theorem lnk_cons (ln:List ((Nat × Nat) × (Nat × Nat))) (i j i' j':Nat) (x:Nat × Nat):lnk (((i,j),x)::ln) i' j'=if i=i'∧j=j' then some x else lnk ln i' j':=by
 show (bif Nat.beq j j' && Nat.beq i i' then some x else lnk ln i' j')=_
 by_cases h1:i=i'
 ·by_cases h2:j=j'
  ·subst h1; subst h2; simp
  ·rw [beq_ne h2]; simp [h2]
 ·rw [beq_ne h1,Bool.and_false]; simp [h1]
theorem focus_own {g:Gh} {w:World} {m':Mem} {hd nh n B b cap i off n2 B2 e:Nat} {rows:List (List Tr)} {ln:List ((Nat × Nat) × (Nat × Nat))} {cur:Array Value} {Fs:Nat→Nat→Nat→Prop} {row:List Tr} {rows2:List (List Tr)} {v:Value}
  (hm:MSt g w m') (hn:g nh = .un) (g1:g hd = .live (.row b cap)) (g3:w.heap[b]? = some (.cells cur e (0,0))) (g4:rows.length≤cap) (g5:cap≤9223372036854775807) (g6:cur.size=cap*n) (g7 : ∀ row ∈ rows,row.length=n)
  (g8 : ∀ i j c,Fs i j c→g.F hd c∧c≠b) (g9 : ∀ i j i' j' c,Fs i j c→Fs i' j' c→i=i'∧j=j')
  (g10 : ∀ (i j:Nat) (row:List Tr) (t:Tr) (c:Value),rows[i]? = some row→row[j]? = some t→cur[i*n+j]? = some c→(lnk ln i j=none→RepO w (Fs i j) c t) ∧ ∀ h len,lnk ln i j=some (h,len)→Rep g w c (.sl h len))
  (hB:rows.length*B≤150000000000000) (hn0:0<n) (hrow:rows[i]? = some row) (hto:row[off]? = some (.lst n2 B2 rows2)) (hc:cur[i*n+off]? = some v) (hlk:lnk ln i off=none) (hn2:0<n2) :
  ∃ g',Rep g' w v (.sl nh rows2.length)∧MSt g' w (updM m' [(nh,some (.own n2 B2 rows2 [])),(hd,some (.own n B rows (((i,off),(nh,rows2.length))::ln)))])∧Grow g w g' w ∧ ∀ k,k≠nh→g k = .un→g' k = .un:=by
 have hrep:=(g10 i off row _ v hrow hto hc).1 hlk
 have hFo : ∀ c,Fs i off c→g.F hd c:=fun c hc=>(g8 i off c hc).1
 have hroot : ∀ c,(Loc.row b cap).b=some c → ¬ Fs i off c:=fun c e hc=>by cases e; exact (g8 i off _ hc).2 rfl
 have hnl : ∀ {l':Loc} {Fn:Nat→Prop} {v:Value},(∀ c,l'.b=some c→Fs i off c)→(∀ c,Fn c→Fs i off c)→cur[i*n+off]? = some v→Rep (gfoc g hd nh l' (Fs i off) Fn) w v (.sl nh rows2.length) →
   BRep (gfoc g hd nh l' (Fs i off) Fn) w (.row b cap) (fun c=>g.F hd c ∧ ¬ Fs i off c) (.own n B rows (((i,off),(nh,rows2.length))::ln)):=fun {l' Fn v} hl' hFn hcv hsl=>by
  have hG:=grow_focus (w:=w) (l':=l') (Fo:=Fs i off) (Fn:=Fn) hn g1 hFo hl' hFn
  refine ⟨hB,hn0,.inr ⟨b,cap,cur,e,fun i' j' c=>Fs i' j' c ∧ ¬ (i'=i∧j'=off),rfl,g3,g4,g5,g6,g7,fun i' j' c hc=>⟨⟨(g8 i' j' c hc.1).1,fun q=>hc.2 ((g9 i' j' i off c hc.1 q))⟩,(g8 i' j' c hc.1).2⟩,fun a1 a2 a3 a4 c q1 q2=>g9 a1 a2 a3 a4 c q1.1 q2.1,fun i' j' row' t' c' q1 q2 q3 => ?_⟩⟩
  rw [lnk_cons]
  by_cases hij:i=i'∧off=j'
  ·rw [if_pos hij]
   refine ⟨fun q=>(by cases q),fun h' len' q => ?_⟩
   cases q
   obtain ⟨rfl,rfl⟩:=hij
   rw [hcv] at q3; cases q3
   exact hsl
  ·rw [if_neg hij]
   obtain ⟨u1,u2⟩:=g10 i' j' row' t' c' q1 q2 q3
   exact ⟨fun q=>(u1 q).mono fun c hc=>⟨hc,fun q=>hij ⟨q.1.symm,q.2.symm⟩⟩,fun h' len' q=>(u2 h' len' q).grow hG⟩
 cases hrep with
 | nil =>
  have hl' : ∀ c,Loc.nil.b=some c→Fs i off c:=fun c e=>by cases e
  have hFn : ∀ c,(fun _:Nat=>False) c→Fs i off c:=fun c e=>e.elim
  have hsl:Rep (gfoc g hd nh .nil (Fs i off) fun _=>False) w (.slice none 0 0) (.sl nh 0) := .slN gfoc_new
  refine ⟨gfoc g hd nh .nil (Fs i off) fun _=>False,hsl,?_,grow_focus hn g1 hFo hl' hFn,fun k q1 q2=>(gfoc_ne q1).trans q2⟩
  exact mst_focus hm hn g1 hFo hroot hl' hFn ⟨by simp,hn2,.inl ⟨rfl,rfl⟩⟩ (hnl hl' hFn hc hsl)
 | @lst _ b' cap' _ _ e' _ cur' Fs' h1 h2 h3 h4 h5 h6 h7 h8 h9 h10 h11 =>
  have hl' : ∀ c,(Loc.row b' cap').b=some c→Fs i off c:=fun c e=>by cases e; exact h8
  have hFn : ∀ c,(fun c => ∃ i j,Fs' i j c) c→Fs i off c:=fun c ⟨i1,j1,q⟩=>(h9 i1 j1 c q).1
  have hsl:Rep (gfoc g hd nh (.row b' cap') (Fs i off) fun c => ∃ i j,Fs' i j c) w (.slice (some ⟨b',0,none⟩) rows2.length cap') (.sl nh rows2.length) := .sl gfoc_new h4
  refine ⟨gfoc g hd nh (.row b' cap') (Fs i off) fun c => ∃ i j,Fs' i j c,hsl,?_,grow_focus hn g1 hFo hl' hFn,fun k q1 q2=>(gfoc_ne q1).trans q2⟩
  refine mst_focus hm hn g1 hFo hroot hl' hFn ⟨h1,h2,.inr ⟨b',cap',cur',e',Fs',rfl,h3,h4,h5,h6,h7,fun i1 j1 c q=>⟨⟨i1,j1,q⟩,(h9 i1 j1 c q).2⟩,h10,fun i1 j1 row1 t1 c1 q1 q2 q3=>⟨fun _=>h11 i1 j1 row1 t1 c1 q1 q2 q3,fun _ _ q=>by cases q⟩⟩⟩ (hnl hl' hFn hc hsl)
theorem rowAV_len {ln:List ((Nat × Nat) × (Nat × Nat))} {i:Nat} : ∀ {l:List Tr} {j:Nat},(rowAV ln i j l).length=l.length
 | [],_=>rfl
 | _::r,j=>by
   show (rowAV ln i (j+1) r).length+1=r.length+1
   rw [rowAV_len]
theorem rowAV_get {ln:List ((Nat × Nat) × (Nat × Nat))} {i:Nat} : ∀ {l:List Tr} {j k:Nat} {t:Tr},l[k]? = some t→(rowAV ln i j l)[k]? = some (match lnk ln i (j+k) with | some (h,len) => .sl h len | none => .tr t)
 | [],_,_,_,h=>by simp at h
 | x::r,j,0,t,h=>by
   simp at h
   subst h
   rfl
 | x::r,j,k+1,t,h=>by
   have h:r[k]? = some t:=by simpa using h
   have:=rowAV_get (ln:=ln) (i:=i) (j:=j+1) h
   rw [show j+1+k=j+(k+1) by omega] at this
   show (rowAV ln i (j+1) r)[k]? = _
   exact this
section
variable {P:Program} {T:Ty} {o:Oper} {m:Mem} {nh:Nat} {ev:Operand→Option AV} {K:KK}
theorem l_loadO (hT:TOk P T) {ty:TypeId} {x:Operand} {a:AV} (ho:o.op = .load ty x) (hx:ev x=some a) (h:aloadO T m nh ty K a):LOk P o m nh ev K:=by
 have hrun : ∀ (ρ:Operand→Value) (w:World) (v u:Value),ρ x=u→(Instr.loadAt ty u).run P w = .ok v w→(execOp ρ o).run P w = .ok (.value v) w:=fun ρ w v u hu e=>by
  subst hu; simp [execOp,ho,e]
 unfold aloadO at h
 split at h
 case h_2=>exact l_load hT ho hx h
 rename_i hd n i off
 split at h
 case h_2=>exact l_load hT ho hx h
 rename_i n' B rows ln e2
 split at h
 case h_2=>exact h.elim
 rename_i ti e1
 have rdok : ∀ p ∈ [(hd,Blk.own n' B rows ln)],m p.1=some p.2:=fun p hp=>by simp at hp; subst hp; exact e2
 cases hag:ti.d.agg with
 | true =>
  rw [hag,cond_true] at h
  cases hsl:hasSl ti.zero with
  | true =>
   rw [hsl,cond_true] at h
   obtain ⟨rfl,hi,h⟩:=h
   obtain ⟨row,hrow⟩ : ∃ row,rows[i]? = some row:=⟨rows[i],by simp [hi]⟩
   obtain ⟨hs,h⟩:=h row hrow
   have base : ∀ (g:Gh) (w:World) (m':Mem) (ρ:Operand→Value),MSt g w m'→(∀ p ∈ [(hd,Blk.own n B rows ln)],m' p.1=some p.2)→(∀ x b,ev x=some b→Rep g w (ρ x) b) →
     ∃ (b cap:Nat) (cur:Array Value) (e:Nat) (Fs:Nat→Nat→Nat→Prop),g hd = .live (.row b cap)∧w.heap[b]? = some (.cells cur e (0,0))∧rows.length≤cap∧cap≤9223372036854775807∧cur.size=cap*n∧(∀ row ∈ rows,row.length=n)∧(∀ i j c,Fs i j c→g.F hd c∧c≠b)∧(∀ i j i' j' c,Fs i j c→Fs i' j' c→i=i'∧j=j') ∧
      (∀ (i j:Nat) (row:List Tr) (t:Tr) (c:Value),rows[i]? = some row→row[j]? = some t→cur[i*n+j]? = some c→(lnk ln i j=none→RepO w (Fs i j) c t) ∧ ∀ h len,lnk ln i j=some (h,len)→Rep g w c (.sl h len)) ∧
      rows.length*B≤150000000000000∧0<n∧i*n+n≤cur.size∧row.length=n∧(execOp ρ o).run P w = .ok (.value (.agg (cur.extract (i*n+off) (i*n+off+ti.size)))) w:=by
    intro g w m' ρ hm hrd hev
    obtain ⟨lc,g1,hB,hn,⟨_,hv⟩ | ⟨b,cap,cur,e,Fs,rfl,g3,g4,g5,g6,g7,g8,g9,g10⟩⟩:=hm.blk hd _ (hrd (hd,.own n B rows ln) (by simp))
    ·rw [hv] at hi; simp at hi
    obtain ⟨b',cap',e3,e4⟩:=(hev _ _ hx).vpt_inv g1
    cases e3
    have hl:=g7 row (List.mem_of_getElem? hrow)
    have hsz:i*n+n≤cur.size:=by
     have:(i+1)*n≤cap*n:=Nat.mul_le_mul_right _ (by omega)
     rw [Nat.succ_mul] at this; omega
    refine ⟨b,cap,cur,e,Fs,g1,g3,g4,g5,g6,g7,g8,g9,g10,hB,hn,hsz,hl,hrun ρ w _ _ e4 ?_⟩
    have:=run_loadA hT e1 hag (w:=w) (b:=b) (o:=i*n+off) (cur.extract (i*n+off) (i*n+off+ti.size)).toList (by simp; omega) fun j v hj=>by
     rw [heap_cell g3]
     simp only [Array.getElem?_toList,Array.getElem?_extract] at hj
     split at hj
     ·exact hj
     ·cases hj
    rw [Array.toArray_toList] at this
    exact this
   have cell : ∀ {cur:Array Value} {k:Nat} {c:Value} {t:Tr},(cur.extract (i*n+off) (i*n+off+ti.size))[k]? = some c→((row.drop off).take ti.size)[k]? = some t→cur[i*n+(off+k)]? = some c∧row[off+k]? = some t∧k<ti.size:=fun {cur k c t} h1 h2=>by
    simp only [Array.getElem?_extract] at h1
    rw [List.getElem?_take] at h2
    split at h2
    ·rename_i hk
     rw [List.getElem?_drop] at h2
     split at h1
     ·exact ⟨by rw [← Nat.add_assoc]; exact h1,h2,hk⟩
     ·cases h1
    ·cases h2
   rcases h with ⟨hlf,h⟩ | ⟨j,n2,B2,rows2,j0,j1,hj,hn2,hln,hlf,h⟩
   ·refine LOk.pure _ _ h rdok fun g w m' ρ hm hrd hev => ?_
    obtain ⟨b,cap,cur,e,Fs,g1,g3,g4,g5,g6,g7,g8,g9,g10,hB,hn0,hsz,hl,hr⟩:=base g w m' ρ hm hrd hev
    refine ⟨_,hr,.agg (by rw [rowAV_len]; simp; omega) (fun a ha => ?_) fun k c a h1 h2 => ?_⟩
    ·obtain ⟨k,hk⟩:=List.mem_iff_getElem?.1 ha
     have hlt:k<((row.drop off).take ti.size).length:=by have:=(List.getElem?_eq_some_iff.1 hk).1; rwa [rowAV_len] at this
     rw [rowAV_get (List.getElem?_eq_getElem hlt)] at hk
     obtain rfl:=Option.some.inj hk
     split <;> rfl
    ·have hlt:k<((row.drop off).take ti.size).length:=by have:=(List.getElem?_eq_some_iff.1 h2).1; rwa [rowAV_len] at this
     have ht:=List.getElem?_eq_getElem hlt
     rw [rowAV_get ht] at h2
     obtain rfl:=Option.some.inj h2
     obtain ⟨q1,q2,q3⟩:=cell h1 ht
     generalize (List.take ti.size (List.drop off row))[k]=t at ht q2
     obtain ⟨u1,u2⟩:=g10 i (off+k) row t c hrow q2 q1
     cases hlk:lnk ln i (off+k) with
     | some p=>exact u2 p.1 p.2 hlk
     | none =>
      obtain ⟨y,rfl⟩:=hlf (off+k) t (by omega) (by omega) q2 hlk
      cases u1 hlk with
      | v hy=>exact .tr (.v hy)
   ·refine ⟨_,_,_,h,rdok,fun p hp => ?_,fun g w m' ρ hm hn hrd hev => ?_⟩
    ·simp at hp
     rcases hp with rfl | rfl
     ·exact .inl rfl
     ·exact .inr ⟨(hd,.own n B rows ln),by simp,rfl⟩
    obtain ⟨b,cap,cur,e,Fs,g1,g3,g4,g5,g6,g7,g8,g9,g10,hB,hn0,hsz,hl,hr⟩:=base g w m' ρ hm hrd hev
    have hjr:j<n:=by rw [← hl]; exact (List.getElem?_eq_some_iff.1 hj).1
    have hcj:cur[i*n+j]? = some (cur[i*n+j]'(by omega)):=by simp [show i*n+j<cur.size by omega]
    obtain ⟨g',f1,f2,f3,f4⟩:=focus_own hm hn g1 g3 g4 g5 g6 g7 g8 g9 g10 hB hn0 hrow hj hcj (hln j j0 j1) hn2
    refine ⟨g',w,.inl ⟨_,hr,.agg (by simp; omega) (fun a ha => ?_) fun k c a h1 h2 => ?_⟩,f2,f3,f4⟩
    ·rcases List.mem_or_eq_of_mem_set ha with ha | rfl
     ·obtain ⟨t,_,rfl⟩:=List.mem_map.1 ha; rfl
     ·rfl
    ·by_cases hk:j - off=k
     ·subst hk
      rw [List.getElem?_set_self (by simp; omega)] at h2
      obtain rfl:=Option.some.inj h2
      simp only [Array.getElem?_extract] at h1
      split at h1
      ·rw [show i*n+off+(j - off)=i*n+j by omega,hcj] at h1
       obtain rfl:=Option.some.inj h1
       exact f1
      ·cases h1
     ·rw [List.getElem?_set_ne hk,List.getElem?_map,Option.map_eq_some_iff] at h2
      obtain ⟨t,ht,rfl⟩:=h2
      obtain ⟨q1,q2,q3⟩:=cell h1 ht
      obtain ⟨y,rfl⟩:=hlf (off+k) t (by omega) (by omega) (by omega) q2
      cases (g10 i (off+k) row _ c hrow q2 q1).1 (hln _ (by omega) (by omega)) with
      | v hy=>exact .tr (.v hy)
  | false =>
  rw [hsl,cond_false] at h
  obtain ⟨rfl,hi,h⟩:=h
  obtain ⟨row,hrow⟩ : ∃ row,rows[i]? = some row:=⟨rows[i],by simp [hi]⟩
  obtain ⟨hs,hlf,hln,h⟩:=h row hrow
  refine LOk.pure _ _ h rdok fun g w m' ρ hm hrd hev => ?_
  obtain ⟨lc,g1,hB,hn,⟨_,hv⟩ | ⟨b,cap,cur,e,Fs,rfl,g3,g4,g5,g6,g7,g8,g9,g10⟩⟩:=hm.blk hd _ (hrd (hd,.own n B rows ln) (by simp))
  ·rw [hv] at hi; simp at hi
  obtain ⟨b',cap',e3,e4⟩:=(hev _ _ hx).vpt_inv g1
  cases e3
  have hl:=g7 row (List.mem_of_getElem? hrow)
  have hsz:i*n+n≤cur.size:=by
   have:(i+1)*n≤cap*n:=Nat.mul_le_mul_right _ (by omega)
   rw [Nat.succ_mul] at this; omega
  have hcs:Cells g w (cur.extract (i*n+off) (i*n+off+ti.size)).toList.toArray (((row.drop off).take ti.size).map .tr):=by
   refine trs_rep (by simp; omega) fun k c t h1 h2 => ?_
   have hmem:=List.mem_of_getElem? h2
   simp only [Array.getElem?_toList,Array.getElem?_extract] at h1
   rw [List.getElem?_take] at h2
   split at h2
   ·rename_i hk
    rw [List.getElem?_drop] at h2
    split at h1
    ·have hc:=(g10 i (off+k) row t c hrow h2 (by rw [← Nat.add_assoc]; exact h1)).1 (hln (off+k) (by omega) (by omega))
     obtain ⟨y,rfl⟩:=hlf t hmem
     cases hc with
     | v hy=>exact .v hy
    ·cases h1
   ·cases h2
  refine ⟨_,hrun ρ w _ _ e4 (run_loadA hT e1 hag (cur.extract (i*n+off) (i*n+off+ti.size)).toList (by simp; omega) fun j v hj => ?_),hcs.agg⟩
  rw [heap_cell g3]
  simp only [Array.getElem?_toList,Array.getElem?_extract] at hj
  split at hj
  ·exact hj
  ·cases hj
 | false =>
  rw [hag,cond_false] at h
  obtain ⟨rfl,hi,h⟩:=h
  obtain ⟨row,hrow⟩ : ∃ row,rows[i]? = some row:=⟨rows[i],by simp [hi]⟩
  obtain ⟨hlo,h⟩:=h row hrow
  have hto:row[off]? = some row[off]:=by simp [hlo]
  have h:=h _ hto
  generalize row[off]=t at h hto
  have base : ∀ (g:Gh) (w:World) (m':Mem) (ρ:Operand→Value),MSt g w m'→(∀ p ∈ [(hd,Blk.own n B rows ln)],m' p.1=some p.2)→(∀ x b,ev x=some b→Rep g w (ρ x) b) →
    ∃ (b cap:Nat) (cur:Array Value) (e:Nat) (Fs:Nat→Nat→Nat→Prop) (c:Value),g hd = .live (.row b cap)∧w.heap[b]? = some (.cells cur e (0,0))∧rows.length≤cap∧cap≤9223372036854775807∧cur.size=cap*n∧(∀ row ∈ rows,row.length=n)∧(∀ i j c,Fs i j c→g.F hd c∧c≠b)∧(∀ i j i' j' c,Fs i j c→Fs i' j' c→i=i'∧j=j') ∧
     (∀ (i j:Nat) (row:List Tr) (t:Tr) (c:Value),rows[i]? = some row→row[j]? = some t→cur[i*n+j]? = some c→(lnk ln i j=none→RepO w (Fs i j) c t) ∧ ∀ h len,lnk ln i j=some (h,len)→Rep g w c (.sl h len)) ∧
     cur[i*n+off]? = some c∧(execOp ρ o).run P w = .ok (.value c) w∧rows.length*B≤150000000000000∧0<n:=by
   intro g w m' ρ hm hrd hev
   obtain ⟨lc,g1,hB,hn,⟨_,hv⟩ | ⟨b,cap,cur,e,Fs,rfl,g3,g4,g5,g6,g7,g8,g9,g10⟩⟩:=hm.blk hd _ (hrd (hd,.own n B rows ln) (by simp))
   ·rw [hv] at hi; simp at hi
   obtain ⟨b',cap',e3,e4⟩:=(hev _ _ hx).vpt_inv g1
   cases e3
   have hl:=g7 row (List.mem_of_getElem? hrow)
   have hsz:i*n+n≤cur.size:=by
    have:(i+1)*n≤cap*n:=Nat.mul_le_mul_right _ (by omega)
    rw [Nat.succ_mul] at this; omega
   have hc:cur[i*n+off]? = some cur[i*n+off]:=by simp [show i*n+off<cur.size by omega]
   exact ⟨b,cap,cur,e,Fs,_,g1,g3,g4,g5,g6,g7,g8,g9,g10,hc,hrun ρ w _ _ e4 (run_load1 hT e1 hag (by rw [heap_cell g3]; exact hc)),hB,hn⟩
  split at h
  ·rename_i c len hlk
   refine LOk.pure _ _ h rdok fun g w m' ρ hm hrd hev => ?_
   obtain ⟨b,cap,cur,e,Fs,v,g1,g3,g4,g5,g6,g7,g8,g9,g10,hc,hr,_⟩:=base g w m' ρ hm hrd hev
   exact ⟨v,hr,(g10 i off row t v hrow hto hc).2 c len hlk⟩
  ·rename_i hlk
   split at h
   ·rename_i y
    refine LOk.pure _ _ h rdok fun g w m' ρ hm hrd hev => ?_
    obtain ⟨b,cap,cur,e,Fs,v,g1,g3,g4,g5,g6,g7,g8,g9,g10,hc,hr,_⟩:=base g w m' ρ hm hrd hev
    refine ⟨v,hr,?_⟩
    cases (g10 i off row _ v hrow hto hc).1 hlk with
    | v hy=>exact .tr (.v hy)
   ·rename_i n2 B2 rows2
    obtain ⟨hn2,h⟩:=h
    refine ⟨_,_,_,h,rdok,fun p hp => ?_,fun g w m' ρ hm hn hrd hev => ?_⟩
    ·simp at hp
     rcases hp with rfl | rfl
     ·exact .inl rfl
     ·exact .inr ⟨(hd,.own n B rows ln),by simp,rfl⟩
    obtain ⟨b,cap,cur,e,Fs,v,g1,g3,g4,g5,g6,g7,g8,g9,g10,hc,hr,hB,hn0⟩:=base g w m' ρ hm hrd hev
    obtain ⟨g',f1,f2,f3,f4⟩:=focus_own hm hn g1 g3 g4 g5 g6 g7 g8 g9 g10 hB hn0 hrow hto hc hlk hn2
    exact ⟨g',w,.inl ⟨_,hr,f1⟩,f2,f3,f4⟩
theorem lnk_append (a b:List ((Nat × Nat) × (Nat × Nat))) (i j:Nat):lnk (a++b) i j=match lnk a i j with | some x=>some x | none=>lnk b i j:=by
 induction a with
 | nil=>rfl
 | cons p a ih =>
  obtain ⟨⟨i',j'⟩,x⟩:=p
  rw [List.cons_append,lnk_cons,lnk_cons,ih]
  split <;> rfl
theorem lnk_cut {i off k:Nat} : ∀ {ln:List ((Nat × Nat) × (Nat × Nat))},lnOk i off k ln → ∀ i' j',lnk (lnCut off k ln) i' j'=if i'=i∧off≤j'∧j'<off+k then none else lnk ln i' j':=by
 intro ln
 induction ln with
 | nil=>intro _ i' j'; show (none:Option (Nat × Nat))=_; split <;> rfl
 | cons p r ih =>
  obtain ⟨⟨a,b⟩,x⟩:=p
  intro h i' j'
  obtain ⟨h1,h2⟩:=h
  have h1:(Nat.ble off b && Nat.blt b (off+k))=true→a=i:=h1
  show lnk (bif Nat.ble off b && Nat.blt b (off+k) then lnCut off k r else ((a,b),x)::lnCut off k r) i' j'=_
  cases hc:(Nat.ble off b && Nat.blt b (off+k)) with
  | true =>
   have ha:=h1 hc
   rw [cond_true,ih h2,lnk_cons]
   simp only [Bool.and_eq_true] at hc
   have q1:=Nat.le_of_ble_eq_true hc.1
   have q2:b<off+k:=Nat.le_of_ble_eq_true hc.2
   by_cases q:i'=i∧off≤j'∧j'<off+k
   ·rw [if_pos q,if_pos q]
   ·rw [if_neg q,if_neg q]
    by_cases q3:a=i'∧b=j'
    ·exact absurd ⟨by omega,by omega,by omega⟩ q
    ·rw [if_neg q3]
  | false =>
   rw [cond_false,lnk_cons,lnk_cons,ih h2]
   by_cases q3:a=i'∧b=j'
   ·rw [if_pos q3,if_pos q3]
    have : ¬ (i'=i∧off≤j'∧j'<off+k):=fun q=>by
     obtain ⟨rfl,rfl⟩:=q3
     have e1:Nat.ble off b=true:=Nat.ble_eq_true_of_le q.2.1
     have e2:Nat.blt b (off+k)=true:=Nat.ble_eq_true_of_le q.2.2
     rw [e1,e2] at hc; cases hc
    rw [if_neg this]
   ·rw [if_neg q3,if_neg q3]
theorem ocells_ok {i:Nat} : ∀ {as:List AV} {off:Nat} {ts:List Tr} {ls:List ((Nat × Nat) × (Nat × Nat))},ocells i off as=some (ts,ls)→ts.length=as.length∧(∀ i' j',lnk ls i' j'≠none→i'=i∧off≤j'∧j'<off+as.length) ∧
  ∀ (k:Nat) (a:AV),as[k]? = some a→(∃ x,a = .tr (.v x)∧ts[k]? = some (.v x)∧lnk ls i (off+k)=none) ∨ ∃ h len,a = .sl h len∧lnk ls i (off+k)=some (h,len):=by
 intro as
 induction as with
 | nil =>
  intro off ts ls h
  cases h
  exact ⟨rfl,fun i' j' q=>absurd rfl q,fun k a q=>by simp at q⟩
 | cons a r ih =>
  intro off ts ls h
  unfold ocells at h
  split at h
  case h_2=>cases h
  rename_i t l ts' ls' e1 e2
  cases h
  obtain ⟨h1,h2,h3⟩:=ih e2
  have hz:lnk ls' i off=none:=by
   cases q:lnk ls' i off with
   | none=>rfl
   | some x=>have:=h2 i off (by rw [q]; simp); omega
  have hcons : ∀ {x},(match l with | some x=>((i,off),x)::ls' | none=>ls')=x→True:=fun _=>trivial
  cases l with
  | none =>
   refine ⟨by simp [h1],fun i' j' q => ?_,fun k b q => ?_⟩
   ·have:=h2 i' j' q; simp only [List.length_cons]; omega
   ·cases k with
    | zero =>
     simp at q; subst q
     unfold ocell at e1
     split at e1 <;> cases e1
     exact .inl ⟨_,rfl,rfl,hz⟩
    | succ k =>
     have:=h3 k b (by simpa using q)
     rw [show off+1+k=off+(k+1) by omega] at this
     simpa using this
  | some x =>
   refine ⟨by simp [h1],fun i' j' q => ?_,fun k b q => ?_⟩
   ·rw [lnk_cons] at q
    simp only [List.length_cons]
    by_cases q1:i=i'∧off=j'
    ·omega
    ·rw [if_neg q1] at q
     have:=h2 i' j' q; omega
   ·cases k with
    | zero =>
     simp at q; subst q
     unfold ocell at e1
     split at e1 <;> cases e1
     exact .inr ⟨_,_,rfl,by rw [lnk_cons,if_pos ⟨rfl,rfl⟩]⟩
    | succ k =>
     have:=h3 k b (by simpa using q)
     rw [show off+1+k=off+(k+1) by omega] at this
     rw [lnk_cons,if_neg (by omega)]
     simpa using this
theorem lnk_far {i off k:Nat} : ∀ {ln:List ((Nat × Nat) × (Nat × Nat))},lnFar i off k ln → ∀ i' j',lnk ln i' j'=if i'=i∧off≤j'∧j'<off+k then none else lnk ln i' j':=by
 intro ln
 induction ln with
 | nil=>intro _ i' j'; show (none:Option (Nat × Nat))=_; split <;> rfl
 | cons p r ih =>
  obtain ⟨⟨a,b⟩,x⟩:=p
  intro h i' j'
  obtain ⟨h1,h2⟩:=h
  have h1:(Nat.ble off b && Nat.blt b (off+k))=true→a≠i:=h1
  by_cases q:i'=i∧off≤j'∧j'<off+k
  ·have:=ih h2 i' j'
   rw [if_pos q] at this ⊢
   rw [lnk_cons,if_neg,this]
   rintro ⟨rfl,rfl⟩
   refine h1 ?_ q.1
   rw [Nat.ble_eq_true_of_le q.2.1,show Nat.blt b (off+k)=true from Nat.ble_eq_true_of_le q.2.2]; rfl
  ·rw [if_neg q]
theorem l_storeO (hT:TOk P T) {ty:TypeId} {x y:Operand} {a b:AV} (ho:o.op = .store ty x y) (hx:ev x=some a) (hy:ev y=some b) (h:astoreO T m ty b K a):LOk P o m nh ev K:=by
 have hrun : ∀ (ρ:Operand→Value) (w w':World) (u:Value),ρ x=u→(Instr.storeAt ty u (ρ y)).run P w = .ok () w'→(execOp ρ o).run P w = .ok .skip w':=fun ρ w w' u hu e=>by
  subst hu; simp [execOp,ho,e]
 unfold astoreO at h
 split at h
 case h_2=>exact l_store hT ho hx hy h
 rename_i hd n i off
 split at h
 case h_2=>exact l_store hT ho hx hy h
 rename_i n' B rows ln e2
 split at h
 case h_2=>exact h.elim
 rename_i ti as e1 e3
 split at h
 case h_2=>exact h.elim
 rename_i ts ls e4
 obtain ⟨ln2,hcut,rfl,c0,c1,c2,h⟩ : ∃ ln2,(∀ i' j',lnk ln2 i' j'=if i'=i∧off≤j'∧j'<off+as.length then none else lnk ln i' j')∧n=n'∧as.all AV.one=true∧as.length=ti.size∧i<rows.length ∧ ∀ row,rows[i]? = some row→off+as.length≤row.length ∧
   K .und [(hd,.own n' B rows ln)] [(hd,some (.own n' B (rows.set i (row.take off++ts++row.drop (off+ts.length))) (ls++ln2)))]:=by
  cases ln with
  | nil=>obtain ⟨q1,q2,q3,q4,_,q5⟩:=h; exact ⟨[],lnk_far trivial,q1,q2,q3,q4,q5⟩
  | cons p r =>
   rcases h with ⟨q1,q2,q3,q4,q6,q5⟩ | ⟨q1,q2,q3,q4,q6,q5⟩
   ·exact ⟨_,lnk_cut q6,q1,q2,q3,q4,q5⟩
   ·exact ⟨_,lnk_far q6,q1,q2,q3,q4,q5⟩
 obtain ⟨row,hrow⟩ : ∃ row,rows[i]? = some row:=⟨rows[i],by simp [c2]⟩
 obtain ⟨c3,h⟩:=h row hrow
 obtain ⟨o1,o2,o3⟩:=ocells_ok e4
 refine ⟨_,_,_,h,fun p hp=>by simp at hp; subst hp; exact e2,fun p hp => .inr ⟨(hd,.own n B rows ln),by simp,by simp at hp; rw [hp]⟩,fun g w m' ρ hm hn hrd hev => ?_⟩
 obtain ⟨lc,g1,hB,hn0,⟨_,hv⟩ | ⟨k,cap,cur,e,Fs,rfl,g3,g4,g5,g6,g7,g8,g9,g10⟩⟩:=hm.blk hd _ (hrd (hd,.own n B rows ln) (by simp))
 ·rw [hv] at c2; simp at c2
 obtain ⟨b',cap',q1,q2⟩:=(hev _ _ hx).vpt_inv g1
 cases q1
 have hcs:=(hev _ _ hy).cells e3 c0
 have hcz:=hcs.1
 have hrl:=g7 row (List.mem_of_getElem? hrow)
 have hsz:i*n+n≤cur.size:=by
  have:(i+1)*n≤cap*n:=Nat.mul_le_mul_right _ (by omega)
  rw [Nat.succ_mul] at this; omega
 have hr:=run_storeA (P:=P) hT e1 g3 (x:=ρ y) (o:=i*n+off) (by omega) (fun v hv=>by
   obtain ⟨j,hj⟩:=List.mem_iff_getElem?.1 hv
   have hj':j<as.length:=by have:=(List.getElem?_eq_some_iff.1 hj).1; simp at this; omega
   exact (hcs.2.2 j v as[j] (by simpa using hj) (by simp [hj'])).one (hcs.2.1 _ (by simp))) (by omega)
 have hk2:=setRow_heap w k cur (cur.toList.take (i*n+off)++(ρ y).cells.toList++cur.toList.drop (i*n+off+(ρ y).cells.size)).toArray e _ g3
 have hko:=fun j hj=>setRow_other w k j (cur.toList.take (i*n+off)++(ρ y).cells.toList++cur.toList.drop (i*n+off+(ρ y).cells.size)).toArray hj
 have hg:=grow_write (b:=k) (hm.xl hd k (.root g1 rfl)) (.root g1 rfl) (w:=w) (w':=w.setRow k (cur.toList.take (i*n+off)++(ρ y).cells.toList++cur.toList.drop (i*n+off+(ρ y).cells.size)).toArray) rfl rfl rfl (by simp) hko
 have hsz2:(w.setRow k (cur.toList.take (i*n+off)++(ρ y).cells.toList++cur.toList.drop (i*n+off+(ρ y).cells.size)).toArray).heap.size=w.heap.size:=by simp
 generalize w.setRow k (cur.toList.take (i*n+off)++(ρ y).cells.toList++cur.toList.drop (i*n+off+(ρ y).cells.size)).toArray=w2 at *
 refine ⟨g,_,.inr ⟨hrun ρ w _ _ q2 hr,rfl⟩,?_,hg,fun _ _ h=>h⟩
 refine mst_write hm g1 (.inl rfl) hg hsz2 hko ⟨by simpa using hB,hn0,.inr ⟨k,cap,_,e,Fs,rfl,hk2,by simpa using g4,g5,by simp; omega,fun r hr => ?_,g8,g9,fun i' j' row' t' c' r1 r2 r3 => ?_⟩⟩
 ·rcases List.mem_or_eq_of_mem_set hr with hr | rfl
  ·exact g7 r hr
  ·simp; omega
 have hold : ∀ {i' j' row0 t0},rows[i']? = some row0→row0[j']? = some t0→cur[i'*n+j']? = some c'→(lnk ln i' j'=none→RepO w2 (Fs i' j') c' t0) ∧ ∀ h len,lnk ln i' j'=some (h,len)→Rep g w2 c' (.sl h len):=fun {i' j' row0 t0} a1 a2 a3=>by
  obtain ⟨u1,u2⟩:=g10 i' j' row0 t0 c' a1 a2 a3
  exact ⟨fun q=>(u1 q).world fun b hb=>hko b (g8 i' j' b hb).2,fun h len q=>(u2 h len q).grow hg⟩
 have hlk : ∀ i' j',¬ (i'=i∧off≤j'∧j'<off+as.length)→lnk (ls++ln2) i' j'=lnk ln i' j':=fun i' j' q=>by
  have:lnk ls i' j'=none:=by
   cases e:lnk ls i' j' with
   | none=>rfl
   | some x=>exact absurd (o2 i' j' (by rw [e]; simp)) q
  rw [lnk_append,this,hcut,if_neg q]
 simp only [List.getElem?_toArray,List.append_assoc] at r3
 by_cases hi':i'=i
 ·subst hi'
  have hr':row'=row.take off++ts++row.drop (off+ts.length):=by
   rw [List.getElem?_set_self c2] at r1; exact (Option.some.inj r1).symm
  subst hr'
  rw [List.append_assoc] at r2
  have hjn:j'<n:=by
   have:=(List.getElem?_eq_some_iff.1 r2).1
   simp at this; omega
  by_cases k1:j'<off
  ·rw [List.getElem?_append_left (by rw [List.length_take]; omega),List.getElem?_take,if_pos k1] at r2
   rw [List.getElem?_append_left (by rw [List.length_take,Array.length_toList]; omega),List.getElem?_take,if_pos (by omega)] at r3
   rw [hlk i' j' (by omega)]
   exact hold hrow r2 (by simpa using r3)
  ·rw [List.getElem?_append_right (by rw [List.length_take]; omega),List.length_take,Nat.min_eq_left (by omega)] at r2
   rw [List.getElem?_append_right (by rw [List.length_take,Array.length_toList]; omega),List.length_take,Array.length_toList,Nat.min_eq_left (by omega),show i'*n+j' - (i'*n+off)=j' - off by omega] at r3
   by_cases k2:j' - off<as.length
   ·rw [List.getElem?_append_left (by omega)] at r2
    rw [List.getElem?_append_left (by rw [Array.length_toList]; omega)] at r3
    have ha:as[j' - off]? = some as[j' - off]:=by simp [k2]
    have hrep:=hcs.2.2 (j' - off) c' _ (by simpa using r3) ha
    rcases o3 (j' - off) _ ha with ⟨x1,a1,a2,a3⟩ | ⟨h1,len1,a1,a2⟩
    ·rw [show off+(j' - off)=j' by omega] at a3
     rw [a2] at r2; cases r2
     rw [a1] at hrep
     have hl:lnk (ls++ln2) i' j'=none:=by rw [lnk_append,a3,hcut,if_pos ⟨rfl,by omega,by omega⟩]
     rw [hl]
     refine ⟨fun _ => ?_,fun _ _ q=>(by cases q)⟩
     cases hrep.tr_inv with
     | v hx=>exact .v hx
    ·rw [show off+(j' - off)=j' by omega] at a2
     rw [a1] at hrep
     rw [lnk_append,a2]
     exact ⟨fun q=>(by cases q),fun _ _ q=>(by cases q; exact hrep.grow hg)⟩
   ·rw [List.getElem?_append_right (by omega),List.getElem?_drop] at r2
    rw [List.getElem?_append_right (by rw [Array.length_toList]; omega),List.getElem?_drop,Array.length_toList] at r3
    rw [hlk i' j' (by omega)]
    rw [show off+ts.length+(j' - off - ts.length)=j' by omega] at r2
    exact hold hrow r2 (by rw [← Array.getElem?_toList,← r3]; congr 1; omega)
 ·rw [List.getElem?_set_ne (fun q=>hi' q.symm)] at r1
  have hl':=g7 row' (List.mem_of_getElem? r1)
  have hjn:j'<n:=by rw [← hl']; exact (List.getElem?_eq_some_iff.1 r2).1
  rw [hlk i' j' (by omega)]
  refine hold r1 r2 ?_
  rcases Nat.lt_or_gt_of_ne hi' with q | q
  ·have:(i'+1)*n≤i*n:=Nat.mul_le_mul_right _ q
   rw [Nat.succ_mul] at this
   rw [List.getElem?_append_left (by rw [List.length_take,Array.length_toList]; omega),List.getElem?_take,if_pos (by omega)] at r3
   simpa using r3
  ·have:(i+1)*n≤i'*n:=Nat.mul_le_mul_right _ q
   rw [Nat.succ_mul] at this
   rw [List.getElem?_append_right (by rw [List.length_take,Array.length_toList]; omega),List.length_take,Array.length_toList,Nat.min_eq_left (by omega),List.getElem?_append_right (by rw [Array.length_toList]; omega),List.getElem?_drop,Array.length_toList] at r3
   rw [← Array.getElem?_toList,← r3]; congr 1; omega
theorem l_allocO (hT:TOk P T) {t:Nat} {i:TyI} (ho:o.op = .alloc t) (ht:lk T t=some i) (h1:1≤i.size) (hK:K (.vpt nh i.size 0 0) [] [(nh,some (.own i.size i.bytes [ztrs i.zero] []))]):LOk P o m nh ev K:=by
 refine ⟨_,_,_,hK,by simp,by simp,fun g w m' ρ hm hn hrd hev => ?_⟩
 obtain ⟨z,z1,z2,z3,z4⟩:=run_zero hT ht w
 have hby:=(hT t i ht).2
 have hp:Rep (gset g nh (.live (.row w.heap.size 1))) (w.alloc (.cells z.cells t)) (.pointer (some ⟨w.heap.size,0*i.size+0,none⟩)) (.vpt nh i.size 0 0) := .vpt (gset_same ..)
 rw [show 0*i.size+0=0 by omega] at hp
 refine LRes.new hm hn (.cells z.cells t) (.row w.heap.size 1) (fun b e=>by cases e; rfl) _ (.pointer (some ⟨w.heap.size,0,none⟩)) ?_ (fun F=>⟨by simp; omega,h1,.inr ⟨_,1,_,t,fun _ _ _=>False,rfl,heap_alloc_new w _,Nat.le_refl _,by decide,by rw [z2]; simp [z3],fun row hr => ?_,fun _ _ _ h=>h.elim,fun _ _ _ _ _ h=>h.elim,fun a b row t' c q1 q2 q3=>⟨fun _ => ?_,fun _ _ q=>by cases q⟩⟩⟩) hp
 ·simp [execOp,ho,Instr.alloc,z1,newVar,newRow]
 ·obtain rfl:=List.mem_singleton.1 hr
  simp [ztrs,z3]
 ·have ha:a=0:=by have:=(List.getElem?_eq_some_iff.1 q1).1; simp at this; exact this
  subst ha
  obtain rfl:ztrs i.zero=row:=by simpa using q1
  simp only [ztrs,List.getElem?_map,Option.map_eq_some_iff] at q2
  obtain ⟨y,y1,rfl⟩:=q2
  rw [z2] at q3
  simp only [Nat.zero_mul,Nat.zero_add,List.getElem?_toArray,List.getElem?_map,Option.map_eq_some_iff] at q3
  obtain ⟨y',y2,rfl⟩:=q3
  rw [y1] at y2; cases y2
  exact .v (good_zero y)
theorem l_boxO (hT:TOk P T) {t:Nat} {i:TyI} {x:Operand} {a:AV} {cs:List AV} {ts:List Tr} {ls:List ((Nat × Nat) × (Nat × Nat))} (ho:o.op = .box t x) (hx:ev x=some a) (hc:a.cells=some cs) (h1:cs.all AV.one=true) (ht:lk T t=some i) (hsz:1≤i.size) (hl:cs.length=i.size)
  (hoc:ocells 0 0 cs=some (ts,ls)) (hK:K (.vpt nh i.size 0 0) [] [(nh,some (.own i.size i.bytes [ts] ls))]):LOk P o m nh ev K:=by
 refine ⟨_,_,_,hK,by simp,by simp,fun g w m' ρ hm hn hrd hev => ?_⟩
 obtain ⟨o1,o2,o3⟩:=ocells_ok hoc
 have hby:=(hT t i ht).2
 have hg:=grow_alloc (w:=w) hm.xlt hn (.cells (ρ x).cells t) (l := .row w.heap.size 1) (fun b e=>by cases e; rfl)
 have hcs:=Rep.cells ((hev _ _ hx).grow hg) hc h1
 have hp:Rep (gset g nh (.live (.row w.heap.size 1))) (w.alloc (.cells (ρ x).cells t)) (.pointer (some ⟨w.heap.size,0*i.size+0,none⟩)) (.vpt nh i.size 0 0) := .vpt (gset_same ..)
 rw [show 0*i.size+0=0 by omega] at hp
 refine LRes.new hm hn (.cells (ρ x).cells t) (.row w.heap.size 1) (fun b e=>by cases e; rfl) _ (.pointer (some ⟨w.heap.size,0,none⟩)) ?_ (fun F=>⟨by simp; omega,hsz,.inr ⟨_,1,_,t,fun _ _ _=>False,rfl,heap_alloc_new w _,Nat.le_refl _,by decide,by rw [hcs.1,hl,Nat.one_mul],fun row hr => ?_,fun _ _ _ h=>h.elim,fun _ _ _ _ _ h=>h.elim,fun a b row t' c q1 q2 q3 => ?_⟩⟩) hp
 ·simp [execOp,ho,Instr.box,newVar,newRow]
 ·obtain rfl:=List.mem_singleton.1 hr
  omega
 ·have ha:a=0:=by have:=(List.getElem?_eq_some_iff.1 q1).1; simp at this; exact this
  subst ha
  obtain rfl:ts=row:=by simpa using q1
  have hb:b<cs.length:=by rw [← o1]; exact (List.getElem?_eq_some_iff.1 q2).1
  have hcb:cs[b]? = some cs[b]:=by simp [hb]
  rw [Nat.zero_mul,Nat.zero_add] at q3
  have hrep:=hcs.2.2 b c _ q3 hcb
  rcases o3 b _ hcb with ⟨y,a1,a2,a3⟩ | ⟨h',len,a1,a2⟩
  ·rw [Nat.zero_add] at a3
   rw [a2] at q2; cases q2
   rw [a1] at hrep
   refine ⟨fun _ => ?_,fun _ _ q=>(by rw [a3] at q; cases q)⟩
   cases hrep.tr_inv with
   | v hx=>exact .v hx
  ·rw [Nat.zero_add] at a2
   rw [a1] at hrep
   exact ⟨fun q=>(by rw [a2] at q; cases q),fun _ _ q=>(by rw [a2] at q; cases q; exact hrep)⟩
theorem l_indexAddrO (hT:TOk P T) {ty:Nat} {x i:Operand} {a:AV} {k:IntKind} {z:Int} (ho:o.op = .indexAddr ty x i) (hx:ev x=some a) (hi:ev i=some (.tr (.v (.int k z)))) (h:aindexAddrO T m ty z K a):LOk P o m nh ev K:=by
 unfold aindexAddrO at h
 split at h
 case h_4=>exact l_indexAddr hT ho hx hi h
 case h_3 =>
  rename_i hd n q off
  split at h
  case h_2=>exact h.elim
  rename_i k' e s1 s2 s3 s4 bk e1 em
  split at h
  case h_2=>exact h.elim
  rename_i te e2
  obtain ⟨h0,h1,h⟩:=h
  refine LOk.pure _ _ h (by simpa using em) fun g w m' ρ hm hrd hev => ?_
  obtain ⟨u,u1,u2,_⟩:=run_und hT e1 w
  obtain rfl:=D_array u2
  obtain ⟨hz,_⟩:=int_inv (hev _ _ hi)
  obtain ⟨l,g1,g2⟩:=hm.blk hd _ (hrd (hd,bk) (by simp))
  have hr:=hev _ _ hx
  generalize hv:ρ x=v at hr
  cases hr with
  | vptD e=>rw [g1] at e; cases e
  | vpt e =>
   refine ⟨_,?_,.vpt e⟩
   simp [execOp,ho,hv,hz,Instr.indexAt,asIntOf,u1,h0,h1,run_size hT e2,add_mk,Instr.sureAddr,Nat.add_assoc]
 case h_2 =>
  rename_i q hd off
  split at h
  case h_2=>exact h.elim
  rename_i e s1 s2 s3 s4 bk e1 em
  split at h
  case h_2=>exact h.elim
  rename_i te e2
  cases hc:(Nat.ble (2*HMod) q && Nat.beq te.size 1) with
  | false=>rw [hc] at h; exact h.elim
  | true =>
   rw [hc,cond_true] at h
   rw [Bool.and_eq_true] at hc
   have hq:=Nat.le_of_ble_eq_true hc.1
   have hq2:=Nat.eq_of_beq_eq_true hc.2
   obtain ⟨h0,h1,h⟩:=h
   refine LOk.pure _ _ h (by simpa using em) fun g w m' ρ hm hrd hev => ?_
   obtain ⟨u,u1,u2,_⟩:=run_und hT e1 w
   obtain rfl:=D_slice u2
   obtain ⟨hz,_⟩:=int_inv (hev _ _ hi)
   obtain ⟨l,g1,g2⟩:=hm.blk hd _ (hrd (hd,bk) (by simp))
   have hr:=hev _ _ hx
   generalize hv:ρ x=v at hr
   cases hr with
   | ifc h1 _=>omega
   | bnd h1 _=>omega
   | psl hp =>
    rename_i len b
    generalize hpv:Value.pointer (some ⟨b,0,none⟩)=pv at hp
    cases hp with
    | ptrD e=>rw [g1] at e; cases e
    | ptr e =>
     cases hpv
     refine ⟨.pointer (some ⟨b,0+z.toNat*te.size,none⟩),?_,?_⟩
     ·have h2:z<len:=by omega
      simp [execOp,ho,hv,hz,Instr.indexAt,asIntOf,u1,h0,h2,run_size hT e2,add_mk]
     ·rw [hq2,Nat.mul_one]; exact .ptr e
 rename_i hd len
 split at h
 case h_2=>exact l_indexAddr hT ho hx hi h
 rename_i n B rows ln em
 split at h
 case h_2=>exact h.elim
 rename_i e s1 s2 s3 s4 e1
 split at h
 case h_2=>exact h.elim
 rename_i te e2
 obtain ⟨hn,h0,h1,h⟩:=h
 refine LOk.pure _ _ h (by simpa using em) fun g w m' ρ hm hrd hev => ?_
 obtain ⟨u,u1,u2,_⟩:=run_und hT e1 w
 obtain rfl:=D_slice u2
 obtain ⟨hz,_⟩:=int_inv (hev _ _ hi)
 obtain ⟨l,g1,g2⟩:=hm.blk hd _ (hrd (hd,.own n B rows ln) (by simp))
 rcases (hev _ _ hx).sl_inv g1 with ⟨b,cap,rfl,hle,hv⟩ | ⟨rfl,rfl,hv⟩
 ·refine ⟨.pointer (some ⟨b,z.toNat*n+0,none⟩),?_,.vpt g1⟩
  simp [execOp,ho,hv,hz,Instr.indexAt,asIntOf,u1,h0,h1,run_size hT e2,hn,add_mk]
 ·omega
end
end Go.Proofs.YtbflekglkkdipaaGreatDoor.am
namespace Go.Proofs.YtbflekglkkdipaaGreatDoor.am
open Go
set_option linter.unusedSimpArgs false
def cellOO (g:Gh) (w:World) (ln:List ((Nat × Nat) × (Nat × Nat))) (i j:Nat) (t:Tr) (c:Value):Prop :=
 (lnk ln i j=none → ∃ x,t = .v x∧c=x∧good x) ∧ ∀ h len,lnk ln i j=some (h,len)→Rep g w c (.sl h len)
theorem rowsOO_ok {g:Gh} {w:World} {ρ:Operand→Value} {ev:Operand→Option AV} {size:Nat} (hev : ∀ x b,ev x=some b→Rep g w (ρ x) b) : ∀ (ps:List (Nat × Operand)) (k:Nat) (rows:List (List Tr)) (ln:List ((Nat × Nat) × (Nat × Nat))),rowsOO size k (ps.map fun p=>(p.1,ev p.2))=some (rows,ln) →
  vals ρ ps=((ps.map fun p=>ρ p.2).zipIdx k).map (fun x=>(x.2,x.1))∧rows.length=ps.length∧(∀ v ∈ ps.map (fun p=>ρ p.2),v.cells.size=size)∧(∀ r ∈ rows,r.length=size)∧(∀ i j,lnk ln i j≠none→k≤i) ∧
   ∀ (i j:Nat) (row:List Tr) (t:Tr) (c:Value),rows[i]? = some row→row[j]? = some t→((ps.map fun p=>ρ p.2).flatMap fun v=>v.cells.toList)[i*size+j]? = some c→cellOO g w ln (k+i) j t c
 | [],k,rows,ln,h=>by cases h; exact ⟨rfl,rfl,by simp,by simp,fun i j q=>absurd rfl q,fun i j row t c h=>by simp at h⟩
 | (i,x)::ps,k,rows,ln,h=>by
  simp only [List.map_cons] at h
  unfold rowsOO at h
  cases hb:Nat.beq i k with
  | false=>rw [hb] at h; cases h
  | true =>
   rw [hb,cond_true] at h
   have hik:=Nat.eq_of_beq_eq_true hb
   subst hik
   split at h
   case h_2=>cases h
   rename_i a e1
   split at h
   case h_2=>cases h
   rename_i as e2
   cases hb2:(Nat.beq as.length size && as.all AV.one) with
   | false=>rw [hb2] at h; cases h
   | true =>
    rw [hb2,cond_true] at h
    simp only [Bool.and_eq_true] at hb2
    have hcs:=Nat.eq_of_beq_eq_true hb2.1
    split at h
    case h_2=>cases h
    rename_i ts ls rows' ln' e3 e4
    cases h
    obtain ⟨h1,h2,h3,h4,h5,h6⟩:=rowsOO_ok hev ps _ rows' ln' e4
    obtain ⟨o1,o2,o3⟩:=ocells_ok e3
    have hC:=(hev x a e1).cells e2 hb2.2
    have hCz:=hC.1
    refine ⟨?_,by simp [h2],fun v hv => ?_,fun r hr => ?_,fun i' j' q => ?_,fun i' j row t c r1 r2 r3 => ?_⟩
    ·show (i,ρ x)::vals ρ ps=_
     rw [h1]; rfl
    ·simp only [List.map_cons,List.mem_cons] at hv
     rcases hv with rfl | hv
     ·omega
     ·exact h3 v hv
    ·simp only [List.mem_cons] at hr
     rcases hr with rfl | hr
     ·omega
     ·exact h4 r hr
    ·rw [lnk_append] at q
     cases e:lnk ls i' j' with
     | some y=>have:=o2 i' j' (by rw [e]; simp); omega
     | none=>rw [e] at q; have:=h5 i' j' q; omega
    ·simp only [List.map_cons,List.flatMap_cons] at r3
     unfold cellOO
     cases i' with
     | zero =>
      simp at r1; subst r1
      have hjl:j<as.length:=by rw [← o1]; exact (List.getElem?_eq_some_iff.1 r2).1
      rw [Nat.zero_mul,Nat.zero_add,List.getElem?_append_left (by rw [Array.length_toList]; omega)] at r3
      have hln':lnk ln' i j=none:=by
       cases e:lnk ln' i j with
       | none=>rfl
       | some y=>have:=h5 i j (by rw [e]; simp); omega
      have ha:as[j]? = some as[j]:=by simp [hjl]
      have hrep:=hC.2.2 j c _ (by simpa using r3) ha
      rw [Nat.add_zero,lnk_append]
      rcases o3 j _ ha with ⟨y,a1,a2,a3⟩ | ⟨hh,len,a1,a2⟩
      ·rw [Nat.zero_add] at a3
       rw [a3]
       rw [a2] at r2; cases r2
       rw [a1] at hrep
       refine ⟨fun _=>⟨y,rfl,?_⟩,fun hh len q => ?_⟩
       ·exact val_inv hrep
       ·simp only [hln'] at q; cases q
      ·rw [Nat.zero_add] at a2
       rw [a2]
       rw [a1] at hrep
       exact ⟨fun q=>(by cases q),fun _ _ q=>(by cases q; exact hrep)⟩
     | succ i' =>
      rw [List.getElem?_append_right (by rw [Array.length_toList,Nat.succ_mul]; omega),Array.length_toList,show (i'+1)*size+j - (ρ x).cells.size=i'*size+j by rw [Nat.succ_mul]; omega] at r3
      have:=h6 i' j row t c (by simpa using r1) r2 r3
      have hls:lnk ls (i+(i'+1)) j=none:=by
       cases e:lnk ls (i+(i'+1)) j with
       | none=>rfl
       | some y=>have:=o2 _ j (by rw [e]; simp); omega
      rw [lnk_append,hls]
      rw [show i+1+i'=i+(i'+1) by omega] at this
      exact this
section
variable {P:Program} {T:Ty} {o:Oper} {m:Mem} {nh:Nat} {ev:Operand→Option AV} {K:KK}
theorem ptrsOf_ok {g:Gh} {w:World} {ρ:Operand→Value} (hev : ∀ x b,ev x=some b→Rep g w (ρ x) b) : ∀ (ps:List (Nat × Operand)) (k:Nat) (l:List AV),ptrsOf k (ps.map fun p=>(p.1,ev p.2))=some l →
  vals ρ ps=((ps.map fun p=>ρ p.2).zipIdx k).map (fun x=>(x.2,x.1))∧l.length=ps.length∧(∀ v ∈ ps.map (fun p=>ρ p.2),v.cells = #[v])∧(∀ a ∈ l,a.one=true) ∧
   ∀ (i:Nat) (c:Value) (a:AV),(ps.map fun p=>ρ p.2)[i]? = some c→l[i]? = some a→Rep g w c a
 | [],k,l,h=>by cases h; exact ⟨rfl,rfl,by simp,by simp,fun i c a h=>by simp at h⟩
 | (i,x)::ps,k,l,h=>by
  simp only [List.map_cons] at h
  unfold ptrsOf at h
  cases hb:Nat.beq i k with
  | false=>rw [hb] at h; cases h
  | true =>
   rw [hb,cond_true] at h
   have hik:=Nat.eq_of_beq_eq_true hb
   subst hik
   have key : ∀ (av:AV) (l':List AV),ev x=some av→ptrsOf (i+1) (ps.map fun p=>(p.1,ev p.2))=some l'→l=av::l'→av.one=true→(ρ x).cells = #[ρ x] →
     vals ρ ((i,x)::ps)=((((i,x)::ps).map fun p=>ρ p.2).zipIdx i).map (fun x=>(x.2,x.1))∧l.length=((i,x)::ps).length∧(∀ v ∈ ((i,x)::ps).map (fun p=>ρ p.2),v.cells = #[v])∧(∀ a ∈ l,a.one=true) ∧
     ∀ (j:Nat) (c:Value) (a:AV),(((i,x)::ps).map fun p=>ρ p.2)[j]? = some c→l[j]? = some a→Rep g w c a:=fun av l' e1 e3 hl h1o hc=>by
    subst hl
    obtain ⟨h1,h2,h3,h4,h5⟩:=ptrsOf_ok hev ps _ l' e3
    refine ⟨?_,by simp [h2],fun v hv => ?_,fun a ha => ?_,fun j c a e1 e2 => ?_⟩
    ·show (i,ρ x)::vals ρ ps=_
     rw [h1]; rfl
    ·simp only [List.map_cons,List.mem_cons] at hv
     rcases hv with rfl | hv
     ·exact hc
     ·exact h3 v hv
    ·simp only [List.mem_cons] at ha
     rcases ha with rfl | ha
     ·exact h1o
     ·exact h4 a ha
    ·cases j with
     | zero=>simp at e1 e2; subst e1; subst e2; exact hev x _ (by assumption)
     | succ j=>exact h5 j c a (by simpa using e1) (by simpa using e2)
   split at h
   case h_4=>cases h
   case h_3 =>
    rename_i a _ _ e1
    cases ho:a.one with
    | false=>rw [ho] at h; cases h
    | true =>
     rw [ho,cond_true] at h
     split at h
     case h_2=>cases h
     rename_i l' e3
     cases h
     refine key _ l' e1 e3 rfl ho ?_
     have:=(hev x _ e1).one ho
     generalize ρ x=v at this
     cases v <;> first | rfl | cases this
   case h_1 =>
    rename_i hd off e1
    split at h
    case h_2=>cases h
    rename_i l' e3
    cases h
    refine key _ l' e1 e3 rfl rfl ?_
    have hr:=hev x _ e1
    generalize hv:ρ x=v at hr
    have:=hr.one rfl
    cases hr with
    | ptr=>rfl
    | ptrD _ h1=>cases v <;> first | rfl | cases h1
   case h_2 =>
    rename_i fd cs e1
    split at h
    case h_2=>cases h
    rename_i l' e3
    cases h
    refine key _ l' e1 e3 rfl rfl ?_
    have hr:=hev x _ e1
    generalize hv:ρ x=v at hr
    cases hr with
    | fn=>rfl
theorem flat_one : ∀ (l:List Value),(∀ v ∈ l,v.cells = #[v])→(l.flatMap fun v=>v.cells.toList)=l
 | [],_=>rfl
 | v::l,h=>by
  rw [List.flatMap_cons,h v (by simp),flat_one l fun x hx=>h x (by simp [hx])]
  rfl
theorem l_buildSliceP (hT:TOk P T) {t e len:Nat} {te:TyI} {ps:Array (Nat × Operand)} {a b:Nat} {z:List Z} {q:Bool} {l:List AV} (ho:o.op = .buildSlice t len ps) (ht:lk T t=some ⟨.slice e,a,b,z,q⟩) (he:lk T e=some te)
  (hr:ptrsOf 0 (parts ev ps)=some l) (hl:l.length=len) (h1:te.size=1) (h2:len≤16777216) (h3:len*te.bytes≤140737488351232) (h0:1≤len) (hK:K (.ifc (2*HMod+len) (.ptr nh 0)) [] [(nh,some (.cells e l))]):LOk P o m nh ev K:=by
 refine ⟨_,_,_,hK,by simp,by simp,fun g w m' ρ hm hn hrd hev => ?_⟩
 obtain ⟨ti,u,zt,_,u2,u3,_⟩:=hT.info ht
 obtain rfl:=D_slice u3
 obtain ⟨ti',u',z',i1,_,_,i4,_,i6,i7,i8⟩:=hT.info he
 obtain ⟨q1,q2,q3,q4,q5⟩:=ptrsOf_ok hev ps.toList 0 l hr
 have e1:(Array.map (fun x=>(x.fst,ρ x.snd)) ps).toList=vals ρ ps.toList:=by simp [vals]
 have hz:=(zcells_cells i7).1
 have hfl:=Great.fill_whole (s:=te.size) (by omega) (ps.toList.map fun p=>ρ p.2) ((Array.range (len*te.size)).map (z'.cells[· % z'.cells.size]!)) (fun v hv=>by rw [q3 v hv,h1]; rfl) (by simp; rw [← hl,q2]; simp)
 have hrun:=run_buildSlice (P:=P) w t e len (Array.map (fun x=>(x.fst,ρ x.snd)) ps) _ ti' z' u2 i1 i6 (by rw [i4,h1]; omega) (by rw [i4,h1]; omega) (by rw [i4,e1,q1]; exact hfl)
 rw [flat_one _ q3] at hrun
 have hloc : ∀ b,Loc.b (.blk w.heap.size)=some b→b=w.heap.size:=fun b e=>by cases e; rfl
 have hg:=grow_alloc (w:=w) hm.xlt hn (.cells (ps.toList.map fun p=>ρ p.2).toArray e) hloc
 refine LRes.new hm hn (.cells (ps.toList.map fun p=>ρ p.2).toArray e) (.blk w.heap.size) hloc _ (.slice (some ⟨w.heap.size,0,none⟩) len len) ?_ (fun _=>⟨_,_,rfl,heap_alloc_new w _,by simpa using q2.symm,q4,fun i c a e1 e2 => ?_⟩) (.psl (.ptr (gset_same ..)))
 ·simp only [execOp,ho,Sem.run_bind,hrun,Result.andThen_ok]
  rfl
 ·exact (q5 i c a (by simpa using e1) e2).grow hg
theorem l_buildSliceO (hT:TOk P T) {t e len:Nat} {te:TyI} {ps:Array (Nat × Operand)} {a b:Nat} {z:List Z} {q:Bool} {rows:List (List Tr)} {ln:List ((Nat × Nat) × (Nat × Nat))} (ho:o.op = .buildSlice t len ps) (ht:lk T t=some ⟨.slice e,a,b,z,q⟩) (he:lk T e=some te)
  (hr:rowsOO te.size 0 (parts ev ps)=some (rows,ln)) (hl:rows.length=len) (h1:1≤te.size) (h2:len*te.size≤16777216) (h3:len*te.bytes≤140737488351232) (h0:1≤len) (hK:K (.sl nh len) [] [(nh,some (.own te.size te.bytes rows ln))]):LOk P o m nh ev K:=by
 refine ⟨_,_,_,hK,by simp,by simp,fun g w m' ρ hm hn hrd hev => ?_⟩
 obtain ⟨ti,u,zt,_,u2,u3,_⟩:=hT.info ht
 obtain rfl:=D_slice u3
 obtain ⟨ti',u',z',i1,_,_,i4,_,i6,i7,i8⟩:=hT.info he
 obtain ⟨q1,q2,q3,q4,_,q5⟩:=rowsOO_ok hev ps.toList 0 rows ln hr
 have e1:(Array.map (fun x=>(x.fst,ρ x.snd)) ps).toList=vals ρ ps.toList:=by simp [vals]
 have hpos:0<len*te.size:=Nat.mul_pos (by omega) (by omega)
 have hz:=(zcells_cells i7).1
 have hfl:=Great.fill_whole (s:=te.size) (by omega) (ps.toList.map fun p=>ρ p.2) ((Array.range (len*te.size)).map (z'.cells[· % z'.cells.size]!)) q3 (by simp; rw [← hl,q2]; simp)
 have hrun:=run_buildSlice (P:=P) w t e len (Array.map (fun x=>(x.fst,ρ x.snd)) ps) _ ti' z' u2 i1 i6 (by rw [i4]; omega) (by rw [i4]; omega) (by rw [i4,e1,q1]; exact hfl)
 have hloc : ∀ b,Loc.b (.row w.heap.size len)=some b→b=w.heap.size:=fun b e=>by cases e; rfl
 have hg:=grow_alloc (w:=w) hm.xlt hn (.cells ((ps.toList.map fun p=>ρ p.2).flatMap fun v=>v.cells.toList).toArray e) hloc
 have hm63:len≤9223372036854775807:=by
  have:len*1≤len*te.size:=Nat.mul_le_mul_left _ h1
  omega
 have hsz:((ps.toList.map fun p=>ρ p.2).flatMap fun v=>v.cells.toList).length=len*te.size:=by
  have : ∀ (l:List Value),(∀ v ∈ l,v.cells.size=te.size)→(l.flatMap fun v=>v.cells.toList).length=l.length*te.size:=by
   intro l hl
   induction l with
   | nil=>simp
   | cons v l ih=>rw [List.flatMap_cons,List.length_append,Array.length_toList,hl v (by simp),ih (fun v hv=>hl v (by simp [hv])),List.length_cons,Nat.succ_mul]; omega
  rw [this _ q3,← hl,q2]; simp
 generalize ((ps.toList.map fun p=>ρ p.2).flatMap fun v=>v.cells.toList)=cl at *
 refine LRes.new hm hn (.cells cl.toArray e) (.row w.heap.size len) hloc _ (.slice (some ⟨w.heap.size,0,none⟩) len len) ?_ (fun _=>⟨by rw [hl]; omega,by omega,.inr ⟨_,len,cl.toArray,e,fun _ _ _=>False,rfl,heap_alloc_new w _,by omega,hm63,by simpa using hsz,q4,fun _ _ _ h=>h.elim,fun _ _ _ _ _ h=>h.elim,fun i j row t c r1 r2 r3 => ?_⟩⟩) (.sl (gset_same ..) (Nat.le_refl _))
 ·simp only [execOp,ho,Sem.run_bind,hrun,Result.andThen_ok]
  rfl
 ·obtain ⟨c1,c2⟩:=q5 i j row t c r1 r2 (by simpa using r3)
  rw [Nat.zero_add] at c1 c2
  exact ⟨fun q=>by obtain ⟨x,rfl,rfl,hx⟩:=c1 q; exact .v hx,fun h len q=>(c2 h len q).grow hg⟩
end
end Go.Proofs.YtbflekglkkdipaaGreatDoor.am
