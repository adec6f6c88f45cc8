/- The abstract machine: what a row reads of its arguments are trees. -/
import Derived.Test.YtbflekglkkdipaaGreatDoorW5
import Derived.ProofKit
import Derived.OpenShut
import Derived.Carry
set_option linter.all false
namespace Go.Proofs.YtbflekglkkdipaaGreatDoor.am
open Go Go.RowKit Go.ChangeShapes Go.WideShapes Go.ChangeAt
set_option linter.unusedSimpArgs false
mutual
inductive Fits (P:Program):Nat→List Tr→Prop
 | bool {t:Nat} (b:Bool):P.underlying t=some .bool→Fits P t [.v (.bool b)]
 | int {t:Nat} {k:IntKind} (n:Int):P.underlying t=some (.int k)→Fits P t [.v (.int k n)]
 | str {t:Nat} (s:ByteArray):P.underlying t=some .string→Fits P t [.v (.string s)]
 | slice {t e:Nat} (rows:List (List Tr)):P.underlying t=some (.slice e)→FitsR P e rows→Fits P t [.lst (P.cellsOf e) (P.bytesOf e) rows]
 | struct {t:Nat} {fs:Array Field} (l:List Tr):P.underlying t=some (.struct fs)→FitsL P (fs.toList.map (·.type)) l→Fits P t l
inductive FitsR (P:Program):Nat→List (List Tr)→Prop
 | nil {e:Nat}:FitsR P e []
 | cons {e:Nat} {r:List Tr} {rows:List (List Tr)}:Fits P e r→FitsR P e rows→FitsR P e (r::rows)
inductive FitsL (P:Program):List Nat→List Tr→Prop
 | nil:FitsL P [] []
 | cons {t:Nat} {ts:List Nat} {a b:List Tr}:Fits P t a→FitsL P ts b→FitsL P (t::ts) (a++b)
end
def layB (P:Program):List Field→Nat→Nat→Bool
 | [],o,n=>Nat.beq o n
 | f::fs,o,n=>Nat.beq f.offset o && layB P fs (o+P.cellsOf f.type) n
def closedB (P:Program) (S:List Nat):Bool:=S.all fun t=>Nat.blt 0 (P.cellsOf t) && match P.underlying t with
 | some .bool | some (.int _) | some .string=>Nat.beq (P.cellsOf t) 1
 | some (.slice e)=>Nat.beq (P.cellsOf t) 1 && S.contains e
 | some (.struct fs)=>layB P fs.toList 0 (P.cellsOf t) && fs.toList.all fun f=>S.contains f.type
 | _=>false
section
variable {P:Program} {H:Type} {enc:TypeId × Value→H} {w:World} {ok:Nat→Prop}
theorem lit_good {k:IntKind} {n:Int} (h:(Lit.int k n).wf=true):good (.int k n):=by
 simpa [Lit.wf,good] using h
def RepL (ok:Nat→Prop) (w:World) (cs:List Value) (trs:List Tr):Prop:=cs.length=trs.length ∧ ∀ (i:Nat) (c:Value) (t:Tr),cs[i]? = some c→trs[i]? = some t→RepT ok w c t
theorem RepL.one {c:Value} {t:Tr} (h:RepT ok w c t):RepL ok w [c] [t]:=⟨rfl,fun i c' t' h1 h2=>by
 cases i with
 | zero=>simp at h1 h2; subst h1; subst h2; exact h
 | succ i=>simp at h1⟩
theorem RepL.append {a b:List Value} {x y:List Tr} (h1:RepL ok w a x) (h2:RepL ok w b y):RepL ok w (a++b) (x++y):=by
 refine ⟨by simp [h1.1,h2.1],fun i c t e1 e2 => ?_⟩
 by_cases hi:i<a.length
 ·rw [List.getElem?_append_left hi] at e1
  rw [List.getElem?_append_left (by rw [← h1.1]; exact hi)] at e2
  exact h1.2 i c t e1 e2
 ·rw [List.getElem?_append_right (by omega)] at e1
  rw [List.getElem?_append_right (by rw [← h1.1]; omega),← h1.1] at e2
  exact h2.2 _ c t e1 e2
theorem all_app {l l':List Nat} (h:(l++l').all (· ≤ reachBytes)=true):l.all (· ≤ reachBytes)=true∧l'.all (· ≤ reachBytes)=true:=by
 rw [List.all_append,Bool.and_eq_true] at h; exact h
theorem lit_reach:reachBytes=140737488351232:=by decide
theorem read_fields {S:List Nat} {fuel:Nat} (ih : ∀ t cs d ps,t ∈ S→DataW.trod enc P w 0 (fun _=>true) true fuel t cs=some (d,ps)→(d.weights P t).all (· ≤ reachBytes)=true→(∀ x ∈ ps,x.block<w.heap.size) → ∃ trs,Fits P t trs∧RepL ok w cs trs) (cs:List Value) :
  ∀ (fs:List Field) (xs:List (DataW H × List MemPlace)) (o n:Nat),cs.length=n→xs.length=fs.length→layB P fs o n=true→(∀ f ∈ fs,f.type ∈ S)→o≤n →
  (∀ (i:Nat) (f:Field),fs[i]? = some f→DataW.trod enc P w 0 (fun _=>true) true fuel f.type ((cs.drop f.offset).take (P.cellsOf f.type))=xs[i]?) →
  (DataW.weightsEach P (fs.map (·.type)) (xs.map (·.1))).all (· ≤ reachBytes)=true→(∀ x ∈ xs.flatMap (·.2),x.block<w.heap.size) → ∃ trs,FitsL P (fs.map (·.type)) trs∧RepL ok w (cs.drop o) trs:=by
 intro fs
 induction fs with
 | nil =>
  intro xs o n hn hx hl _ _ _ _ _
  have:o=n:=Nat.eq_of_beq_eq_true hl
  refine ⟨[],.nil,?_⟩
  rw [List.drop_of_length_le (by omega)]
  exact ⟨rfl,fun i c t h=>by simp at h⟩
 | cons f fs ihf =>
  intro xs o n hn hx hl hS ho hf hw hp
  cases xs with
  | nil=>simp at hx
  | cons x xs =>
   unfold layB at hl
   simp only [Bool.and_eq_true] at hl
   have hfo:f.offset=o:=Nat.eq_of_beq_eq_true hl.1
   have h0:=hf 0 f rfl
   simp only [List.getElem?_cons_zero] at h0
   obtain ⟨hw1,hw2⟩:=all_app (by simpa [DataW.weightsEach] using hw:(x.1.weights P f.type++DataW.weightsEach P (fs.map (·.type)) (xs.map (·.1))).all (· ≤ reachBytes)=true)
   have hle:o+P.cellsOf f.type≤n:=by
    have key : ∀ (fs:List Field) (a:Nat),layB P fs a n=true→a≤n:=by
     intro fs
     induction fs with
     | nil=>intro a h; have:a=n:=Nat.eq_of_beq_eq_true h; omega
     | cons g gs ihg=>intro a h; unfold layB at h; simp only [Bool.and_eq_true] at h; have:=ihg _ h.2; omega
    exact key fs _ hl.2
   obtain ⟨t1,q1,q2⟩:=ih f.type _ x.1 x.2 (hS f (by simp)) (by rw [h0]) hw1 (fun y hy=>hp y (by simp [hy]))
   obtain ⟨t2,q3,q4⟩:=ihf xs (o+P.cellsOf f.type) n hn (by simpa using hx) hl.2 (fun g hg=>hS g (by simp [hg])) hle (fun i g hg=>by have:=hf (i+1) g (by simpa using hg); simpa using this) hw2 (fun y hy=>hp y (by simp at hy ⊢; exact .inr hy))
   refine ⟨t1++t2,.cons q1 q3,?_⟩
   have:cs.drop o=(cs.drop f.offset).take (P.cellsOf f.type)++cs.drop (o+P.cellsOf f.type):=by
    rw [hfo,← List.drop_drop,List.take_append_drop]
   rw [this]
   exact q2.append q4
theorem fitsR_map {e:Nat} {rows:List (List Tr)} (h : ∀ r ∈ rows,Fits P e r):FitsR P e rows:=by
 induction rows with
 | nil=>exact .nil
 | cons r rows ih=>exact .cons (h r (by simp)) (ih fun r hr=>h r (by simp [hr]))
theorem weights_mem {e:Nat} {l:List (DataW H)} (h:(DataW.weightsAll P e l).all (· ≤ reachBytes)=true) : ∀ d ∈ l,(d.weights P e).all (· ≤ reachBytes)=true:=by
 induction l with
 | nil=>intro d hd; simp at hd
 | cons x l ih =>
  unfold DataW.weightsAll at h
  obtain ⟨h1,h2⟩:=all_app h
  intro d hd
  simp only [List.mem_cons] at hd
  rcases hd with rfl | hd
  ·exact h1
  ·exact ih h2 d hd
theorem read {S:List Nat} (hS:closedB P S=true) (hok : ∀ b,b<w.heap.size→ok b) : ∀ (fuel:Nat) (t:Nat) (cs:List Value) (d:DataW H) (ps:List MemPlace),t ∈ S→DataW.trod enc P w 0 (fun _=>true) true fuel t cs=some (d,ps) →
  (d.weights P t).all (· ≤ reachBytes)=true→(∀ x ∈ ps,x.block<w.heap.size) → ∃ trs,Fits P t trs∧RepL ok w cs trs:=by
 intro fuel
 induction fuel with
 | zero=>intro t cs d ps _ h; simp [DataW.trod] at h
 | succ fuel ih =>
  intro t cs d ps ht h hw hp
  have hc:=List.all_eq_true.1 hS t ht
  simp only [Bool.and_eq_true] at hc
  obtain ⟨hpos,hc⟩:=hc
  cases hu:P.underlying t with
  | none=>rw [hu] at hc; cases hc
  | some u =>
   rw [hu] at hc
   cases u with
   | bool =>
    obtain ⟨b,rfl,_⟩:=DataW.trod_bool hu h
    exact ⟨_,.bool b hu,.one (.v trivial)⟩
   | int k =>
    obtain ⟨n,rfl,_,hwf⟩:=DataW.trod_int hu h
    exact ⟨_,.int n hu,.one (.v (lit_good hwf))⟩
   | string =>
    obtain ⟨s,rfl,_,hs⟩:=DataW.trod_string hu h
    exact ⟨_,.str s hu,.one (.v (by unfold maxLen at hs; exact hs))⟩
   | slice e =>
    simp only [Bool.and_eq_true] at hc
    have he:e ∈ S:=List.contains_iff_mem.1 hc.2
    have hce:=List.all_eq_true.1 hS e he
    simp only [Bool.and_eq_true] at hce
    have hcp:0<P.cellsOf e:=Nat.le_of_ble_eq_true hce.1
    rcases DataW.trod_slice hu h with ⟨rfl,_⟩ | ⟨a,len,cap,elems,rest,n,hn,rfl,hx,_,h1,h2,h3,h4,h5,_⟩
    ·exact ⟨_,.slice [] hu .nil,.one (RepT.nil _ _ (.v ⟨rfl,rfl,rfl⟩))⟩
    ·obtain rfl:n=fuel:=by omega
     simp only [Prod.mk.injEq] at hx
     obtain ⟨rfl,rfl⟩:=hx
     obtain ⟨h6,_⟩:=h5 rfl
     unfold DataW.weights at hw
     rw [hu] at hw
     simp only [List.all_cons,Bool.and_eq_true,List.length_map] at hw
     obtain ⟨hw0,hw1⟩:=hw
     obtain ⟨hw1,_⟩:=all_app hw1
     have hw0:=of_decide_eq_true hw0
     rw [lit_reach] at hw0
     have hcb:cap*P.bytesOf e≤140737488351232:=by rw [h3,h6] at hw0; rw [show len+(cap - len)=cap by omega] at hw0; exact hw0
     have each : ∀ i,i<len → ∃ cs' trs,w.cells? 0 (a.add (i*P.cellsOf e)) (P.cellsOf e)=some cs'∧Fits P e trs∧RepL ok w cs' trs:=by
      intro i hi
      have q:=h4 i hi
      have hx':elems[i]? = some (elems[i]'(by omega)):=by simp [h3,hi]
      rw [hx'] at q
      obtain ⟨cs',q1,q2⟩:=Option.bind_eq_some_iff.1 q
      obtain ⟨trs,q3,q4⟩:=ih e cs' (elems[i]'(by omega)).1 (elems[i]'(by omega)).2 he q2 (weights_mem hw1 _ (List.mem_map.2 ⟨_,List.getElem_mem _,rfl⟩)) (fun x hx=>hp x (by
       refine List.mem_append_right _ (List.mem_flatMap.2 ⟨elems[i]'(by omega),List.mem_append_left _ (List.getElem_mem _),hx⟩)))
      exact ⟨cs',trs,q1,q3,q4⟩
     have all : ∀ m,m≤len → ∃ (rows:List (List Tr)) (css:List (List Value)),rows.length=m∧css.length=m∧(∀ i,i<m → ∃ cs' trs,css[i]? = some cs'∧rows[i]? = some trs∧w.cells? 0 (a.add (i*P.cellsOf e)) (P.cellsOf e)=some cs'∧Fits P e trs∧RepL ok w cs' trs):=by
      intro m
      induction m with
      | zero=>intro _; exact ⟨[],[],rfl,rfl,fun i hi=>by omega⟩
      | succ m ihm =>
       intro hm
       obtain ⟨rows,css,q1,q2,q3⟩:=ihm (by omega)
       obtain ⟨cs',trs,q4,q5,q6⟩:=each m (by omega)
       refine ⟨rows++[trs],css++[cs'],by simp [q1],by simp [q2],fun i hi => ?_⟩
       by_cases hlt:i<m
       ·obtain ⟨c1,t1,w1,w2,w3⟩:=q3 i hlt
        exact ⟨c1,t1,by rw [List.getElem?_append_left (by omega)]; exact w1,by rw [List.getElem?_append_left (by omega)]; exact w2,w3⟩
       ·obtain rfl:i=m:=by omega
        exact ⟨cs',trs,by rw [List.getElem?_append_right (by omega)]; simp [q2],by rw [List.getElem?_append_right (by omega)]; simp [q1],q4,q5,q6⟩
     obtain ⟨rows,css,r1,r2,r3⟩:=all len (Nat.le_refl _)
     refine ⟨_,.slice rows hu (fitsR_map fun r hr => ?_),.one ?_⟩
     ·obtain ⟨i,hi⟩:=List.mem_iff_getElem?.1 hr
      obtain ⟨_,_,_,w2,_,w4,_⟩:=r3 i (by have:=(List.getElem?_eq_some_iff.1 hi).1; omega)
      rw [hi] at w2; cases w2; exact w4
     ·refine .lst (fun i j=>((css.getD i []).getD j default)) r1.symm h1 (by unfold maxLen at h2; exact h2) (Nat.le_trans (Nat.mul_le_mul_right _ h1) (Nat.le_trans hcb (by decide))) (fun h=>by cases h) (fun i row hr => ?_) (fun i row j t hr hj => ?_)
      ·have hi:i<len:=by have:=(List.getElem?_eq_some_iff.1 hr).1; omega
       obtain ⟨cs',trs,w1,w2,w3,w4,w5⟩:=r3 i hi
       rw [hr] at w2; cases w2
       have hsp:a.spot=none:=by
        obtain ⟨cs0,_,_,_,z3,_,_⟩:=r3 0 (by omega)
        obtain ⟨_,c2,c3⟩:=World.cells?_some z3
        have:=c3 0 hcp
        rw [List.getElem?_eq_getElem (by omega)] at this
        have:=World.cell?_spot this
        simpa [Addr.add] using this
       obtain ⟨c1,c2,c3⟩:=World.cells?_some w3
       refine ⟨by rw [← w5.1]; exact c2,a.block,a.off,?_,?_,fun j hj => ?_⟩
       ·obtain ⟨x,y,z⟩:=a; simp only at hsp; rw [hsp]
       ·refine hok _ ?_
        have:=c3 0 hcp
        rw [List.getElem?_eq_getElem (by omega)] at this
        have hb:=World.cells?_block w3 hcp
        simp only [Addr.add] at hb
        split at hb <;> exact hb
       ·have q:=c3 j hj
        have hadd:(a.add (i*P.cellsOf e)).add j=⟨a.block,a.off+i*P.cellsOf e+j,none⟩:=by
         obtain ⟨x,y,z⟩:=a
         simp only at hsp
         subst hsp
         unfold Addr.add
         by_cases h1:i*P.cellsOf e=0
         ·rw [if_pos h1]
          by_cases h2:j=0
          ·simp [h1,h2]
          ·simp [h1,h2]
         ·rw [if_neg h1]
          by_cases h2:j=0
          ·simp [h2]
          ·simp [h2]
        rw [hadd] at q
        rw [q,List.getElem?_eq_getElem (by omega)]
        simp [w1,c2,hj,List.getD]
      ·have hi:i<len:=by have:=(List.getElem?_eq_some_iff.1 hr).1; omega
       obtain ⟨cs',trs,w1,w2,w3,w4,w5⟩:=r3 i hi
       rw [hr] at w2; cases w2
       have hjl:j<cs'.length:=by rw [w5.1]; exact (List.getElem?_eq_some_iff.1 hj).1
       have:=w5.2 j (cs'[j]) t (by simp [hjl]) hj
       simpa [w1,List.getD,hjl] using this
   | struct fs =>
    simp only [Bool.and_eq_true] at hc
    obtain ⟨xs,n,hn,hx,hl,hlen,hf⟩:=DataW.trod_struct hu h
    obtain rfl:n=fuel:=by omega
    simp only [Prod.mk.injEq] at hx
    obtain ⟨rfl,rfl⟩:=hx
    unfold DataW.weights at hw
    rw [hu] at hw
    obtain ⟨trs,q1,q2⟩:=read_fields (S:=S) (fun t cs d ps a b c e=>ih t cs d ps a b c e) cs fs.toList xs 0 (P.cellsOf t) hl (by simpa using hlen) hc.1 (fun f hf=>List.contains_iff_mem.1 (List.all_eq_true.1 hc.2 f hf)) (Nat.zero_le _) (fun i f h=>hf i f (by simpa using h)) hw hp
    exact ⟨trs,.struct trs hu q1,by simpa using q2⟩
   | _=>cases hc
end
end Go.Proofs.YtbflekglkkdipaaGreatDoor.am
