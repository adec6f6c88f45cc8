/- Print, of the package and of the reference. Parse, at every text. Contracts: the reference's copies. Contracts: the reference's Exactly, of a tree -/
import Derived.Test.YthboippafkcoiaaGreatDoorProg
import Derived.WalkLawsBesides
import Derived.Deep.WholeRow
import Derived.Lib.Hide
import Derived.Below
import Derived.Test.YthboippafkcoiaaGreatDoorQ6
import Derived.ShutString
import Derived.Test.YthboippafkcoiaaGreatDoorQ11
import Derived.Test.YthboippafkcoiaaGreatDoorQ8
set_option linter.all false
namespace Go.Proofs.YthboippafkcoiaaGreatDoor.ws
open Go Go.RowKit Go.Lib
def prRow (l:List UInt8):Array Value:=(List.replicate (20 - l.length) (Value.int .u8 0)++l.map fun c=>Value.int .u8 c.toNat).toArray
theorem prRow_eq (l:List UInt8):(prRow l).toList=List.replicate (20 - l.length) (Value.int .u8 0)++l.map fun c=>Value.int .u8 c.toNat:=rfl
theorem prRow_get (l:List UInt8) (p:Nat) (hp:1≤p) (hl:p+l.length=20):(prRow l)[p - 1]? = some (.int .u8 0):=by
 unfold prRow
 have h:20 - l.length=(p - 1)+1:=by omega
 rw [List.getElem?_toArray,List.getElem?_append_left (by simp; omega),h,List.getElem?_replicate,if_pos (by omega)]
theorem prRow_set (l:List UInt8) (c:UInt8) (p:Nat) (hp:1≤p) (hl:p+l.length=20):(prRow l).setIfInBounds (p - 1) (.int .u8 c.toNat)=prRow (c::l):=by
 unfold prRow
 have h:20 - l.length=(p - 1)+1:=by omega
 have h':20 - (c::l).length=p - 1:=by simp; omega
 rw [h,h',List.setIfInBounds_toArray,List.replicate_succ',List.append_assoc]
 congr 1
 rw [List.set_append_right _ _ (by simp)]
 simp
theorem prRow_at (l:List UInt8) (p i:Nat) (hl:p+l.length=20) (hi:i<l.length):(prRow l)[p+i]? = some (.int .u8 (l[i]'hi).toNat):=by
 unfold prRow
 rw [List.getElem?_toArray,List.getElem?_append_right (by simp; omega)]
 simp [show p+i - (20 - l.length)=i by omega,hi]
theorem slice_end (B p:Nat) (hp:1≤p) (hp2:p≤20) (W:World) :
  (Instr.sliceAt 224 (.pointer (some ⟨B,0,none⟩)) (some (.int .i64 ((p:Int) - 1))) none none).run Tryz.prog W = .ok (.slice (some ⟨B,p - 1,none⟩) (21 - p) (21 - p)) W:=by
 have hal : Tryz.prog.arrayLen 224 = 20:=by kernel_rfl
 have hu : Tryz.prog.underlying 224 = some (.array (Tryz.prog.arrayLen 224) (Tryz.prog.elem 224)):=by kernel_rfl
 have hz : ∀ W,(sizeOf (Tryz.prog.elem 224)).run Tryz.prog W = .ok 1 W:=fun W=>by kernel_rfl
 rw [run_sliceAt_array_l W _ _ hu .i64 _ (by omega) (by rw [hal]; omega),hz]
 simp only [Result.andThen,slicedAt,hal]
 have e:((p:Int) - 1).toNat=p - 1:=by omega
 rw [e,if_neg (by omega)]
 have e2:(⟨B,0,none⟩:Addr).add ((p - 1)*1)=⟨B,p - 1,none⟩:=by
  unfold Addr.add
  by_cases h:(p - 1)*1=0
  ·rw [if_pos h,show p - 1=0 by omega]
  ·rw [if_neg h]; simp
 rw [e2,show 20 - (p - 1)=21 - p by omega]
theorem conv_end (l:List UInt8) (p n:Nat) (w:World) (hl:p+l.length=20) (hn:l.length=n) :
  (convert 126 9 (.slice (some ⟨w.heap.size,p,none⟩) n n)).run Tryz.prog (w.alloc (.cells (prRow l) 224)) = .ok (.string ⟨l.toArray⟩) (w.alloc (.cells (prRow l) 224)):=by
 subst hn
 refine run_convert_bytes_back _ _ _ 5 _ _ l Tryz.underlying126 Tryz.underlying5 Tryz.underlying9 fun j hj => ?_
 have e:(⟨w.heap.size,p,none⟩:Addr).add j=⟨w.heap.size,p+j,none⟩:=by
  unfold Addr.add; split <;> simp_all
 rw [e,World.cell?_alloc_at _ _ _ _ rfl,prRow_at l p j hl hj]
theorem dig_toNat (n:Nat):(dch (n % 10)).toNat=48+n % 10:=dch_toNat (by omega)
theorem pow_bound {n j:Nat} (h:n*10 ^ j≤9223372036854775808) (hn:0<n):j≤18:=by
 apply Decidable.byContradiction
 intro hj
 have h1:10 ^ 19≤10 ^ j:=Nat.pow_le_pow_right (by decide) (by omega)
 have h2:1*10 ^ j≤n*10 ^ j:=Nat.mul_le_mul_right _ hn
 have h3:(10:Nat) ^ 19=10000000000000000000:=by decide
 omega
theorem pow_step {n j N:Nat} (h:n*10 ^ j≤N):n / 10*10 ^ (j+1)≤N:=by
 have h1:n / 10*10≤n:=Nat.div_mul_le_self n 10
 have h2:=Nat.mul_le_mul_right (10 ^ j) h1
 have h3:n / 10*10 ^ (j+1)=n / 10*10*10 ^ j:=by rw [Nat.pow_succ,Nat.mul_assoc,Nat.mul_comm 10]
 omega
def rowOf (p:Nat) (d:Int) (l:List UInt8):Array Value:=(prRow l).setIfInBounds (p - 1) (.int .u8 d)
theorem rowOf_eq (p m:Nat) (l:List UInt8) (hp:1≤p) (hl:p+l.length=20):(prRow l).setIfInBounds (p - 1) (.int .u8 (48+(m:Int) % 10))=prRow (dch (m % 10)::l):=by
 rw [← prRow_set l _ p hp hl,dig_toNat]
 rfl
theorem minus_eq (p:Nat) (l:List UInt8) (hp:1≤p) (hl:p+l.length=20):(prRow l).setIfInBounds (p - 1) (.int .u8 45)=prRow (45::l):=prRow_set l 45 p hp hl
set_option maxRecDepth 100000 in
set_option maxHeartbeats 1000000 in
theorem print_pos (N:Nat) (w:World) (hN:N≤9223372036854775807) :
  Calls Tryz.prog 175 #[.int .i64 N] w fun e w'=>e = .returned (.string ⟨(prn N).toArray⟩)∧Below w.heap.size w w':=by
 have R:Hid (prn N=dig N):=by
  show prn N=dig N
  unfold prn; rw [if_neg (by omega)]; rfl
 go_enter Tryz.func175,Tryz.ntmps175
 go_wp2
 go_loopw [4,5] (fun a n wr => ∃ (l:List UInt8) (p m:Nat),p+l.length=20∧1≤p∧a = .int .i64 p∧n = .int .u64 m∧m≤N∧Hid ((0<l.length→0<m)∧m*10 ^ l.length≤N∧dig N=dig m++l)∧wr=w.alloc (.cells (prRow l) 224)) (fun a _ _=>(intOf a).toNat)
 case atStart=>exact ⟨[],20,N,rfl,by omega,rfl,rfl,by omega,⟨fun h=>absurd h (by decide),by simp,by simp⟩,rfl⟩
 case round =>
  obtain ⟨l,p,m,hp,hp1,rfl,rfl,hmN,H,rfl⟩:=hrel
  have hg:=prRow_get l p hp1 hp
  have hsl:=slice_end w.heap.size p hp1 (by omega)
  have hrow:=rowOf_eq p m l hp1 hp
  by_cases h9:m<10
  ·have hz:(((m:Int) / 10) == 0)=true:=by simp; omega
   have hcv:=conv_end (dch (m % 10)::l) (p - 1) (21 - p) w (by simp; omega) (by simp; omega)
   go_wp2
   go_ret
   refine ⟨ret_str ?_,(Below.refl _ _).alloc (Nat.le_refl _) _⟩
   rw [R.out,H.out.2.2,dig_small h9,show m % 10=m by omega]
   rfl
  ·have hz:(((m:Int) / 10) == 0)=false:=by simp; omega
   go_wp2
   have hl18:l.length+1≤18:=pow_bound (n:=m / 10) (by have:=pow_step H.out.2.1; omega) (by omega)
   go_roundw
   case rel =>
    exact ⟨dch (m % 10)::l,p - 1,m / 10,by simp; omega,by omega,by go_num,by go_num,by omega,⟨fun _=>by omega,pow_step H.out.2.1,by rw [H.out.2.2,dig_big h9,List.append_assoc]; rfl⟩,rfl⟩
   case measure=>simp [intOf]; omega
set_option maxRecDepth 100000 in
set_option maxHeartbeats 1000000 in
theorem print_neg (N:Nat) (w:World) (hN:N≤9223372036854775808) (h0:0<N) :
  Calls Tryz.prog 175 #[.int .i64 (-(N:Int))] w fun e w'=>e = .returned (.string ⟨(prn (-(N:Int))).toArray⟩)∧Below w.heap.size w w':=by
 have R:Hid (prn (-(N:Int))=45::dig N):=by
  show prn _=_
  unfold prn; rw [if_pos (by omega),Int.neg_neg]; rfl
 have hlt : -(N:Int)<0:=by omega
 have hw:IntKind.u64.wrap (-(IntKind.u64.wrap (-(N:Int))))=N:=by rw [IntKind.wrap_u64,IntKind.wrap_u64]; omega
 go_enter Tryz.func175,Tryz.ntmps175
 go_wp2
 go_loopw [4,5] (fun a n wr => ∃ (l:List UInt8) (p m:Nat),p+l.length=20∧2≤p∧a = .int .i64 p∧n = .int .u64 m∧m≤N∧Hid ((0<l.length→0<m)∧m*10 ^ l.length≤N∧dig N=dig m++l)∧wr=w.alloc (.cells (prRow l) 224)) (fun a _ _=>(intOf a).toNat)
 case atStart=>exact ⟨[],20,N,rfl,by omega,rfl,rfl,by omega,⟨fun h=>absurd h (by decide),by simp,by simp⟩,rfl⟩
 case round =>
  obtain ⟨l,p,m,hp,hp1,rfl,rfl,hmN,H,rfl⟩:=hrel
  have hg:=prRow_get l p (by omega) hp
  have hrow:=rowOf_eq p m l (by omega) hp
  by_cases h9:m<10
  ·have hz:(((m:Int) / 10) == 0)=true:=by simp; omega
   have hp':p - 1+(dch (m % 10)::l).length=20:=by simp; omega
   have hg':=prRow_get (dch (m % 10)::l) (p - 1) (by omega) hp'
   have hmin:=minus_eq (p - 1) (dch (m % 10)::l) (by omega) hp'
   have hsl:=slice_end w.heap.size (p - 1) (by omega) (by omega)
   have hcv:=conv_end (45::dch (m % 10)::l) (p - 1 - 1) (21 - (p - 1)) w (by simp; omega) (by simp; omega)
   have e:((p - 1:Nat):Int)=(p:Int) - 1:=by omega
   rw [e] at hsl
   clear e hp'
   go_wp2
   go_ret
   refine ⟨ret_str ?_,(Below.refl _ _).alloc (Nat.le_refl _) _⟩
   rw [R.out,H.out.2.2,dig_small h9,show m % 10=m by omega]
   rfl
  ·have hz:(((m:Int) / 10) == 0)=false:=by simp; omega
   go_wp2
   have hl18:l.length+1≤18:=pow_bound (n:=m / 10) (by have:=pow_step H.out.2.1; omega) (by omega)
   go_roundw
   case rel =>
    exact ⟨dch (m % 10)::l,p - 1,m / 10,by simp; omega,by omega,by go_num,by go_num,by omega,⟨fun _=>by omega,pow_step H.out.2.1,by rw [H.out.2.2,dig_big h9,List.append_assoc]; rfl⟩,rfl⟩
   case measure=>simp [intOf]; omega
theorem print_any (v:Int) (w:World) (h1 : -9223372036854775808≤v) (h2:v≤9223372036854775807) :
  Calls Tryz.prog 175 #[.int .i64 v] w fun e w'=>e = .returned (.string ⟨(prn v).toArray⟩)∧Below w.heap.size w w':=by
 by_cases h:0≤v
 ·obtain ⟨N,rfl⟩:=Int.eq_ofNat_of_zero_le h
  exact print_pos N w (by omega)
 ·obtain ⟨N,hN⟩:=Int.eq_ofNat_of_zero_le (a := -v) (by omega)
  obtain rfl:v = -(N:Int):=by omega
  exact print_neg N w (by omega) (by omega)
end Go.Proofs.YthboippafkcoiaaGreatDoor.ws
namespace Go.Proofs.YthboippafkcoiaaGreatDoor.ws
open Go Go.RowKit Go.Lib
end Go.Proofs.YthboippafkcoiaaGreatDoor.ws
namespace Go.Proofs.YthboippafkcoiaaGreatDoor.am
open Go Go.Proofs
theorem rows_snoc {l:List Expr} {i:Nat} {d:Expr} (h:l[i]? = some d):((Expr.rows l).take i).take i++[d.cells]=(Expr.rows l).take (i+1):=by
 rw [List.take_take,Nat.min_self,take_snoc (x:=d.cells)]
 rw [Expr.rows_eq,List.getElem?_map,h]; rfl
theorem k53 : ∀ (n:Nat) (l:List Expr),SizeOf.sizeOf l<n→K 82 [.tr (exprsT l)] [] (.ret (.tr (exprsT l))) []:=by
 intro n
 induction n with
 | zero=>intro l h; omega
 | succ n ih =>
 intro l hsz
 refine Ctr.of hT hmix Tryz.func82 rfl (fun _ _=>by kernel_rfl) rfl fun hok => ?_
 obtain ⟨hB,hl,_⟩:=(hok.slot 0 rfl).tr.lst
 rw [erows_len] at hl hB
 clear hok
 conv=>whnf
 refine LoopL.by (fun i:Nat=>⟨[(3,.sl 0 i),(6,.tr (exprsT l)),(7,.tr (ti (Expr.rows l).length)),(8,.tr (ti i))],[(0,.vec 143 6 64 ((Expr.rows l).take i))],1⟩)
  (fun i=>i≤l.length) (fun i=>l.length - i) 0 [] [0] (Sub.mk' rfl ⟨⟨rfl,rfl,rfl,rfl⟩,.inl rfl,.inl rfl,.inl rfl,trivial⟩ ⟨⟨rfl,143,6,64,rfl,by omega⟩,trivial⟩ rfl rfl) (Nat.zero_le _) ?_
 intro i hi _
 conv=>whnf
 refine csplit (fun hlt => ?_) (fun hge => ?_)
 ·have hlt:i<l.length:=by rw [erows_len] at hlt; simpa using hlt
  conv=>whnf
  refine ⟨rfl,by omega,by rw [erows_len]; omega,fun row hrow => ?_⟩
  obtain ⟨d,hd,rfl⟩:=erows_get hrow
  replace hd:l[i]? = some d:=hd
  clear hrow
  have hsn:=rows_snoc hd
  have hs1:=size_kid hd
  obtain ⟨k1,k2,k3,k4,k5,k6⟩:=d
  simp only [Expr.mk.sizeOf_spec] at hs1
  conv=>whnf
  refine acall.pure _ (ih k5 (by omega)) rfl rfl fun _ => ?_
  conv=>whnf
  refine ⟨rfl,rfl,rfl,by rw [List.length_take,erows_len]; omega,by show (i+1)*64≤150000000000000; omega,fun q hq => ?_,?_⟩
  ·cases hq with
   | head=>exact Nat.ne_of_beq_eq_false rfl
   | tail _ h=>cases h
  conv=>whnf
  exact ⟨i+1,[14],[],Sub.mk' rfl ⟨⟨rfl,rfl⟩,.inl rfl,.inl rfl,.inl (ti_succ hlt hl),trivial⟩ ⟨⟨rfl,rfl,rfl,hsn⟩,trivial⟩ rfl rfl,hlt,by omega⟩
 ·have hge:l.length≤i:=by rw [erows_len] at hge; simpa using hge
  conv=>whnf
  refine ⟨fun _ => ?_,fun h=>absurd rfl h⟩
  conv=>whnf
  exact ⟨⟨rfl,by rw [List.length_take,erows_len]; omega,by rw [List.take_take,Nat.min_self,List.take_of_length_le (by rw [erows_len]; omega)]⟩,trivial⟩
theorem srows_snoc {l:List Stmt} {i:Nat} {d:Stmt} (h:l[i]? = some d):((Stmt.rows l).take i).take i++[d.cells]=(Stmt.rows l).take (i+1):=by
 rw [List.take_take,Nat.min_self,take_snoc (x:=d.cells)]
 rw [Stmt.rows_eq,List.getElem?_map,h]; rfl
theorem k28 : ∀ (n:Nat) (l:List Stmt),SizeOf.sizeOf l<n→K 39 [.tr (stmtsT l)] [] (.ret (.tr (stmtsT l))) []:=by
 intro n
 induction n with
 | zero=>intro l h; omega
 | succ n ih =>
 intro l hsz
 refine Ctr.of hT hmix Tryz.func39 rfl (fun _ _=>by kernel_rfl) rfl fun hok => ?_
 obtain ⟨hB,hl,_⟩:=(hok.slot 0 rfl).tr.lst
 rw [srows_len] at hl hB
 clear hok
 conv=>whnf
 refine LoopL.by (fun i:Nat=>⟨[(3,.sl 0 i),(6,.tr (stmtsT l)),(7,.tr (ti (Stmt.rows l).length)),(8,.tr (ti i))],[(0,.vec 105 7 120 ((Stmt.rows l).take i))],1⟩)
  (fun i=>i≤l.length) (fun i=>l.length - i) 0 [] [0] (Sub.mk' rfl ⟨⟨rfl,rfl,rfl,rfl⟩,.inl rfl,.inl rfl,.inl rfl,trivial⟩ ⟨⟨rfl,105,7,120,rfl,by omega⟩,trivial⟩ rfl rfl) (Nat.zero_le _) ?_
 intro i hi _
 conv=>whnf
 refine csplit (fun hlt => ?_) (fun hge => ?_)
 ·have hlt:i<l.length:=by rw [srows_len] at hlt; simpa using hlt
  conv=>whnf
  refine ⟨rfl,by omega,by rw [srows_len]; omega,fun row hrow => ?_⟩
  obtain ⟨d,hd,rfl⟩:=srows_get hrow
  replace hd:l[i]? = some d:=hd
  clear hrow
  have hsn:=srows_snoc hd
  have hs1:=size_kid2 hd
  obtain ⟨k1,k2,k3,k4,k5,k6,k7⟩:=d
  simp only [Stmt.mk.sizeOf_spec] at hs1
  conv=>whnf
  refine acall.pure _ (k53 (SizeOf.sizeOf k4+1) k4 (by omega)) rfl rfl fun _ => ?_
  conv=>whnf
  refine acall.pure _ (ih k5 (by omega)) rfl rfl fun _ => ?_
  conv=>whnf
  refine acall.pure _ (ih k6 (by omega)) rfl rfl fun _ => ?_
  conv=>whnf
  refine ⟨rfl,rfl,rfl,by rw [List.length_take,srows_len]; omega,by show (i+1)*120≤150000000000000; omega,fun q hq => ?_,?_⟩
  ·cases hq with
   | head=>exact Nat.ne_of_beq_eq_false rfl
   | tail _ h=>cases h
  conv=>whnf
  exact ⟨i+1,[24],[],Sub.mk' rfl ⟨⟨rfl,rfl⟩,.inl rfl,.inl rfl,.inl (ti_succ hlt hl),trivial⟩ ⟨⟨rfl,rfl,rfl,hsn⟩,trivial⟩ rfl rfl,hlt,by omega⟩
 ·have hge:l.length≤i:=by rw [srows_len] at hge; simpa using hge
  conv=>whnf
  refine ⟨fun _ => ?_,fun h=>absurd rfl h⟩
  conv=>whnf
  exact ⟨⟨rfl,by rw [List.length_take,srows_len]; omega,by rw [List.take_take,Nat.min_self,List.take_of_length_le (by rw [srows_len]; omega)]⟩,trivial⟩
theorem k27 (l:List Decl):K 38 [.tr (declsT l)] [] (.ret (.tr (declsT l))) []:=by
 refine Ctr.of hT hmix Tryz.func38 rfl (fun _ _=>by kernel_rfl) rfl fun hok => ?_
 obtain ⟨hB,_,_⟩:=(hok.slot 0 rfl).tr.lst
 clear hok
 conv=>whnf
 refine ⟨hB,?_⟩
 conv=>whnf
 exact ⟨⟨rfl,Nat.le_refl _,by rw [List.take_of_length_le (Nat.le_refl _)]⟩,trivial⟩
theorem throws_snoc {l:List Thread} {i:Nat} {d:Thread} (h:l[i]? = some d):((l.map Thread.cells).take i).take i++[d.cells]=(l.map Thread.cells).take (i+1):=by
 rw [List.take_take,Nat.min_self,take_snoc (x:=d.cells)]
 rw [List.getElem?_map,h]; rfl
theorem k9 (p:Prg):K 9 [p.av] [] (.ret p.av) []:=by
 refine Ctr.of hT hmix Tryz.func9 rfl (fun _ _=>by kernel_rfl) rfl fun hok => ?_
 obtain ⟨hB,hl,_⟩:=((hok.slot 0 rfl).agg _ (.tail _ (.tail _ (.head _)))).tr.lst
 rw [List.length_map] at hl hB
 clear hok
 conv=>whnf
 refine acall.pure _ (k27 p.shared) rfl rfl ?_
 conv=>whnf
 refine acall.pure _ (k27 p.locks) rfl rfl ?_
 conv=>whnf
 refine ⟨by kernel_rfl,fun _ => ?_⟩
 conv=>whnf
 refine LoopL.by (fun i:Nat=>⟨[(1,.ptr 0 0),(2,.ptr 1 0),(3,.ptr 2 0),(14,.tr (threadsT p.threads)),(15,.tr (ti (p.threads.map Thread.cells).length)),(16,.tr (ti i))],
   [(0,.cells 25 [.tr (declsT p.shared),.tr (declsT p.locks),.tr (threadsT p.threads)]),(1,.cells 25 [.tr tnil,.tr tnil,.tr tnil]),(2,.cells 25 [.tr (declsT p.shared),.tr (declsT p.locks),.sl 3 i]),(3,.vec 41 4 72 ((p.threads.map Thread.cells).take i))],4⟩)
  (fun i=>i≤p.threads.length) (fun i=>p.threads.length - i) 0 [0,1,9] [3]
  (Sub.mk' rfl ⟨⟨rfl,rfl⟩,⟨rfl,rfl⟩,⟨rfl,rfl⟩,.inl rfl,.inl rfl,.inl rfl,trivial⟩ ⟨⟨rfl,.inl rfl,.inl rfl,.inl rfl,trivial⟩,⟨rfl,.inl rfl,.inl rfl,.inl rfl,trivial⟩,⟨rfl,.inl rfl,.inl rfl,⟨rfl,rfl,rfl,rfl⟩,trivial⟩,⟨rfl,41,4,72,rfl,by omega⟩,trivial⟩ rfl rfl) (Nat.zero_le _) ?_
 intro i hi _
 conv=>whnf
 refine csplit (fun hlt => ?_) (fun hge => ?_)
 ·have hlt:i<p.threads.length:=by rw [List.length_map] at hlt; simpa using hlt
  conv=>whnf
  refine ⟨rfl,by omega,by rw [List.length_map]; omega,fun row hrow => ?_⟩
  obtain ⟨d,hd,rfl⟩:=map_get hrow
  replace hd:p.threads[i]? = some d:=hd
  clear hrow
  have hsn:=throws_snoc hd
  obtain ⟨name,ls,body,at_⟩:=d
  conv=>whnf
  refine acall.pure _ (k27 ls) rfl rfl fun _ => ?_
  conv=>whnf
  refine acall.pure _ (k28 (SizeOf.sizeOf body+1) body (by omega)) rfl rfl fun _ => ?_
  conv=>whnf
  refine ⟨rfl,rfl,rfl,by rw [List.length_take,List.length_map]; omega,by show (i+1)*72≤150000000000000; omega,fun q hq => ?_,?_⟩
  ·cases hq with
   | head=>exact Nat.ne_of_beq_eq_false rfl
   | tail _ h=>cases h
  conv=>whnf
  exact ⟨i+1,[0,1,2,23],[],Sub.mk' rfl ⟨⟨rfl,rfl⟩,⟨rfl,rfl⟩,⟨rfl,rfl⟩,.inl rfl,.inl rfl,.inl (ti_succ hlt hl),trivial⟩ ⟨⟨rfl,.inl rfl,.inl rfl,.inl rfl,trivial⟩,⟨rfl,.inl rfl,.inl rfl,.inl rfl,trivial⟩,⟨rfl,.inl rfl,.inl rfl,⟨rfl,rfl⟩,trivial⟩,⟨rfl,rfl,rfl,hsn⟩,trivial⟩ rfl rfl,hlt,by omega⟩
 ·have hge:p.threads.length≤i:=by rw [List.length_map] at hge; simpa using hge
  conv=>whnf
  refine ⟨fun _ => ?_,fun h=>absurd rfl h⟩
  conv=>whnf
  exact ⟨⟨Or.inl rfl,Or.inl rfl,⟨rfl,by rw [List.length_take,List.length_map]; omega,by rw [List.take_take,Nat.min_self,List.take_of_length_le (by rw [List.length_map]; omega)]⟩,trivial⟩,trivial⟩
end Go.Proofs.YthboippafkcoiaaGreatDoor.am
namespace Go.Proofs.YthboippafkcoiaaGreatDoor.am
open Go Go.Proofs
theorem k60 (l:List Decl):K 96 [.tr (declsT l),.tr (declsT l)] [] (.ret (.tr (tb true))) []:=by
 refine Ctr.of hT hmix Tryz.func96 rfl (fun _ _=>by kernel_rfl) rfl fun hok => ?_
 obtain ⟨_,hl,_⟩:=(hok.slot 0 rfl).tr.lst
 rw [List.length_map] at hl
 clear hok
 conv=>whnf
 refine csplit (fun h=>absurd h (by simp)) (fun _ => ?_)
 conv=>whnf
 refine LoopL.by (fun i:Nat=>⟨[(0,.tr (declsT l)),(1,.tr (declsT l)),(12,.tr (ti (l.map Decl.cells).length)),(13,.tr (ti i))],[],41⟩)
  (fun i=>i≤l.length) (fun i=>l.length - i) 0 [] [] (Sub.mk' rfl ⟨.inl rfl,.inl rfl,.inl rfl,.inl rfl,trivial⟩ trivial rfl rfl) (Nat.zero_le _) ?_
 intro i hi _
 conv=>whnf
 refine csplit (fun hlt => ?_) (fun hge => ?_)
 ·have hlt:i<l.length:=by rw [List.length_map] at hlt; simpa using hlt
  obtain ⟨d,hd⟩ : ∃ d,l[i]? = some d:=⟨l[i],by simp [hlt]⟩
  have hrow:(l.map Decl.cells)[i]? = some d.cells:=by rw [List.getElem?_map,hd]; rfl
  obtain ⟨name,word,at_⟩:=d
  conv=>whnf
  (repeat' (first
   | (refine csplit (fun h=>absurd h (by simp)) (fun _ => ?_); conv=>whnf)
   | (refine ⟨rfl,Int.natCast_nonneg i,by rw [List.length_map]; omega,fun row hr => ?_⟩; cases Option.some.inj ((show (l.map Decl.cells)[i]? = some row from hr).symm.trans hrow); conv=>whnf)))
  refine ⟨by kernel_rfl,fun _ => ?_⟩
  conv=>whnf
  refine csplit (fun h=>absurd h (by simp)) (fun _ => ?_)
  conv=>whnf
  exact ⟨i+1,[],[],Sub.mk' rfl ⟨.inl rfl,.inl rfl,.inl rfl,.inl (ti_succ hlt hl),trivial⟩ trivial rfl rfl,hlt,by omega⟩
 ·conv=>whnf
  refine ⟨fun _ => ?_,fun h=>absurd rfl h⟩
  conv=>whnf
  exact ⟨Or.inl rfl,trivial⟩
theorem k33 (l:List Decl):K 49 [.tr (declsT l),.tr (declsT l)] [] (.ret (.tr (tb true))) []:=by
 refine Ctr.of hT hmix Tryz.func49 rfl (fun _ _=>by kernel_rfl) rfl fun hok => ?_
 obtain ⟨_,hl,_⟩:=(hok.slot 0 rfl).tr.lst
 rw [List.length_map] at hl
 clear hok
 conv=>whnf
 refine csplit (fun h=>absurd h (by simp)) (fun _ => ?_)
 conv=>whnf
 refine LoopL.by (fun i:Nat=>⟨[(0,.tr (declsT l)),(1,.tr (declsT l)),(12,.tr (ti (l.map Decl.cells).length)),(13,.tr (ti i))],[],26⟩)
  (fun i=>i≤l.length) (fun i=>l.length - i) 0 [] [] (Sub.mk' rfl ⟨.inl rfl,.inl rfl,.inl rfl,.inl rfl,trivial⟩ trivial rfl rfl) (Nat.zero_le _) ?_
 intro i hi _
 conv=>whnf
 refine csplit (fun hlt => ?_) (fun hge => ?_)
 ·have hlt:i<l.length:=by rw [List.length_map] at hlt; simpa using hlt
  obtain ⟨d,hd⟩ : ∃ d,l[i]? = some d:=⟨l[i],by simp [hlt]⟩
  have hrow:(l.map Decl.cells)[i]? = some d.cells:=by rw [List.getElem?_map,hd]; rfl
  obtain ⟨name,word,at_⟩:=d
  conv=>whnf
  (repeat' (first
   | (refine csplit (fun h=>absurd h (by simp)) (fun _ => ?_); conv=>whnf)
   | (refine ⟨rfl,Int.natCast_nonneg i,by rw [List.length_map]; omega,fun row hr => ?_⟩; cases Option.some.inj ((show (l.map Decl.cells)[i]? = some row from hr).symm.trans hrow); conv=>whnf)))
  refine ⟨by kernel_rfl,fun _ => ?_⟩
  conv=>whnf
  refine csplit (fun h=>absurd h (by simp)) (fun _ => ?_)
  conv=>whnf
  exact ⟨i+1,[],[],Sub.mk' rfl ⟨.inl rfl,.inl rfl,.inl rfl,.inl (ti_succ hlt hl),trivial⟩ trivial rfl rfl,hlt,by omega⟩
 ·conv=>whnf
  refine ⟨fun _ => ?_,fun h=>absurd rfl h⟩
  conv=>whnf
  exact ⟨Or.inl rfl,trivial⟩
end Go.Proofs.YthboippafkcoiaaGreatDoor.am
namespace Go.Proofs.YthboippafkcoiaaGreatDoor.am
open Go Go.Proofs
theorem k93_86 : ∀ (n:Nat),(∀ (e:Expr),SizeOf.sizeOf e<n→K 169 [e.av,e.av] [] (.ret (.tr (tb true))) []) ∧
  (∀ (l:List Expr),SizeOf.sizeOf l<n→K 145 [.tr (exprsT l),.tr (exprsT l)] [] (.ret (.tr (tb true))) []):=by
 intro n
 induction n with
 | zero=>exact ⟨fun e h=>by omega,fun l h=>by omega⟩
 | succ n ih =>
 constructor
 ·intro e hsz
  refine Ctr.of hT hmix Tryz.func169 rfl (fun _ _=>by kernel_rfl) rfl fun hok => ?_
  clear hok
  obtain ⟨kind,op,word,name,kids,at_⟩:=e
  simp only [Expr.mk.sizeOf_spec] at hsz
  conv=>whnf
  (repeat' (refine csplit (fun h=>absurd h (by simp)) (fun _ => ?_); conv=>whnf))
  refine acall.pure _ (ih.2 kids (by omega)) rfl rfl fun _ => ?_
  conv=>whnf
  exact ⟨Or.inl rfl,trivial⟩
 ·intro l hsz
  refine Ctr.of hT hmix Tryz.func145 rfl (fun _ _=>by kernel_rfl) rfl fun hok => ?_
  obtain ⟨_,hl,_⟩:=(hok.slot 0 rfl).tr.lst
  rw [erows_len] at hl
  clear hok
  conv=>whnf
  refine csplit (fun h=>absurd h (by simp)) (fun _ => ?_)
  conv=>whnf
  refine LoopL.by (fun i:Nat=>⟨[(0,.tr (exprsT l)),(1,.tr (exprsT l)),(12,.tr (ti (Expr.rows l).length)),(13,.tr (ti i))],[],26⟩)
   (fun i=>i≤l.length) (fun i=>l.length - i) 0 [] [] (Sub.mk' rfl ⟨.inl rfl,.inl rfl,.inl rfl,.inl rfl,trivial⟩ trivial rfl rfl) (Nat.zero_le _) ?_
  intro i hi _
  conv=>whnf
  refine csplit (fun hlt => ?_) (fun hge => ?_)
  ·have hlt:i<l.length:=by rw [erows_len] at hlt; simpa using hlt
   obtain ⟨d,hd⟩ : ∃ d,l[i]? = some d:=⟨l[i],by simp [hlt]⟩
   have hrow:(Expr.rows l)[i]? = some d.cells:=by rw [Expr.rows_eq,List.getElem?_map,hd]; rfl
   have hsd:=size_kid hd
   have hk:=ih.1 d (by omega)
   obtain ⟨k1,k2,k3,k4,k5,k6⟩:=d
   conv=>whnf
   refine ⟨rfl,Int.natCast_nonneg i,by rw [erows_len]; omega,fun row hr => ?_⟩
   cases Option.some.inj ((show (Expr.rows l)[i]? = some row from hr).symm.trans hrow)
   conv=>whnf
   refine ⟨rfl,Int.natCast_nonneg i,by rw [erows_len]; omega,fun row hr2 => ?_⟩
   cases Option.some.inj ((show (Expr.rows l)[i]? = some row from hr2).symm.trans hrow)
   conv=>whnf
   refine acall.pure _ hk rfl rfl ?_
   conv=>whnf
   refine ⟨by kernel_rfl,fun _ => ?_⟩
   conv=>whnf
   exact ⟨i+1,[],[],Sub.mk' rfl ⟨.inl rfl,.inl rfl,.inl rfl,.inl (ti_succ hlt hl),trivial⟩ trivial rfl rfl,hlt,by omega⟩
  ·conv=>whnf
   refine ⟨fun _ => ?_,fun h=>absurd rfl h⟩
   conv=>whnf
   exact ⟨Or.inl rfl,trivial⟩
end Go.Proofs.YthboippafkcoiaaGreatDoor.am
namespace Go.Proofs.YthboippafkcoiaaGreatDoor.am
open Go Go.Proofs
theorem k62 : ∀ (n:Nat) (l:List Expr),SizeOf.sizeOf l<n→K 98 [.tr (exprsT l),.tr (exprsT l)] [] (.ret (.tr (tb true))) []:=by
 intro n
 induction n with
 | zero=>intro l h; omega
 | succ n ih =>
 intro l hsz
 refine Ctr.of hT hmix Tryz.func98 rfl (fun _ _=>by kernel_rfl) rfl fun hok => ?_
 obtain ⟨_,hl,_⟩:=(hok.slot 0 rfl).tr.lst
 rw [erows_len] at hl
 clear hok
 conv=>whnf
 refine csplit (fun h=>absurd h (by simp)) (fun _ => ?_)
 conv=>whnf
 refine LoopL.by (fun i:Nat=>⟨[(0,.tr (exprsT l)),(1,.tr (exprsT l)),(12,.tr (ti (Expr.rows l).length)),(13,.tr (ti i))],[],60⟩)
  (fun i=>i≤l.length) (fun i=>l.length - i) 0 [] [] (Sub.mk' rfl ⟨.inl rfl,.inl rfl,.inl rfl,.inl rfl,trivial⟩ trivial rfl rfl) (Nat.zero_le _) ?_
 intro i hi _
 conv=>whnf
 refine csplit (fun hlt => ?_) (fun hge => ?_)
 ·have hlt:i<l.length:=by rw [erows_len] at hlt; simpa using hlt
  obtain ⟨d,hd⟩ : ∃ d,l[i]? = some d:=⟨l[i],by simp [hlt]⟩
  have hrow:(Expr.rows l)[i]? = some d.cells:=by rw [Expr.rows_eq,List.getElem?_map,hd]; rfl
  have hsd:=size_kid hd
  obtain ⟨k1,k2,k3,k4,k5,k6⟩:=d
  simp only [Expr.mk.sizeOf_spec] at hsd
  have hk:=ih k5 (by omega)
  conv=>whnf
  (repeat' (first
   | (refine csplit (fun h=>absurd h (by simp)) (fun _ => ?_); conv=>whnf)
   | (refine ⟨rfl,Int.natCast_nonneg i,by rw [erows_len]; omega,fun row hr => ?_⟩; cases Option.some.inj ((show (Expr.rows l)[i]? = some row from hr).symm.trans hrow); conv=>whnf)
   | (refine acall.pure _ hk rfl rfl ?_; conv=>whnf)))
  refine ⟨by kernel_rfl,fun _ => ?_⟩
  conv=>whnf
  (repeat' (refine csplit (fun h=>absurd h (by simp)) (fun _ => ?_); conv=>whnf))
  exact ⟨i+1,[],[],Sub.mk' rfl ⟨.inl rfl,.inl rfl,.inl rfl,.inl (ti_succ hlt hl),trivial⟩ trivial rfl rfl,hlt,by omega⟩
 ·conv=>whnf
  refine ⟨fun _ => ?_,fun h=>absurd rfl h⟩
  conv=>whnf
  exact ⟨Or.inl rfl,trivial⟩
end Go.Proofs.YthboippafkcoiaaGreatDoor.am
namespace Go.Proofs.YthboippafkcoiaaGreatDoor.am
open Go Go.Proofs
theorem k61 : ∀ (n:Nat) (l:List Stmt),SizeOf.sizeOf l<n→K 97 [.tr (stmtsT l),.tr (stmtsT l)] [] (.ret (.tr (tb true))) []:=by
 intro n
 induction n with
 | zero=>intro l h; omega
 | succ n ih =>
 intro l hsz
 refine Ctr.of hT hmix Tryz.func97 rfl (fun _ _=>by kernel_rfl) rfl fun hok => ?_
 obtain ⟨_,hl,_⟩:=(hok.slot 0 rfl).tr.lst
 rw [srows_len] at hl
 clear hok
 conv=>whnf
 refine csplit (fun h=>absurd h (by simp)) (fun _ => ?_)
 conv=>whnf
 refine LoopL.by (fun i:Nat=>⟨[(0,.tr (stmtsT l)),(1,.tr (stmtsT l)),(14,.tr (ti (Stmt.rows l).length)),(15,.tr (ti i))],[],60⟩)
  (fun i=>i≤l.length) (fun i=>l.length - i) 0 [] [] (Sub.mk' rfl ⟨.inl rfl,.inl rfl,.inl rfl,.inl rfl,trivial⟩ trivial rfl rfl) (Nat.zero_le _) ?_
 intro i hi _
 conv=>whnf
 refine csplit (fun hlt => ?_) (fun hge => ?_)
 ·have hlt:i<l.length:=by rw [srows_len] at hlt; simpa using hlt
  obtain ⟨d,hd⟩ : ∃ d,l[i]? = some d:=⟨l[i],by simp [hlt]⟩
  have hrow:(Stmt.rows l)[i]? = some d.cells:=by rw [Stmt.rows_eq,List.getElem?_map,hd]; rfl
  have hsd:=size_kid2 hd
  obtain ⟨k1,k2,k3,k4,k5,k6,k7⟩:=d
  simp only [Stmt.mk.sizeOf_spec] at hsd
  have hk4:=(k93_86 (SizeOf.sizeOf k4+1)).2 k4 (by omega)
  have hk5:=ih k5 (by omega)
  have hk6:=ih k6 (by omega)
  conv=>whnf
  refine ⟨rfl,Int.natCast_nonneg i,by rw [srows_len]; omega,fun row hr => ?_⟩
  cases Option.some.inj ((show (Stmt.rows l)[i]? = some row from hr).symm.trans hrow)
  conv=>whnf
  refine ⟨rfl,Int.natCast_nonneg i,by rw [srows_len]; omega,fun row hr2 => ?_⟩
  cases Option.some.inj ((show (Stmt.rows l)[i]? = some row from hr2).symm.trans hrow)
  conv=>whnf
  refine ⟨by kernel_rfl,fun _ => ?_⟩
  conv=>whnf
  (repeat' (first
   | (refine csplit (fun h=>absurd h (by simp)) (fun _ => ?_); conv=>whnf)
   | (refine acall.pure _ hk4 rfl rfl fun _ => ?_; conv=>whnf)
   | (refine acall.pure _ hk5 rfl rfl fun _ => ?_; conv=>whnf)
   | (refine acall.pure _ hk6 rfl rfl fun _ => ?_; conv=>whnf)))
  exact ⟨i+1,[],[],Sub.mk' rfl ⟨.inl rfl,.inl rfl,.inl rfl,.inl (ti_succ hlt hl),trivial⟩ trivial rfl rfl,hlt,by omega⟩
 ·conv=>whnf
  refine ⟨fun _ => ?_,fun h=>absurd rfl h⟩
  conv=>whnf
  exact ⟨Or.inl rfl,trivial⟩
end Go.Proofs.YthboippafkcoiaaGreatDoor.am
namespace Go.Proofs.YthboippafkcoiaaGreatDoor.am
open Go Go.Proofs
set_option maxRecDepth 100000 in
set_option maxHeartbeats 4000000 in
theorem k34 : ∀ (n:Nat) (l:List Stmt),SizeOf.sizeOf l<n→K 50 [.tr (stmtsT l),.tr (stmtsT l)] [] (.ret (.tr (tb true))) []:=by
 intro n
 induction n with
 | zero=>intro l h; omega
 | succ n ih =>
 intro l hsz
 refine Ctr.of hT hmix Tryz.func50 rfl (fun _ _=>by kernel_rfl) rfl fun hok => ?_
 obtain ⟨_,hl,_⟩:=(hok.slot 0 rfl).tr.lst
 rw [srows_len] at hl
 clear hok
 conv=>whnf
 refine csplit (fun h=>absurd h (by simp)) (fun _ => ?_)
 conv=>whnf
 refine LoopL.by (fun i:Nat=>⟨[(0,.tr (stmtsT l)),(1,.tr (stmtsT l)),(12,.tr (ti (Stmt.rows l).length)),(13,.tr (ti i))],[],100⟩)
  (fun i=>i≤l.length) (fun i=>l.length - i) 0 [] [] (Sub.mk' rfl ⟨.inl rfl,.inl rfl,.inl rfl,.inl rfl,trivial⟩ trivial rfl rfl) (Nat.zero_le _) ?_
 intro i hi _
 conv=>whnf
 refine csplit (fun hlt => ?_) (fun hge => ?_)
 ·have hlt:i<l.length:=by rw [srows_len] at hlt; simpa using hlt
  obtain ⟨d,hd⟩ : ∃ d,l[i]? = some d:=⟨l[i],by simp [hlt]⟩
  have hrow:(Stmt.rows l)[i]? = some d.cells:=by rw [Stmt.rows_eq,List.getElem?_map,hd]; rfl
  have hsd:=size_kid2 hd
  obtain ⟨k1,k2,k3,k4,k5,k6,k7⟩:=d
  simp only [Stmt.mk.sizeOf_spec] at hsd
  have hk4:=k62 (SizeOf.sizeOf k4+1) k4 (by omega)
  have hk5:=ih k5 (by omega)
  have hk6:=ih k6 (by omega)
  conv=>whnf
  (repeat' (first
   | (refine csplit (fun h=>absurd h (by simp)) (fun _ => ?_); conv=>whnf)
   | (refine ⟨rfl,Int.natCast_nonneg i,by rw [srows_len]; omega,fun row hr => ?_⟩; cases Option.some.inj ((show (Stmt.rows l)[i]? = some row from hr).symm.trans hrow); conv=>whnf)
   | (refine acall.pure _ hk4 rfl rfl ?_; conv=>whnf)
   | (refine acall.pure _ hk5 rfl rfl ?_; conv=>whnf)
   | (refine acall.pure _ hk6 rfl rfl ?_; conv=>whnf)))
  refine ⟨by kernel_rfl,fun _ => ?_⟩
  conv=>whnf
  (repeat' (refine csplit (fun h=>absurd h (by simp)) (fun _ => ?_); conv=>whnf))
  exact ⟨i+1,[],[],Sub.mk' rfl ⟨.inl rfl,.inl rfl,.inl rfl,.inl (ti_succ hlt hl),trivial⟩ trivial rfl rfl,hlt,by omega⟩
 ·conv=>whnf
  refine ⟨fun _ => ?_,fun h=>absurd rfl h⟩
  conv=>whnf
  exact ⟨Or.inl rfl,trivial⟩
end Go.Proofs.YthboippafkcoiaaGreatDoor.am
namespace Go.Proofs.YthboippafkcoiaaGreatDoor.am
open Go Go.Proofs
theorem k32 (p:Prg):K 48 [p.av,p.av] [] (.ret (.tr (tb true))) []:=by
 refine Ctr.of hT hmix Tryz.func48 rfl (fun _ _=>by kernel_rfl) rfl fun hok => ?_
 obtain ⟨_,hl,_⟩:=((hok.slot 0 rfl).agg _ (.tail _ (.tail _ (.head _)))).tr.lst
 rw [List.length_map] at hl
 clear hok
 conv=>whnf
 refine acall.pure _ (k60 p.shared) rfl rfl fun _ => ?_
 conv=>whnf
 refine acall.pure _ (k60 p.locks) rfl rfl fun _ => ?_
 conv=>whnf
 refine csplit (fun h=>absurd h (by simp)) (fun _ => ?_)
 conv=>whnf
 refine LoopL.by (fun i:Nat=>⟨[(2,.ptr 0 0),(3,.ptr 1 0),(33,.tr (ti (p.threads.map Thread.cells).length)),(34,.tr (ti i))],[(0,.cells 25 [.tr (declsT p.shared),.tr (declsT p.locks),.tr (threadsT p.threads)]),(1,.cells 25 [.tr (declsT p.shared),.tr (declsT p.locks),.tr (threadsT p.threads)])],2⟩)
  (fun i=>i≤p.threads.length) (fun i=>p.threads.length - i) 0 [0,1] [] (Sub.mk' rfl ⟨⟨rfl,rfl⟩,⟨rfl,rfl⟩,.inl rfl,.inl rfl,trivial⟩ ⟨⟨rfl,.inl rfl,.inl rfl,.inl rfl,trivial⟩,⟨rfl,.inl rfl,.inl rfl,.inl rfl,trivial⟩,trivial⟩ rfl rfl) (Nat.zero_le _) ?_
 intro i hi _
 conv=>whnf
 refine csplit (fun hlt => ?_) (fun hge => ?_)
 ·have hlt:i<p.threads.length:=by rw [List.length_map] at hlt; simpa using hlt
  obtain ⟨d,hd⟩ : ∃ d,p.threads[i]? = some d:=⟨p.threads[i],by simp [hlt]⟩
  have hrow:(p.threads.map Thread.cells)[i]? = some d.cells:=by rw [List.getElem?_map,hd]; rfl
  obtain ⟨name,ls,body,at_⟩:=d
  have hk:=k61 (SizeOf.sizeOf body+1) body (by omega)
  conv=>whnf
  refine ⟨rfl,Int.natCast_nonneg i,by rw [List.length_map]; omega,fun row hr => ?_⟩
  cases Option.some.inj ((show (p.threads.map Thread.cells)[i]? = some row from hr).symm.trans hrow)
  conv=>whnf
  refine ⟨rfl,Int.natCast_nonneg i,by rw [List.length_map]; omega,fun row hr2 => ?_⟩
  cases Option.some.inj ((show (p.threads.map Thread.cells)[i]? = some row from hr2).symm.trans hrow)
  conv=>whnf
  refine ⟨by kernel_rfl,fun _ => ?_⟩
  conv=>whnf
  (repeat' (first
   | (refine csplit (fun h=>absurd h (by simp)) (fun _ => ?_); conv=>whnf)
   | (refine acall.pure _ (k60 ls) rfl rfl fun _ => ?_; conv=>whnf)
   | (refine acall.pure _ hk rfl rfl fun _ => ?_; conv=>whnf)))
  exact ⟨i+1,[0,1],[],Sub.mk' rfl ⟨⟨rfl,rfl⟩,⟨rfl,rfl⟩,.inl rfl,.inl (ti_succ hlt hl),trivial⟩ ⟨⟨rfl,.inl rfl,.inl rfl,.inl rfl,trivial⟩,⟨rfl,.inl rfl,.inl rfl,.inl rfl,trivial⟩,trivial⟩ rfl rfl,hlt,by omega⟩
 ·conv=>whnf
  refine ⟨fun _ => ?_,fun h=>absurd rfl h⟩
  conv=>whnf
  exact ⟨Or.inl rfl,trivial⟩
end Go.Proofs.YthboippafkcoiaaGreatDoor.am
namespace Go.Proofs.YthboippafkcoiaaGreatDoor.am
open Go Go.Proofs
theorem k13 (p:Prg):K 13 [p.av,p.av] [] (.ret (.tr (tb true))) []:=by
 refine Ctr.of hT hmix Tryz.func13 rfl (fun _ _=>by kernel_rfl) rfl fun hok => ?_
 obtain ⟨_,hl,_⟩:=((hok.slot 0 rfl).agg _ (.tail _ (.tail _ (.head _)))).tr.lst
 rw [List.length_map] at hl
 clear hok
 conv=>whnf
 refine acall.pure _ (k32 p) rfl rfl fun _ => ?_
 conv=>whnf
 refine acall.pure _ (k33 p.shared) rfl rfl fun _ => ?_
 conv=>whnf
 refine acall.pure _ (k33 p.locks) rfl rfl fun _ => ?_
 conv=>whnf
 refine LoopL.by (fun i:Nat=>⟨[(2,.ptr 0 0),(3,.ptr 1 0),(30,.tr (ti (p.threads.map Thread.cells).length)),(31,.tr (ti i))],[(0,.cells 25 [.tr (declsT p.shared),.tr (declsT p.locks),.tr (threadsT p.threads)]),(1,.cells 25 [.tr (declsT p.shared),.tr (declsT p.locks),.tr (threadsT p.threads)])],2⟩)
  (fun i=>i≤p.threads.length) (fun i=>p.threads.length - i) 0 [0,1] [] (Sub.mk' rfl ⟨⟨rfl,rfl⟩,⟨rfl,rfl⟩,.inl rfl,.inl rfl,trivial⟩ ⟨⟨rfl,.inl rfl,.inl rfl,.inl rfl,trivial⟩,⟨rfl,.inl rfl,.inl rfl,.inl rfl,trivial⟩,trivial⟩ rfl rfl) (Nat.zero_le _) ?_
 intro i hi _
 conv=>whnf
 refine csplit (fun hlt => ?_) (fun hge => ?_)
 ·have hlt:i<p.threads.length:=by rw [List.length_map] at hlt; simpa using hlt
  obtain ⟨d,hd⟩ : ∃ d,p.threads[i]? = some d:=⟨p.threads[i],by simp [hlt]⟩
  have hrow:(p.threads.map Thread.cells)[i]? = some d.cells:=by rw [List.getElem?_map,hd]; rfl
  obtain ⟨name,ls,body,at_⟩:=d
  have hk:=k34 (SizeOf.sizeOf body+1) body (by omega)
  conv=>whnf
  refine ⟨rfl,Int.natCast_nonneg i,by rw [List.length_map]; omega,fun row hr => ?_⟩
  cases Option.some.inj ((show (p.threads.map Thread.cells)[i]? = some row from hr).symm.trans hrow)
  conv=>whnf
  refine ⟨rfl,Int.natCast_nonneg i,by rw [List.length_map]; omega,fun row hr2 => ?_⟩
  cases Option.some.inj ((show (p.threads.map Thread.cells)[i]? = some row from hr2).symm.trans hrow)
  conv=>whnf
  refine ⟨by kernel_rfl,fun _ => ?_⟩
  conv=>whnf
  (repeat' (first
   | (refine csplit (fun h=>absurd h (by simp)) (fun _ => ?_); conv=>whnf)
   | (refine acall.pure _ (k33 ls) rfl rfl fun _ => ?_; conv=>whnf)
   | (refine acall.pure _ hk rfl rfl fun _ => ?_; conv=>whnf)))
  exact ⟨i+1,[0,1],[],Sub.mk' rfl ⟨⟨rfl,rfl⟩,⟨rfl,rfl⟩,.inl rfl,.inl (ti_succ hlt hl),trivial⟩ ⟨⟨rfl,.inl rfl,.inl rfl,.inl rfl,trivial⟩,⟨rfl,.inl rfl,.inl rfl,.inl rfl,trivial⟩,trivial⟩ rfl rfl,hlt,by omega⟩
 ·conv=>whnf
  refine ⟨fun _ => ?_,fun h=>absurd rfl h⟩
  conv=>whnf
  exact ⟨Or.inl rfl,trivial⟩
end Go.Proofs.YthboippafkcoiaaGreatDoor.am
