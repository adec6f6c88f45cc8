/- What is known of package-level variables: the table of the powers of ten. The abstract machine, its words: types, trees, values, blocks; what they -/
import Derived.WalkKit
import Derived.Lib.LaidTab
import Derived.Lib.ItoaNum
import Derived.Lib.Hide
import Derived.Orders
import Derived.Laws.AppendOwn
set_option linter.all false
namespace Go.Proofs.YtbflekglkkdipaaGreatDoor.am
open Go
def powCells:Array Value:=(Lib.pow10Tab.map fun z=>Value.int .u64 z).toArray
def glob (b:Nat) (Q:Option Obj→Prop):Prop:=b = 0 ∧ Q=fun o => ∃ t fz,o=some (.cells powCells t fz)
end Go.Proofs.YtbflekglkkdipaaGreatDoor.am
namespace Go.Proofs.YtbflekglkkdipaaGreatDoor.am
open Go
abbrev HMod:Nat:=1048576
inductive D where
 | bool | int (k:IntKind) | string | ptr (e:Nat) | slice (e:Nat) | array (n e:Nat) | map (k e:Nat) | struct (fs:List (Nat × Nat)) | func | iface | other
 deriving DecidableEq
def D.of:TypeDesc→D
 | .bool => .bool | .int k => .int k | .string => .string | .pointer e => .ptr e | .slice e => .slice e | .array n e => .array n e | .map k e => .map k e
 | .struct fs => .struct (fs.toList.map fun f=>(f.type,f.offset)) | .func .. => .func | .interface _ => .iface | _ => .other
def D.agg:D→Bool | .struct _ | .array _ _=>true | _=>false
inductive Z where | b | i (k:IntKind) | s | p | sl | m | f | n
 deriving DecidableEq
def Z.val:Z→Value
 | .b => .bool false | .i k => .int k 0 | .s => .string ⟨#[]⟩ | .p => .pointer none | .sl => .slice none 0 0 | .m => .map none | .f => .nilFunc | .n => .nilIface
def Z.of:Value→Option Z
 | .bool false=>some .b
 | .int k q=>if q=0 then some (.i k) else none
 | .string ⟨⟨[]⟩⟩=>some .s
 | .pointer none=>some .p
 | .slice none 0 0=>some .sl
 | .map none=>some .m
 | .nilFunc=>some .f
 | .nilIface=>some .n
 | _=>none
theorem Z.of_val {x:Value} {z:Z} (h:Z.of x=some z):x=z.val:=by
 unfold Z.of at h
 split at h
 case h_2 k q =>
  by_cases hq:q=0
  ·rw [if_pos hq] at h; cases h; rw [hq]; rfl
  ·rw [if_neg hq] at h; cases h
 all_goals first | (cases h; rfl) | cases h
structure TyI where
 d:D
 size:Nat
 bytes:Nat
 zero:List Z
 eqok:Bool
 deriving DecidableEq
def eqOf (P:Program) (t:TypeId) (u:TypeDesc):Bool:=match u with
 | .struct fs => !P.stoodInHeld t && !P.eqGuardType P.depth t && fs.all (fun f=>f.name != "_")
 | _=>false
def zcells (z:Value) (d:D):Option (List Z) :=
 if d.agg then match z with | .agg cs=>cs.toList.mapM Z.of | _=>none
 else match z with | .agg _=>none | x=>(Z.of x).map fun q=>[q]
def tyOf (P:Program) (t:TypeId):Option TyI :=
 match P.info? t,P.underlying t with
 | some i,some u =>
  match i.zero with
  | some z =>
   match zcells z (D.of u) with
   | some zs=>if zs.length=i.size then some ⟨D.of u,i.size,i.bytes,zs,eqOf P t u⟩ else none
   | none=>none
  | none=>none
 | _,_=>none
def lk {α:Type}:List (Nat × α)→Nat→Option α
 | [],_=>none
 | (k,x)::r,t=>bif Nat.beq k t then some x else lk r t
abbrev Ty:=List (Nat × TyI)
def TOk (P:Program) (T:Ty):Prop := ∀ t i,lk T t=some i→tyOf P t=some i∧i.bytes≤4096
theorem TOk.of_all {P:Program} {T:Ty} (h:T.all (fun p=>tyOf P p.1 == some p.2 && Nat.ble p.2.bytes 4096)=true):TOk P T:=by
 induction T with
 | nil=>intro t i h; cases h
 | cons p r ih =>
  obtain ⟨k,x⟩:=p
  simp only [List.all_cons,Bool.and_eq_true] at h
  intro t i hl
  unfold lk at hl
  cases hk:Nat.beq k t with
  | true =>
   rw [hk] at hl
   simp only [cond_true,Option.some.injEq] at hl
   subst hl
   have:k=t:=Nat.eq_of_beq_eq_true hk
   subst this
   simpa using h.1
  | false=>rw [hk] at hl; exact ih h.2 t i hl
inductive Tr where
 | v (x:Value)
 | lst (n B:Nat) (rows:List (List Tr))
def good:Value→Prop
 | .bool _=>True
 | .int k n=>k.min≤n∧n≤k.max
 | .string s=>s.size≤9223372036854775807
 | .slice a l c=>a=none∧l=0∧c=0
 | .pointer a=>a=none
 | .map r=>r=none
 | .nilFunc | .nilIface=>True
 | .func (.func _) a c=>a = #[]∧c = #[]
 | .func (.yield _) a c=>a = #[]∧c = #[]
 | _=>False
def goodB:Value→Bool
 | .bool _=>true
 | .int k n=>decide (k.min≤n) && decide (n≤k.max)
 | .string s=>Nat.ble s.size 9223372036854775807
 | .slice none 0 0=>true
 | .pointer none=>true
 | .map none=>true
 | .nilFunc | .nilIface=>true
 | .func (.func _) ⟨[]⟩ ⟨[]⟩=>true
 | .func (.yield _) ⟨[]⟩ ⟨[]⟩=>true
 | _=>false
theorem good_of {x:Value} (h:goodB x=true):good x:=by
 unfold goodB at h
 split at h <;> first
  | trivial
  | (simp only [Bool.and_eq_true,decide_eq_true_eq] at h; exact h)
  | (exact Nat.le_of_ble_eq_true h)
  | exact ⟨rfl,rfl,rfl⟩
  | exact ⟨rfl,rfl⟩
  | exact rfl
  | cases h
theorem good_one {x:Value} (h:good x):x.oneCell'=true:=by
 unfold good at h
 split at h <;> first | rfl | exact h.elim
theorem good_zero (z:Z):good z.val:=by
 cases z with
 | i k=>exact (by cases k <;> exact ⟨by decide,by decide⟩)
 | s=>exact (by decide:(0:Nat)≤9223372036854775807)
 | _=>first | trivial | exact ⟨rfl,rfl,rfl⟩ | exact rfl
inductive RepT (ok:Nat→Prop) (w:World):Value→Tr→Prop
 | v {x:Value}:good x→RepT ok w x (.v x)
 | lst {ao:Option Addr} {len cap n B:Nat} {rows:List (List Tr)} (f:Nat→Nat→Value) :
   len=rows.length→len≤cap→cap≤9223372036854775807→len*B≤150000000000000→(ao=none→cap=0) →
   (∀ (i:Nat) (row:List Tr),rows[i]? = some row→row.length=n ∧ ∃ b o:Nat,ao=some ⟨b,o,none⟩∧ok b ∧ ∀ j,j<n→w.cell? ⟨b,o+i*n+j,none⟩=some (f i j)) →
   (∀ (i:Nat) (row:List Tr) (j:Nat) (t:Tr),rows[i]? = some row→row[j]? = some t→RepT ok w (f i j) t) →
   RepT ok w (.slice ao len cap) (.lst n B rows)
theorem RepT.one {ok:Nat→Prop} {w:World} {x:Value} {t:Tr} (h:RepT ok w x t):x.oneCell'=true:=by
 cases h with
 | v h=>exact good_one h
 | lst=>rfl
theorem cell_same {w w':World} {b o:Nat} (h:w'.heap[b]? = w.heap[b]?):w'.cell? ⟨b,o,none⟩=w.cell? ⟨b,o,none⟩:=World.cell?_of_block (w:=w) h
theorem RepT.mono {ok ok':Nat→Prop} {w w':World} {x:Value} {t:Tr} (h:RepT ok w x t) (hk : ∀ b,ok b→ok' b∧w'.heap[b]? = w.heap[b]?):RepT ok' w' x t:=by
 induction h with
 | v h=>exact .v h
 | lst f h1 h2 h3 h4 h5 h6 _ ih =>
  refine .lst f h1 h2 h3 h4 h5 (fun i row hr => ?_) ih
  obtain ⟨e1,b,o,e2,e3,e4⟩:=h6 i row hr
  exact ⟨e1,b,o,e2,(hk b e3).1,fun j hj=>by rw [cell_same (hk b e3).2]; exact e4 j hj⟩
theorem RepT.nil {ok:Nat→Prop} {w:World} {x:Value} (n B:Nat) (h:RepT ok w x (.v (.slice none 0 0))):RepT ok w x (.lst n B []):=by
 cases h
 exact .lst (fun _ _=>default) rfl (Nat.le_refl _) (by omega) (by omega) (fun _=>rfl) (fun i row h=>by simp at h) (fun i row j t h=>by simp at h)
inductive AV where
 | und
 | tr (t:Tr)
 | agg (l:List AV)
 | tup (l:List AV)
 | ptr (h off:Nat)
 | vpt (h n i off:Nat)
 | sl (h len:Nat)
 | ept (cs:List Tr)
 | fn (f:Nat) (caps:List AV)
 | ifc (t:Nat) (a:AV)
 | mp (h:Nat)
 | ful (n B:Nat) (rows:List (List Tr))
def AV.one:AV→Bool
 | .und | .agg _ | .tup _=>false
 | _=>true
inductive MK where
 | ks (a:ByteArray) | ki (k:IntKind) (n:Int) | kb (x:Bool)
def MK.val:MK→Value | .ks a => .string a | .ki k n => .int k n | .kb x => .bool x
def MK.same:MK→MK→Bool
 | .ks a,.ks c=>a.toList == c.toList
 | .ki _ a,.ki _ c=>a == c
 | .kb a,.kb c=>a == c
 | _,_=>false
def MK.fits:D→MK→Bool
 | .string,.ks _=>true
 | .int k,.ki k' _=>decide (k=k')
 | .bool,.kb _=>true
 | _,_=>false
def MK.of:Value→Option MK | .string a=>some (.ks a) | .int k n=>some (.ki k n) | .bool x=>some (.kb x) | _=>none
def mget:List (MK × Tr)→MK→Option Tr
 | [],_=>none
 | (k,v)::r,q=>bif MK.same q k then some v else mget r q
def mput:List (MK × Tr)→MK→Tr→List (MK × Tr)
 | [],q,x=>[(q,x)]
 | (k,v)::r,q,x=>bif MK.same q k then (q,x)::r else (k,v)::mput r q x
inductive Blk where
 | cells (t:Nat) (l:List AV)
 | vec (e n B:Nat) (rows:List (List Tr))
 | map (kd:D) (es:List (MK × Tr))
 | own (n B:Nat) (rows:List (List Tr)) (ln:List ((Nat × Nat) × (Nat × Nat)))
 | itr (h n:Nat) (seen:List Nat)
 | fns (e B h:Nat) (l:List (Nat × List Tr))
def lnk:List ((Nat × Nat) × (Nat × Nat))→Nat→Nat→Option (Nat × Nat)
 | [],_,_=>none
 | ((i',j'),x)::r,i,j=>bif Nat.beq j' j && Nat.beq i' i then some x else lnk r i j
inductive Loc where
 | blk (b:Nat) | row (b cap:Nat) | nil
def Loc.b:Loc→Option Nat
 | .blk b | .row b _=>some b
 | .nil=>none
inductive HS where
 | un | dead | live (l:Loc)
structure Gh where
 f:Nat→HS
 X:Nat→Prop
 D:List Deferred
 F:Nat→Nat→Prop
instance:CoeFun Gh (fun _=>Nat→HS):=⟨Gh.f⟩
def Owns (g:Gh) (h b:Nat):Prop := ∃ l,g h = .live l∧(l.b=some b∨g.F h b)
theorem Owns.root {g:Gh} {h b:Nat} {l:Loc} (h1:g h = .live l) (h2:l.b=some b):Owns g h b:=⟨l,h1,.inl h2⟩
def okB (g:Gh) (w:World) (b:Nat):Prop:=b<w.heap.size ∧ ¬ g.X b ∧ ∀ h,¬ Owns g h b
def GL (g:Gh) (w:World):Prop := ∀ b Q,glob b Q→(b<w.heap.size ∧ ∀ h,¬ Owns g h b)∧Q w.heap[b]?
inductive Rep (g:Gh) (w:World):Value→AV→Prop
 | und:Rep g w undef .und
 | tr {x:Value} {t:Tr}:RepT (okB g w) w x t→Rep g w x (.tr t)
 | agg {cs:Array Value} {l:List AV}:cs.size=l.length→(∀ a ∈ l,a.one=true)→(∀ (i:Nat) (c:Value) (a:AV),cs[i]? = some c→l[i]? = some a→Rep g w c a)→Rep g w (.agg cs) (.agg l)
 | tup {cs:Array Value} {l:List AV}:cs.size=l.length→(∀ (i:Nat) (c:Value) (a:AV),cs[i]? = some c→l[i]? = some a→Rep g w c a)→Rep g w (.tuple cs) (.tup l)
 | ptrD {x:Value} {h off:Nat}:g h = .dead→x.oneCell'=true→Rep g w x (.ptr h off)
 | ptr {h off b:Nat}:g h = .live (.blk b)→Rep g w (.pointer (some ⟨b,off,none⟩)) (.ptr h off)
 | vptD {x:Value} {h n i off:Nat}:g h = .dead→x.oneCell'=true→Rep g w x (.vpt h n i off)
 | vpt {h n i off b cap:Nat}:g h = .live (.row b cap)→Rep g w (.pointer (some ⟨b,i*n+off,none⟩)) (.vpt h n i off)
 | slD {x:Value} {h len:Nat}:g h = .dead→x.oneCell'=true→Rep g w x (.sl h len)
 | sl {h len b cap:Nat}:g h = .live (.row b cap)→len≤cap→Rep g w (.slice (some ⟨b,0,none⟩) len cap) (.sl h len)
 | slN {h:Nat}:g h = .live .nil→Rep g w (.slice none 0 0) (.sl h 0)
 | ept {b o:Nat} {cs:List Tr} (f:Nat→Value):okB g w b→(∀ j,j<cs.length→w.cell? ⟨b,o+j,none⟩=some (f j))→(∀ j t,cs[j]? = some t→RepT (okB g w) w (f j) t) →
   Rep g w (.pointer (some ⟨b,o,none⟩)) (.ept cs)
 | fn {f:Nat} {cs:Array Value} {l:List AV}:cs.size=l.length→(∀ (i:Nat) (c:Value) (a:AV),cs[i]? = some c→l[i]? = some a→Rep g w c a)→Rep g w (.func (.func f) #[] cs) (.fn f l)
 | ifc {t:Nat} {x:Value} {a:AV}:t<HMod→Rep g w x a→Rep g w (.iface t x) (.ifc t a)
 | bnd {f:Nat} {x:Value} {a:AV}:f<HMod→Rep g w x a→Rep g w (.func (.func f) #[x] #[]) (.ifc (HMod+f) a)
 | psl {len b:Nat} {a:AV}:Rep g w (.pointer (some ⟨b,0,none⟩)) a→Rep g w (.slice (some ⟨b,0,none⟩) len len) (.ifc (2*HMod+len) a)
 | frz {b o:Nat} {v:Value} {a:AV}:okB g w b→w.cell? ⟨b,o,none⟩=some v→Rep g w v a→Rep g w (.pointer (some ⟨b,o,none⟩)) (.ifc (4*HMod) (.fn 0 [a]))
 | win {len cap b o h n i:Nat}:Rep g w (.pointer (some ⟨b,o,none⟩)) (.vpt h n i 0)→len≤cap→cap≤9223372036854775807→Rep g w (.slice (some ⟨b,o,none⟩) len cap) (.ifc (3*HMod) (.vpt h n i len))
 | mpD {x:Value} {h:Nat}:g h = .dead→x.oneCell'=true→Rep g w x (.mp h)
 | mp {h b:Nat}:g h = .live (.blk b)→Rep g w (.map (some b)) (.mp h)
 | ful {x:Value} {n B:Nat} {rows:List (List Tr)}:RepT (okB g w) w x (.lst n B rows)→(∃ ao l,x = .slice ao l l)→Rep g w x (.ful n B rows)
theorem Rep.one {g:Gh} {w:World} {x:Value} {a:AV} (h:Rep g w x a) (h1:a.one=true):x.oneCell'=true:=by
 cases h with
 | tr h=>exact h.one
 | ful h=>exact h.one
 | _=>first | rfl | assumption | cases h1
inductive RepO (w:World):(Nat→Prop)→Value→Tr→Prop
 | v {F:Nat→Prop} {x:Value}:good x→RepO w F x (.v x)
 | nil {F:Nat→Prop} {n B:Nat}:RepO w F (.slice none 0 0) (.lst n B [])
 | lst {F:Nat→Prop} {b cap n B e:Nat} {rows:List (List Tr)} {cur:Array Value} (Fs:Nat→Nat→Nat→Prop) :
   rows.length*B≤150000000000000→0<n→w.heap[b]? = some (.cells cur e (0,0))→rows.length≤cap→cap≤9223372036854775807→cur.size=cap*n→(∀ row ∈ rows,row.length=n) →
   F b→(∀ i j c,Fs i j c→F c∧c≠b)→(∀ i j i' j' c,Fs i j c→Fs i' j' c→i=i'∧j=j') →
   (∀ (i j:Nat) (row:List Tr) (t:Tr) (c:Value),rows[i]? = some row→row[j]? = some t→cur[i*n+j]? = some c→RepO w (Fs i j) c t) →
   RepO w F (.slice (some ⟨b,0,none⟩) rows.length cap) (.lst n B rows)
theorem RepO.mono {w:World} {F F':Nat→Prop} {x:Value} {t:Tr} (h:RepO w F x t) (hF : ∀ b,F b→F' b):RepO w F' x t:=by
 cases h with
 | v h=>exact .v h
 | nil=>exact .nil
 | lst Fs h1 h2 h3 h4 h5 h6 h7 h8 h9 h10 h11=>exact .lst Fs h1 h2 h3 h4 h5 h6 h7 (hF _ h8) (fun i j c h=>⟨hF c (h9 i j c h).1,(h9 i j c h).2⟩) h10 h11
theorem RepO.world {w w':World} {F:Nat→Prop} {x:Value} {t:Tr} (h:RepO w F x t):(∀ b,F b→w'.heap[b]? = w.heap[b]?)→RepO w' F x t:=by
 induction h with
 | v h=>intro _; exact .v h
 | nil=>intro _; exact .nil
 | lst Fs h1 h2 h3 h4 h5 h6 h7 h8 h9 h10 _ ih=>intro hw; exact .lst Fs h1 h2 ((hw _ h8).trans h3) h4 h5 h6 h7 h8 h9 h10 fun i j row t c q1 q2 q3=>ih i j row t c q1 q2 q3 fun b hb=>hw b (h9 i j b hb).1
theorem RepO.one {w:World} {F:Nat→Prop} {x:Value} {t:Tr} (h:RepO w F x t):x.oneCell'=true:=by
 cases h with
 | v h=>exact good_one h
 | nil=>rfl
 | lst=>rfl
def Cells (g:Gh) (w:World) (cs:Array Value) (l:List AV):Prop :=
 cs.size=l.length∧(∀ a ∈ l,a.one=true) ∧ ∀ (i:Nat) (c:Value) (a:AV),cs[i]? = some c→l[i]? = some a→Rep g w c a
def fnAV (h:Nat) (p:Nat × List Tr):AV := .fn p.1 [.ifc (4*HMod) (.fn 0 [.ptr h 0]),.ept p.2]
def BRep (g:Gh) (w:World) (l:Loc) (F:Nat→Prop):Blk→Prop
 | .cells t as => ∃ b cs,l = .blk b∧w.heap[b]? = some (.cells cs t (0,0))∧Cells g w cs as
 | .vec e n B rows=>rows.length*B≤150000000000000∧0<n∧((l = .nil∧rows=[]) ∨ ∃ b cap cur,l = .row b cap∧w.heap[b]? = some (.cells cur e (0,0))∧rows.length≤cap∧cap≤9223372036854775807∧cur.size=cap*n ∧
   (∀ row ∈ rows,row.length=n) ∧ ∀ (i:Nat) (t:Tr),rows.flatten[i]? = some t → ∃ c,cur[i]? = some c∧RepT (okB g w) w c t)
 | .map kd es => ∃ b ents clock,l = .blk b∧w.heap[b]? = some (.map ents clock)∧(ents.size=es.length∧clock=ents.size ∧ ∀ (i:Nat) (en:MapEntry),ents[i]? = some en→en.born=i)∧(∀ p ∈ es,p.1.fits kd=true) ∧
   ∀ (i:Nat) (k:MK) (t:Tr),es[i]? = some (k,t) → ∃ en,ents[i]? = some en∧en.key=k.val∧RepT (okB g w) w en.val t
 | .own n B rows ln=>rows.length*B≤150000000000000∧0<n∧((l = .nil∧rows=[]) ∨ ∃ b cap cur e,∃ Fs:Nat→Nat→Nat→Prop,l = .row b cap∧w.heap[b]? = some (.cells cur e (0,0))∧rows.length≤cap∧cap≤9223372036854775807∧cur.size=cap*n ∧
   (∀ row ∈ rows,row.length=n)∧(∀ i j c,Fs i j c→F c∧c≠b)∧(∀ i j i' j' c,Fs i j c→Fs i' j' c→i=i'∧j=j') ∧
   ∀ (i j:Nat) (row:List Tr) (t:Tr) (c:Value),rows[i]? = some row→row[j]? = some t→cur[i*n+j]? = some c→(lnk ln i j=none→RepO w (Fs i j) c t) ∧ ∀ h len,lnk ln i j=some (h,len)→Rep g w c (.sl h len))
 | .fns e B h fs=>fs.length*B≤150000000000000∧((l = .nil∧fs=[]) ∨ ∃ b cap cur,l = .row b cap∧w.heap[b]? = some (.cells cur e (0,0))∧fs.length≤cap∧cap≤9223372036854775807∧cur.size=cap ∧
   ∀ (i:Nat) (p:Nat × List Tr),fs[i]? = some p → ∃ c,cur[i]? = some c∧Rep g w c (fnAV h p))
 | .itr h n seen => ∃ r b,l = .blk r∧w.heap[r]? = some (.mapIter (some b) n seen.toArray n)∧Rep g w (.map (some b)) (.mp h)
abbrev Mem:=Nat→Option Blk
structure MSt (g:Gh) (w:World) (m:Mem):Prop where
 blk : ∀ h b,m h=some b → ∃ l,g h = .live l∧BRep g w l (g.F h) b
 inj : ∀ h h' b,Owns g h b→Owns g h' b→h=h'
 lt : ∀ h b,Owns g h b→b<w.heap.size
 xlt : ∀ b,g.X b→b<w.heap.size
 xl : ∀ h b,Owns g h b → ¬ g.X b
 gl:GL g w
structure Grow (g:Gh) (w:World) (g':Gh) (w':World):Prop where
 os:w'.os=w.os
 tape:w'.tape=w.tape
 output:w'.output=w.output
 size:w.heap.size≤w'.heap.size
 block : ∀ b,okB g w b→w'.heap[b]? = w.heap[b]?
 xb : ∀ b,g.X b→w'.heap[b]? = w.heap[b]?
 X:g'.X=g.X
 un : ∀ h,g h ≠ .un→g' h ≠ .un
 live : ∀ h l,g' h = .live l→g h = .live l∨g h = .un
 new : ∀ h b,Owns g' h b→(∃ h2,Owns g h2 b)∨w.heap.size≤b
theorem GL.grow {g g':Gh} {w w':World} (h:GL g w) (hg:Grow g w g' w'):GL g' w':=fun b Q hq=>by
 obtain ⟨⟨h1,h2⟩,h3⟩:=h b Q hq
 have e:w'.heap[b]? = w.heap[b]? := by
  by_cases hx:g.X b
  ·exact hg.xb b hx
  ·exact hg.block b ⟨h1,hx,h2⟩
 refine ⟨⟨Nat.lt_of_lt_of_le h1 hg.size,fun k ho => ?_⟩,by rw [e]; exact h3⟩
 rcases hg.new k b ho with ⟨k2,e2⟩ | e2
 ·exact h2 k2 e2
 ·omega
theorem Grow.refl (g:Gh) (w:World):Grow g w g w:=⟨rfl,rfl,rfl,Nat.le_refl _,fun _ _=>rfl,fun _ _=>rfl,rfl,fun _ h=>h,fun _ _ h => .inl h,fun h b e => .inl ⟨h,e⟩⟩
theorem Grow.ok {g g':Gh} {w w':World} (h:Grow g w g' w') {b:Nat} (hb:okB g w b):okB g' w' b∧w'.heap[b]? = w.heap[b]? := by
 refine ⟨⟨Nat.lt_of_lt_of_le hb.1 h.size,by rw [h.X]; exact hb.2.1,fun k e1 => ?_⟩,h.block b hb⟩
 rcases h.new k b e1 with ⟨k2,e3⟩ | e
 ·exact hb.2.2 k2 e3
 ·have:=hb.1; omega
theorem Grow.trans {g g' g'':Gh} {w w' w'':World} (h:Grow g w g' w') (k:Grow g' w' g'' w''):Grow g w g'' w'':=by
 refine ⟨k.os.trans h.os,k.tape.trans h.tape,k.output.trans h.output,Nat.le_trans h.size k.size,fun b hb => ?_,fun b hb=>(k.xb b (by rw [h.X]; exact hb)).trans (h.xb b hb),k.X.trans h.X,fun x hx=>k.un x (h.un x hx),fun x l hx => ?_,fun x b e1 => ?_⟩
 ·exact (k.block b (h.ok hb).1).trans (h.block b hb)
 ·rcases k.live x l hx with e | e
  ·exact h.live x l e
  ·refine .inr ?_
   cases hg:g x with
   | un=>rfl
   | dead=>exact absurd e (h.un x (by rw [hg]; simp))
   | live l=>exact absurd e (h.un x (by rw [hg]; simp))
 ·rcases k.new x b e1 with ⟨h2,e3⟩ | e
  ·exact h.new h2 b e3
  ·exact .inr (Nat.le_trans h.size e)
theorem RepT.grow {g g':Gh} {w w':World} (h:Grow g w g' w') {x:Value} {t:Tr} (hr:RepT (okB g w) w x t):RepT (okB g' w') w' x t:=hr.mono fun _ hb=>h.ok hb
theorem Grow.dead {g g':Gh} {w w':World} (h:Grow g w g' w') {k:Nat} (hk:g k = .dead):g' k = .dead:=by
 cases hg:g' k with
 | un=>exact absurd hg (h.un k (by rw [hk]; simp))
 | dead=>rfl
 | live l=>rcases h.live k l hg with e | e <;> rw [hk] at e <;> cases e
theorem Grow.was {g g':Gh} {w w':World} (h:Grow g w g' w') {k:Nat} {l:Loc} (hk:g k = .live l):g' k = .dead∨g' k = .live l:=by
 cases hg:g' k with
 | un=>exact absurd hg (h.un k (by rw [hk]; simp))
 | dead=>exact .inl rfl
 | live l'=>rcases h.live k l' hg with e | e <;> rw [hk] at e <;> cases e; exact .inr rfl
theorem Rep.grow {g g':Gh} {w w':World} (h:Grow g w g' w') {x:Value} {a:AV} (hr:Rep g w x a):Rep g' w' x a:=by
 induction hr with
 | und=>exact .und
 | tr hr=>exact .tr (hr.grow h)
 | agg h1 h2 _ ih=>exact .agg h1 h2 ih
 | tup h1 _ ih=>exact .tup h1 ih
 | ptrD h1 h2=>exact .ptrD (h.dead h1) h2
 | ptr h1=>exact (h.was h1).elim (fun e => .ptrD e rfl) (fun e => .ptr e)
 | vptD h1 h2=>exact .vptD (h.dead h1) h2
 | vpt h1=>exact (h.was h1).elim (fun e => .vptD e rfl) (fun e => .vpt e)
 | slD h1 h2=>exact .slD (h.dead h1) h2
 | sl h1 h2=>exact (h.was h1).elim (fun e => .slD e rfl) (fun e => .sl e h2)
 | slN h1=>exact (h.was h1).elim (fun e => .slD e rfl) (fun e => .slN e)
 | ept f h1 h2 h3=>exact .ept f (h.ok h1).1 (fun j hj=>by rw [cell_same (h.ok h1).2]; exact h2 j hj) (fun j t hj=>(h3 j t hj).grow h)
 | fn h1 _ ih=>exact .fn h1 ih
 | ifc ht _ ih=>exact .ifc ht ih
 | bnd hf _ ih=>exact .bnd hf ih
 | psl _ ih=>exact .psl ih
 | frz h1 h2 _ ih=>exact .frz (h.ok h1).1 (by rw [cell_same (h.ok h1).2]; exact h2) ih
 | win _ h2 h3 ih=>exact .win ih h2 h3
 | mpD h1 h2=>exact .mpD (h.dead h1) h2
 | mp h1=>exact (h.was h1).elim (fun e => .mpD e rfl) (fun e => .mp e)
 | ful h1 h2=>exact .ful (h1.grow h) h2
theorem Cells.grow {g g':Gh} {w w':World} (h:Grow g w g' w') {cs:Array Value} {l:List AV} (hc:Cells g w cs l):Cells g' w' cs l :=
 ⟨hc.1,hc.2.1,fun i c a h1 h2=>(hc.2.2 i c a h1 h2).grow h⟩
theorem BRep.grow {g g':Gh} {w w':World} (h:Grow g w g' w') {l:Loc} {F:Nat→Prop} {b:Blk} (hb:BRep g w l F b) (hs : ∀ k,l.b=some k∨F k→w'.heap[k]? = w.heap[k]?):BRep g' w' l F b:=by
 cases b with
 | cells t as =>
  obtain ⟨k,cs,rfl,e,hc⟩:=hb
  exact ⟨k,cs,rfl,(hs k (.inl rfl)).trans e,hc.grow h⟩
 | vec e n B rows =>
  obtain ⟨hB,hn,hv⟩:=hb
  refine ⟨hB,hn,?_⟩
  rcases hv with hv | ⟨k,cap,cur,rfl,e1,e2,e3,e4,e5,e6⟩
  ·exact .inl hv
  ·exact .inr ⟨k,cap,cur,rfl,(hs k (.inl rfl)).trans e1,e2,e3,e4,e5,fun i t hi=>by obtain ⟨c,c1,c2⟩:=e6 i t hi; exact ⟨c,c1,c2.grow h⟩⟩
 | map kd es =>
  obtain ⟨k,ents,clock,rfl,e1,e2,e3,e4⟩:=hb
  exact ⟨k,ents,clock,rfl,(hs k (.inl rfl)).trans e1,e2,e3,fun i q t hi=>by obtain ⟨en,c1,c2,c3⟩:=e4 i q t hi; exact ⟨en,c1,c2,c3.grow h⟩⟩
 | itr h0 n seen =>
  obtain ⟨r,b,rfl,e1,e2⟩:=hb
  exact ⟨r,b,rfl,(hs r (.inl rfl)).trans e1,e2.grow h⟩
 | fns e B h0 fs =>
  obtain ⟨hB,hv⟩:=hb
  refine ⟨hB,?_⟩
  rcases hv with hv | ⟨k,cap,cur,rfl,e1,e2,e3,e4,e5⟩
  ·exact .inl hv
  ·exact .inr ⟨k,cap,cur,rfl,(hs k (.inl rfl)).trans e1,e2,e3,e4,fun i p hi=>by obtain ⟨c,c1,c2⟩:=e5 i p hi; exact ⟨c,c1,c2.grow h⟩⟩
 | own n B rows ln =>
  obtain ⟨hB,hn,hv⟩:=hb
  refine ⟨hB,hn,?_⟩
  rcases hv with hv | ⟨k,cap,cur,e,Fs,rfl,e1,e2,e3,e4,e5,e6,e7,e8⟩
  ·exact .inl hv
  ·exact .inr ⟨k,cap,cur,e,Fs,rfl,(hs k (.inl rfl)).trans e1,e2,e3,e4,e5,e6,e7,fun i j row t c q1 q2 q3=>⟨fun q=>((e8 i j row t c q1 q2 q3).1 q).world fun b hb=>hs b (.inr (e6 i j b hb).1),fun h' len q=>((e8 i j row t c q1 q2 q3).2 h' len q).grow h⟩⟩
end Go.Proofs.YtbflekglkkdipaaGreatDoor.am
namespace Go.Proofs.YtbflekglkkdipaaGreatDoor.am
open Go
abbrev KK:=AV→List (Nat × Blk)→List (Nat × Option Blk)→Prop
def updM (m:Mem) (up:List (Nat × Option Blk)):Mem:=fun h=>match lk up h with | some x=>x | none=>m h
def AV.cells:AV→Option (List AV)
 | .agg l=>some l
 | .und | .tup _=>none
 | a=>some [a]
def trs:List AV→Option (List Tr)
 | []=>some []
 | .tr t::r=>match trs r with | some l=>some (t::l) | none=>none
 | _::_=>none
def AV.trCells (a:AV):Option (List Tr):=match a.cells with | some l=>trs l | none=>none
def zeros (zs:List Z):List AV:=zs.map fun z => .tr (.v z.val)
def ztrs (zs:List Z):List Tr:=zs.map fun z => .v z.val
def hasSl:List Z→Bool
 | []=>false
 | .sl::_=>true
 | _::r=>hasSl r
def hasArr (T:Ty):D→Bool
 | .struct fs=>fs.any fun p=>match lk T p.1 with | some i=>(match i.d with | .array _ _=>true | _=>false) | none=>false
 | _=>false
def rowTy (T:Ty) (i:TyI):Bool:=hasSl i.zero && Nat.ble 1 i.size && hasArr T i.d
def rowAV (ln:List ((Nat × Nat) × (Nat × Nat))) (i:Nat):Nat→List Tr→List AV
 | _,[]=>[]
 | j,t::r=>(match lnk ln i j with | some (h,len) => .sl h len | none => .tr t)::rowAV ln i (j+1) r
def D.isIface:D→Bool | .iface=>true | _=>false
def dOf (T:Ty) (t:Nat):Option D:=match lk T t with | some i=>some i.d | none=>none
def aload (T:Ty) (m:Mem) (ty:Nat) (K:KK):AV→Prop
 | .ptr h off=>match lk T ty,m h with
  | some i,some (.cells t l)=>bif i.d.agg then (bif Nat.ble (off+i.size) l.length then K (.agg ((l.drop off).take i.size)) [(h,.cells t l)] [] else False)
    else match l[off]? with | some a=>K a [(h,.cells t l)] [] | none=>False
  | _,_=>False
 | .vpt h n i off=>match lk T ty,m h with
  | some ti,some (.vec e n' B rows)=>n=n'∧i<rows.length ∧ ∀ row,rows[i]? = some row →
    (bif ti.d.agg then off+ti.size≤row.length∧K (.agg (((row.drop off).take ti.size).map .tr)) [(h,.vec e n' B rows)] []
    else off<row.length ∧ ∀ t,row[off]? = some t→K (.tr t) [(h,.vec e n' B rows)] [])
  | _,_=>False
 | .ept cs=>match lk T ty with
  | some i=>bif i.d.agg then (bif Nat.ble i.size cs.length then K (.agg ((cs.take i.size).map .tr)) [] [] else False)
    else match cs with | t::_=>K (.tr t) [] [] | []=>False
  | none=>False
 | _=>False
def astore (T:Ty) (m:Mem) (ty:Nat) (a:AV) (K:KK):AV→Prop
 | .ptr h off=>match lk T ty,m h,a.cells with
  | some i,some (.cells t l),some cs=>bif Nat.beq cs.length i.size && cs.all AV.one && Nat.ble (off+cs.length) l.length then
    K .und [(h,.cells t l)] [(h,some (.cells t (l.take off++cs++l.drop (off+cs.length))))] else False
  | _,_,_=>False
 | .vpt h n i off=>match lk T ty,m h,a.trCells with
  | some ti,some (.vec e n' B rows),some cs=>n=n'∧cs.length=ti.size∧i<rows.length ∧ ∀ row,rows[i]? = some row→off+cs.length≤row.length ∧
    K .und [(h,.vec e n' B rows)] [(h,some (.vec e n' B (rows.set i (row.take off++cs++row.drop (off+cs.length)))))]
  | _,_,_=>False
 | _=>False
def ocell:AV→Option (Tr × Option (Nat × Nat))
 | .tr (.v x)=>some (.v x,none)
 | .sl h len=>some (.v (.slice none 0 0),some (h,len))
 | _=>none
def ocells (i:Nat):Nat→List AV→Option (List Tr × List ((Nat × Nat) × (Nat × Nat)))
 | _,[]=>some ([],[])
 | j,a::r=>match ocell a,ocells i (j+1) r with
  | some (t,l),some (ts,ls)=>some (t::ts,match l with | some x=>((i,j),x)::ls | none=>ls)
  | _,_=>none
def lnCut (off k:Nat):List ((Nat × Nat) × (Nat × Nat))→List ((Nat × Nat) × (Nat × Nat))
 | []=>[]
 | p::r=>bif Nat.ble off p.1.2 && Nat.blt p.1.2 (off+k) then lnCut off k r else p::lnCut off k r
def lnOk (i off k:Nat):List ((Nat × Nat) × (Nat × Nat))→Prop
 | []=>True
 | p::r=>((Nat.ble off p.1.2 && Nat.blt p.1.2 (off+k))=true→p.1.1=i)∧lnOk i off k r
def lnFar (i off k:Nat):List ((Nat × Nat) × (Nat × Nat))→Prop
 | []=>True
 | p::r=>((Nat.ble off p.1.2 && Nat.blt p.1.2 (off+k))=true→p.1.1≠i)∧lnFar i off k r
def astoreO (T:Ty) (m:Mem) (ty:Nat) (b:AV) (K:KK):AV→Prop
 | .vpt h n i off=>match m h with
  | some (.own n' B rows ln)=>match lk T ty,b.cells with
   | some ti,some as=>match ocells i off as with
    | some (ts,ls)=>match ln with
     | []=>n=n'∧as.all AV.one=true∧as.length=ti.size∧i<rows.length∧True ∧ ∀ row,rows[i]? = some row→off+as.length≤row.length ∧
      K .und [(h,.own n' B rows [])] [(h,some (.own n' B (rows.set i (row.take off++ts++row.drop (off+ts.length))) (ls++[])))]
     | p::r=>(n=n'∧as.all AV.one=true∧as.length=ti.size∧i<rows.length∧lnOk i off as.length (p::r) ∧ ∀ row,rows[i]? = some row→off+as.length≤row.length ∧
      K .und [(h,.own n' B rows (p::r))] [(h,some (.own n' B (rows.set i (row.take off++ts++row.drop (off+ts.length))) (ls++lnCut off as.length (p::r))))]) ∨
      (n=n'∧as.all AV.one=true∧as.length=ti.size∧i<rows.length∧lnFar i off as.length (p::r) ∧ ∀ row,rows[i]? = some row→off+as.length≤row.length ∧
      K .und [(h,.own n' B rows (p::r))] [(h,some (.own n' B (rows.set i (row.take off++ts++row.drop (off+ts.length))) (ls++(p::r))))])
    | none=>False
   | _,_=>False
  | _=>astore T m ty b K (.vpt h n i off)
 | a=>astore T m ty b K a
def aloadO (T:Ty) (m:Mem) (nh ty:Nat) (K:KK):AV→Prop
 | .vpt h n i off=>match m h with
  | some (.own n' B rows ln)=>match lk T ty with
   | some ti=>bif ti.d.agg then (bif hasSl ti.zero then n=n'∧i<rows.length ∧ ∀ row,rows[i]? = some row→off+ti.size≤row.length ∧
       (((∀ j t,off≤j→j<off+ti.size→row[j]? = some t→lnk ln i j=none → ∃ x,t = .v x)∧K (.agg (rowAV ln i off ((row.drop off).take ti.size))) [(h,.own n' B rows ln)] []) ∨
        ∃ j n2 B2 rows2,off≤j∧j<off+ti.size∧row[j]? = some (.lst n2 B2 rows2)∧0<n2∧(∀ k,off≤k→k<off+ti.size→lnk ln i k=none)∧(∀ k t,off≤k→k<off+ti.size→k≠j→row[k]? = some t → ∃ x,t = .v x) ∧
          K (.agg ((((row.drop off).take ti.size).map .tr).set (j - off) (.sl nh rows2.length))) [(h,.own n' B rows ln)] [(nh,some (.own n2 B2 rows2 [])),(h,some (.own n' B rows (((i,j),(nh,rows2.length))::ln)))])
      else n=n'∧i<rows.length ∧ ∀ row,rows[i]? = some row→off+ti.size≤row.length∧(∀ t ∈ (row.drop off).take ti.size,∃ x,t = .v x)∧(∀ j,off≤j→j<off+ti.size→lnk ln i j=none) ∧
      K (.agg (((row.drop off).take ti.size).map .tr)) [(h,.own n' B rows ln)] [])
     else n=n'∧i<rows.length ∧ ∀ row,rows[i]? = some row→off<row.length ∧ ∀ t,row[off]? = some t→match lnk ln i off with
      | some (c,len)=>K (.sl c len) [(h,.own n' B rows ln)] []
      | none=>match t with
       | .v x=>K (.tr (.v x)) [(h,.own n' B rows ln)] []
       | .lst n2 B2 rows2=>0<n2∧K (.sl nh rows2.length) [(h,.own n' B rows ln)] [(nh,some (.own n2 B2 rows2 [])),(h,some (.own n' B rows (((i,off),(nh,rows2.length))::ln)))]
   | none=>False
  | _=>aload T m ty K (.vpt h n i off)
 | a=>aload T m ty K a
def fillS (T:Ty) (fs:List (Nat × Nat)):List AV→List (Nat × Option AV)→Option (List AV)
 | l,[]=>some l
 | l,(i,a)::r=>match fs[i]?,a with
  | some (ft,off),some a=>match lk T ft,a.cells with
   | some ti,some cs=>bif Nat.beq cs.length ti.size && cs.all AV.one && Nat.ble (off+cs.length) l.length then fillS T fs (l.take off++cs++l.drop (off+cs.length)) r else none
   | _,_=>none
  | _,_=>none
def fillA (size:Nat):List AV→List (Nat × Option AV)→Option (List AV)
 | l,[]=>some l
 | l,(i,a)::r=>match a with
  | some a=>match a.cells with
   | some cs=>bif Nat.beq cs.length size && cs.all AV.one && Nat.ble (i*size+cs.length) l.length then fillA size (l.take (i*size)++cs++l.drop (i*size+cs.length)) r else none
   | none=>none
  | none=>none
def rowsOf (size:Nat):Nat→List (Nat × Option AV)→Option (List (List Tr))
 | _,[]=>some []
 | k,(i,a)::r=>bif Nat.beq i k then (match a with
   | some a=>match a.trCells with
    | some cs=>bif Nat.beq cs.length size then (match rowsOf size (k+1) r with | some l=>some (cs::l) | none=>none) else none
    | none=>none
   | none=>none) else none
def ptrsOf:Nat→List (Nat × Option AV)→Option (List AV)
 | _,[]=>some []
 | k,(i,a)::r=>bif Nat.beq i k then (match a with
   | some (.ptr h off)=>match ptrsOf (k+1) r with | some l=>some (.ptr h off::l) | none=>none
   | some (.fn f cs)=>match ptrsOf (k+1) r with | some l=>some (.fn f cs::l) | none=>none
   | some a=>bif a.one then (match ptrsOf (k+1) r with | some l=>some (a::l) | none=>none) else none
   | none=>none) else none
def rowsOO (size:Nat):Nat→List (Nat × Option AV)→Option (List (List Tr) × List ((Nat × Nat) × (Nat × Nat)))
 | _,[]=>some ([],[])
 | k,(i,a)::r=>bif Nat.beq i k then (match a with
   | some a=>match a.cells with
    | some as=>bif Nat.beq as.length size && as.all AV.one then (match ocells k 0 as,rowsOO size (k+1) r with | some (ts,ls),some (rows,ln)=>some (ts::rows,ls++ln) | _,_=>none) else none
    | none=>none
   | none=>none) else none
def abin (d:Option D) (op:BinOp):Value→Value→Option (Option Prop × Value)
 | .int k a,.int k' b=>match op with
  | .shl=>some (some (0≤b),.int k (k.wrap (a*2 ^ (min b.toNat k.bits))))
  | .shr=>some (some (0≤b),.int k (a.fdiv (2 ^ (min b.toNat k.bits))))
  | op=>if k=k' then (match op with
   | .add=>some (none,.int k (k.wrap (a+b)))
   | .sub=>some (none,.int k (k.wrap (a - b)))
   | .mul=>some (none,.int k (k.wrap (a*b)))
   | .quo=>some (some (b≠0),.int k (k.wrap (a.tdiv b)))
   | .rem=>some (some (b≠0),.int k (a.tmod b))
   | .and=>some (none,.int k (k.wrap (BitVec.ofInt k.bits a &&& BitVec.ofInt k.bits b).toNat))
   | .or=>some (none,.int k (k.wrap (BitVec.ofInt k.bits a ||| BitVec.ofInt k.bits b).toNat))
   | .xor=>some (none,.int k (k.wrap (BitVec.ofInt k.bits a ^^^ BitVec.ofInt k.bits b).toNat))
   | .andNot=>some (none,.int k (k.wrap (BitVec.ofInt k.bits a &&& ~~~BitVec.ofInt k.bits b).toNat))
   | .eql=>some (none,.bool (a == b))
   | .neq=>some (none,.bool (a != b))
   | .lss=>some (none,.bool (decide (a<b)))
   | .leq=>some (none,.bool (decide (a≤b)))
   | .gtr=>some (none,.bool (decide (a > b)))
   | .geq=>some (none,.bool (decide (a ≥ b)))
   | _=>none) else none
 | .string a,.string b=>match op with
  | .add=>some (some (a.size+b.size≤9223372036854775807),.string (a++b))
  | .eql=>some (none,.bool (a.toList == b.toList))
  | .neq=>some (none,.bool (!(a.toList == b.toList)))
  | _=>none
 | .bool a,.bool b=>match d,op with
  | some .bool,.eql=>some (none,.bool (a == b))
  | some .bool,.neq=>some (none,.bool (!(a == b)))
  | _,_=>none
 | _,_=>none
def aun (op:UnOp):Value→Option Value
 | .int k n=>match op with
  | .neg=>some (.int k (k.wrap (0 - n)))
  | .xor=>some (.int k (k.wrap (BitVec.ofInt k.bits (if k.signed then -1 else k.max) ^^^ BitVec.ofInt k.bits n).toNat))
  | _=>none
 | .bool b=>match op with | .not=>some (.bool !b) | _=>none
 | _=>none
def nilB (d:Option D) (y:Operand) (a b:Value):Bool:=match a,b with
 | .nilIface,.nilIface=>match y,d with
  | .const _,some .iface=>true
  | _,_=>false
 | .pointer none,.pointer none=>match d with
  | some (.ptr _)=>true
  | _=>false
 | .slice none 0 0,.slice none 0 0=>match d with
  | some (.slice _)=>true
  | _=>false
 | _,_=>false
def under (c:Option Prop) (X:Prop):Prop:=match c with | none=>X | some p=>p∧X
def aindexAddr (T:Ty) (m:Mem) (ty:Nat) (z:Int) (K:KK):AV→Prop
 | .tr (.lst n B rows)=>match lk T ty with
  | some ⟨.slice e,_,_,_,_⟩=>match lk T e with
   | some te=>te.size=n∧0≤z∧z<rows.length ∧ ∀ row,rows[z.toNat]? = some row→K (.ept row) [] []
   | none=>False
  | _=>False
 | .sl h len=>match lk T ty,m h with
  | some ⟨.slice e,_,_,_,_⟩,some (.vec e' n B rows)=>match lk T e with
   | some te=>te.size=n∧0≤z∧z<len∧K (.vpt h n z.toNat 0) [(h,.vec e' n B rows)] []
   | none=>False
  | _,_=>False
 | .ptr h off=>match lk T ty,m h with
  | some ⟨.array k e,_,_,_,_⟩,some b=>match lk T e with
   | some te=>0≤z∧z<k∧K (.ptr h (off+z.toNat*te.size)) [(h,b)] []
   | none=>False
  | _,_=>False
 | _=>False
def aindexAddrO (T:Ty) (m:Mem) (ty:Nat) (z:Int) (K:KK):AV→Prop
 | .sl h len=>match m h with
  | some (.own n B rows ln)=>match lk T ty with
   | some ⟨.slice e,_,_,_,_⟩=>match lk T e with
    | some te=>te.size=n∧0≤z∧z<len∧K (.vpt h n z.toNat 0) [(h,.own n B rows ln)] []
    | none=>False
   | _=>False
  | _=>aindexAddr T m ty z K (.sl h len)
 | .ifc t (.ptr h off)=>match lk T ty,m h with
  | some ⟨.slice e,_,_,_,_⟩,some b=>match lk T e with
   | some te=>bif Nat.ble (2*HMod) t && Nat.beq te.size 1 then 0≤z∧z<(t - 2*HMod:Nat)∧K (.ptr h (off+z.toNat)) [(h,b)] [] else False
   | none=>False
  | _,_=>False
 | .vpt h n i off=>match lk T ty,m h with
  | some ⟨.array k e,_,_,_,_⟩,some b=>match lk T e with
   | some te=>0≤z∧z<k∧K (.vpt h n i (off+z.toNat*te.size)) [(h,b)] []
   | none=>False
  | _,_=>False
 | a=>aindexAddr T m ty z K a
def aindex (T:Ty) (ty:Nat) (z:Int) (K:KK):AV→Prop
 | .tr (.v (.string s))=>match lk T ty with
  | some ⟨.string,_,_,_,_⟩=>0≤z∧z<s.size ∧ ∀ b,s[z.toNat]? = some b→K (.tr (.v (.int .u8 b.toNat))) [] []
  | _=>False
 | .agg l=>match lk T ty with
  | some ⟨.array k e,_,_,_,_⟩=>match lk T e with
   | some te=>0≤z∧z<k∧(bif te.d.agg then z.toNat*te.size+te.size≤l.length∧K (.agg ((l.drop (z.toNat*te.size)).take te.size)) [] []
     else te.size=1∧z.toNat<l.length ∧ ∀ a,l[z.toNat]? = some a→K a [] [])
   | none=>False
  | _=>False
 | _=>False
def afieldAddr (T:Ty) (m:Mem) (ty f:Nat) (K:KK) (x:AV):Prop :=
 match lk T ty with
 | some ⟨.struct fs,_,_,_,_⟩=>match fs[f]? with
  | some (ft,off)=>match lk T ft with
   | some ti=>bif Nat.beq ti.size 0 then False else match x with
    | .ptr h o=>match m h with | some b=>K (.ptr h (o+off)) [(h,b)] [] | none=>False
    | .vpt h n i o=>match m h with | some b=>K (.vpt h n i (o+off)) [(h,b)] [] | none=>False
    | .ept cs=>K (.ept (cs.drop off)) [] []
    | _=>False
   | none=>False
  | none=>False
 | _=>False
def afield (T:Ty) (ty f:Nat) (K:KK) (x:AV):Prop :=
 match lk T ty,x with
 | some ⟨.struct fs,_,_,_,_⟩,.agg l=>match fs[f]? with
  | some (ft,off)=>match lk T ft with
   | some ti=>bif ti.d.agg then (bif Nat.ble (off+ti.size) l.length then K (.agg ((l.drop off).take ti.size)) [] [] else False)
     else match l[off]? with | some a=>K a [] [] | none=>False
   | none=>False
  | none=>False
 | _,_=>False
def alen (T:Ty) (m:Mem) (ty:Nat) (K:KK):AV→Prop
 | .tr (.v (.string s))=>match lk T ty with
  | some ⟨.string,_,_,_,_⟩=>K (.tr (.v (.int .i64 s.size))) [] []
  | _=>False
 | .tr (.v (.slice _ l _))=>match lk T ty with
  | some ⟨.slice _,_,_,_,_⟩=>K (.tr (.v (.int .i64 l))) [] []
  | _=>False
 | .tr (.lst _ _ rows)=>match lk T ty with
  | some ⟨.slice _,_,_,_,_⟩=>K (.tr (.v (.int .i64 rows.length))) [] []
  | _=>False
 | .sl h len=>match lk T ty,m h with
  | some ⟨.slice _,_,_,_,_⟩,some b=>K (.tr (.v (.int .i64 len))) [(h,b)] []
  | _,_=>False
 | .agg _=>match lk T ty with
  | some ⟨.array n _,_,_,_,_⟩=>bif Nat.ble n 9223372036854775807 then K (.tr (.v (.int .i64 n))) [] [] else False
  | _=>False
 | .ifc t (.ptr _ _)=>match lk T ty with
  | some ⟨.slice _,_,_,_,_⟩=>bif Nat.ble (2*HMod) t && Nat.ble (t - 2*HMod) 9223372036854775807 then K (.tr (.v (.int .i64 ((t - 2*HMod:Nat):Int)))) [] [] else False
  | _=>False
 | _=>False
def srcRows (n:Nat) (m:Mem):AV→Option (List (List Tr) × List (Nat × Blk))
 | .tr (.v (.slice none 0 0))=>some ([],[])
 | .tr (.lst n' _ rows)=>bif Nat.beq n n' then some (rows,[]) else none
 | .sl h len=>match m h with
  | some (.vec e n' B rows)=>bif Nat.beq n n' && Nat.ble len rows.length then some (rows.take len,[(h,.vec e n' B rows)]) else none
  | _=>none
 | _=>none
def aappend (T:Ty) (m:Mem) (nh ty:Nat) (x y:AV) (K:KK):Prop :=
 match lk T ty with
 | some ⟨.slice e,_,_,_,_⟩=>match lk T e with
  | some te=>match (bif Nat.ble 1 te.size && Nat.ble 1 te.bytes then srcRows te.size m y else none) with
   | some (news,rd)=>match x with
    | .tr (.v (.slice none 0 0))=>news.length*te.bytes≤150000000000000∧K (.sl nh news.length) rd [(nh,some (.vec e te.size te.bytes news))]
    | .sl h len=>match m h with
     | some (.vec e' n B rows)=>e'=e∧n=te.size∧B=te.bytes∧len≤rows.length∧(len+news.length)*te.bytes≤150000000000000∧(∀ p ∈ rd,p.1≠h) ∧
       K (.sl nh (len+news.length)) ((h,.vec e' n B rows)::rd) [(nh,some (.vec e te.size te.bytes (rows.take len++news))),(h,none)]
     | _=>False
    | _=>False
   | none=>False
  | none=>False
 | _=>False
def leafR (rows:List (List Tr)):Prop := ∀ row ∈ rows,∀ t ∈ row,∃ x,t = .v x
def leafC (fl:Bool) (rows:List (List Tr)):Prop:=match fl with | true=>leafR rows | false=>True
def lnShift (k:Nat):List ((Nat × Nat) × (Nat × Nat))→List ((Nat × Nat) × (Nat × Nat))
 | []=>[]
 | ((i,j),x)::r=>((k+i,j),x)::lnShift k r
def lnLt (k:Nat):List ((Nat × Nat) × (Nat × Nat))→Prop
 | []=>True
 | p::r=>p.1.1<k∧lnLt k r
def Blk.asO:Blk→Option (Nat × Nat × List (List Tr) × List ((Nat × Nat) × (Nat × Nat)) × Bool)
 | .own n B rows ln=>some (n,B,rows,ln,false)
 | .vec _ n B rows=>some (n,B,rows,[],true)
 | _=>none
def isOwn (m:Mem):AV→Bool
 | .sl h _=>match m h with | some (.own _ _ _ _)=>true | _=>false
 | _=>false
def mO (m:Mem) (h:Nat):Option (Blk × Nat × Nat × List (List Tr) × List ((Nat × Nat) × (Nat × Nat)) × Bool):=match m h with
 | some b=>match b.asO with | some x=>some (b,x) | none=>none
 | none=>none
def appX (m:Mem) (nh e:Nat) (te:TyI) (news:List (List Tr)) (rd:List (Nat × Blk)) (K:KK):AV→Prop
 | .tr (.v (.slice none 0 0))=>news.length*te.bytes≤150000000000000∧K (.sl nh news.length) rd [(nh,some (.vec e te.size te.bytes news))]
 | .sl h len=>match m h with
  | some (.vec e' n B rows)=>e'=e∧n=te.size∧B=te.bytes∧len≤rows.length∧(len+news.length)*te.bytes≤150000000000000∧(∀ p ∈ rd,p.1≠h) ∧
    K (.sl nh (len+news.length)) ((h,.vec e' n B rows)::rd) [(nh,some (.vec e te.size te.bytes (rows.take len++news))),(h,none)]
  | _=>False
 | _=>False
def aappendO (T:Ty) (m:Mem) (nh ty:Nat) (x y:AV) (K:KK):Prop :=
 match isOwn m x || isOwn m y with
 | true=>match lk T ty with
  | some ⟨.slice e,_,_,_,_⟩=>match lk T e,y with
   | some te,.sl h2 len2=>match mO m h2 with
    | some (b2,n2,B2,rows2,ln2,f2)=>bif Nat.beq n2 te.size && Nat.beq B2 te.bytes && Nat.ble 1 te.size && Nat.ble 1 te.bytes then (match x with
     | .tr (.v (.slice none 0 0))=>len2=rows2.length∧1≤len2∧leafC f2 rows2∧K (.sl nh len2) [(h2,b2)] [(nh,some (.own te.size te.bytes rows2 ln2)),(h2,none)]
     | .sl h len=>match mO m h with
      | some (b,n,B,rows,ln,f)=>bif f && !f2 && ln2.isEmpty then (leafR rows2∧len2=rows2.length∧appX m nh e te rows2 [(h2,b2)] K (.sl h len)) else (bif Nat.beq n te.size && Nat.beq B te.bytes && !Nat.beq h h2 then
        len=rows.length∧len2=rows2.length∧1≤len2∧(len+len2)*te.bytes≤150000000000000∧leafC f rows∧leafC f2 rows2∧lnLt len ln ∧
         K (.sl nh (len+len2)) [(h,b),(h2,b2)] [(nh,some (.own te.size te.bytes (rows++rows2) (lnShift len ln2++ln))),(h,none),(h2,none)] else False)
      | none=>False
     | _=>False) else False
    | none=>False
   | _,_=>False
  | _=>False
 | false=>aappend T m nh ty x y K
def brows (l:List UInt8):List (List Tr):=l.map fun b=>[.v (.int .u8 b.toNat)]
def byteT (te:TyI):Bool:=decide (te.d = .int .u8) && decide (te.size=1) && decide (te.bytes=1) && decide (te.zero=[.i .u8])
def aappendS (T:Ty) (m:Mem) (nh ty ty':Nat) (x:AV) (s:ByteArray) (K:KK):Prop :=
 match lk T ty,dOf T ty' with
 | some ⟨.slice e,_,_,_,_⟩,some .string=>match lk T e with
  | some te=>bif byteT te then (match x with
   | .tr (.v (.slice none 0 0))=>s.size≤140737488351232∧K (.sl nh s.size) [] [(nh,some (.vec e 1 1 (brows s.data.toList)))]
   | .sl h len=>match m h with
    | some (.vec e' n B rows)=>e'=e∧n=1∧B=1∧len≤rows.length∧len+s.size≤140737488351232 ∧
      K (.sl nh (len+s.size)) [(h,.vec e' n B rows)] [(nh,some (.vec e 1 1 (rows.take len++brows s.data.toList))),(h,none)]
    | _=>False
   | _=>False) else False
  | none=>False
 | _,_=>False
def aappendZ (T:Ty) (nh ty ty':Nat) (z:Int) (K:KK):Prop :=
 match lk T ty,dOf T ty' with
 | some ⟨.slice e,_,_,_,_⟩,some (.int _)=>match lk T e with
  | some te=>bif Nat.ble 1 te.size && Nat.ble 1 te.bytes then 0≤z∧z*te.bytes≤140737488351232 ∧
    K (.sl nh z.toNat) [] [(nh,some (.vec e te.size te.bytes (List.replicate z.toNat (ztrs te.zero))))] else False
  | none=>False
 | _,_=>False
def aappendF (T:Ty) (m:Mem) (nh ty:Nat) (x y:AV) (K:KK):Prop :=
 match x with
 | .ful n B rows=>match lk T ty with
  | some ⟨.slice e,_,_,_,_⟩=>match lk T e with
   | some te=>match (bif Nat.ble 1 te.size && Nat.ble 1 te.bytes then srcRows te.size m y else none) with
    | some (news,rd)=>n=te.size∧B=te.bytes∧(rows.length+news.length)*te.bytes≤140737488351232 ∧
      (bif byteT te && Nat.ble 1 rows.length && Nat.ble 1 news.length then K (.sl nh (rows.length+news.length)) rd [(nh,some (.vec e te.size te.bytes (rows++news)))]
       else K (.tr (.lst te.size te.bytes (rows++news))) rd [])
    | none=>False
   | none=>False
  | _=>False
 | x=>aappendO T m nh ty x y K
def aslice3 (T:Ty) (ty:Nat) (h mx:Int) (K:KK):AV→Prop
 | .tr (.lst n B rows)=>match lk T ty with
  | some ⟨.slice e,_,_,_,_⟩=>match lk T e with
   | some te=>te.size=n∧h=mx∧0≤h∧h≤rows.length∧K (.ful n B (rows.take h.toNat)) [] []
   | none=>False
  | _=>False
 | _=>False
def alookup (T:Ty) (m:Mem) (ty:Nat) (kv:Value) (ok:Bool) (K:KK):AV→Prop
 | .mp h=>match lk T ty,m h,MK.of kv with
  | some ⟨.map k e,_,_,_,_⟩,some (.map kd es),some q=>match dOf T k,lk T e with
   | some kd',some ⟨d,_,_,[z],_⟩=>bif decide (kd=kd') && q.fits kd && !d.agg then
     (bif ok then K (.tup [.tr ((mget es q).getD (.v z.val)),.tr (.v (.bool (mget es q).isSome))]) [(h,.map kd es)] [] else K (.tr ((mget es q).getD (.v z.val))) [(h,.map kd es)] []) else False
   | _,_=>False
  | _,_,_=>False
 | _=>False
def amapUpdate (T:Ty) (m:Mem) (ty:Nat) (kv:Value) (x:AV) (K:KK):AV→Prop
 | .mp h=>match lk T ty,m h,MK.of kv,x with
  | some ⟨.map k _,_,_,_,_⟩,some (.map kd es),some q,.tr t=>match dOf T k with
   | some kd'=>bif decide (kd=kd') && q.fits kd then K .und [(h,.map kd es)] [(h,some (.map kd (mput es q t)))] else False
   | none=>False
  | _,_,_,_=>False
 | _=>False
def amakeSlice (T:Ty) (nh ty:Nat) (l c:Int) (K:KK):Prop :=
 match lk T ty with
 | some ⟨.slice e,_,_,_,_⟩=>match lk T e with
  | some te=>bif Nat.ble 1 te.size && Nat.ble 1 te.bytes then 0≤l∧l≤c∧c*te.bytes≤140737488351232 ∧
    K (.sl nh l.toNat) [] [(nh,some (.vec e te.size te.bytes (List.replicate l.toNat (ztrs te.zero))))] else False
  | none=>False
 | _=>False
def seqS (T:Ty):List (Nat × Nat)→Nat→List AV→List AV→Option Bool
 | [],_,[],[]=>some true
 | (ft,off)::fs,i,.tr (.v a)::l,.tr (.v b)::l'=>bif Nat.beq off i then
   (match dOf T ft,a,b with
   | some (.int _),.int k x,.int k' y=>if k=k' then (match seqS T fs (i+1) l l' with | some r=>some ((x == y) && r) | none=>none) else none
   | some .string,.string x,.string y=>(match seqS T fs (i+1) l l' with | some r=>some ((x.toList == y.toList) && r) | none=>none)
   | some .bool,.bool x,.bool y=>(match seqS T fs (i+1) l l' with | some r=>some ((x == y) && r) | none=>none)
   | _,_,_=>none) else none
 | _,_,_,_=>none
def seq1 (d:Option D):AV→AV→Option Bool
 | .tr (.v a),.tr (.v b)=>match d,a,b with
  | some (.int _),.int k x,.int k' y=>if k=k' then some (x == y) else none
  | some .string,.string x,.string y=>some (x.toList == y.toList)
  | some .bool,.bool x,.bool y=>some (x == y)
  | _,_,_=>none
 | _,_=>none
def subS (T:Ty) (t:Nat):Option (List (Nat × Nat) × Nat):=match lk T t with
 | some ⟨.struct gs,k,_,_,true⟩=>some (gs,k)
 | _=>none
def seqN (T:Ty):List (Nat × Nat)→Nat→List AV→List AV→Option Bool
 | [],_,[],[]=>some true
 | (ft,off)::fs,i,l,l'=>bif Nat.beq off i then (match subS T ft with
  | some (gs,k)=>(match seqS T gs 0 (l.take k) (l'.take k),seqN T fs (i+k) (l.drop k) (l'.drop k) with | some a,some b=>some (a && b) | _,_=>none)
  | none=>(match l,l' with
   | x::l,y::l'=>(match seq1 (dOf T ft) x y,seqN T fs (i+1) l l' with | some a,some b=>some (a && b) | _,_=>none)
   | _,_=>none)) else none
 | _,_,_,_=>none
def aeqS (T:Ty) (t:Nat) (l l':List AV):Option Bool:=match lk T t with
 | some ⟨.struct fs,_,_,_,true⟩=>(match seqS T fs 0 l l' with | some b=>some b | none=>seqN T fs 0 l l')
 | _=>none
def optZ:Option (Option AV)→Option (Option Int)
 | none=>some none
 | some (some (.tr (.v (.int _ z))))=>some (some z)
 | _=>none
def aslice (T:Ty) (m:Mem) (ty:Nat) (lo hi:Option Int) (K:KK):AV→Prop
 | .tr (.v (.string s))=>match lk T ty with
  | some ⟨.string,_,_,_,_⟩=>0≤lo.getD 0∧lo.getD 0≤hi.getD s.size∧hi.getD s.size≤s.size∧K (.tr (.v (.string (s.extract (lo.getD 0).toNat (hi.getD s.size).toNat)))) [] []
  | _=>False
 | .tr (.lst n B rows)=>match lk T ty with
  | some ⟨.slice e,_,_,_,_⟩=>match lk T e with
   | some te=>te.size=n∧0≤lo.getD 0∧lo.getD 0≤hi.getD rows.length∧hi.getD rows.length≤rows.length ∧
     K (.tr (.lst n B ((rows.take (hi.getD rows.length).toNat).drop (lo.getD 0).toNat))) [] []
   | none=>False
  | _=>False
 | .sl h len=>match lk T ty,lo,m h with
  | some ⟨.slice e,_,_,_,_⟩,none,some b=>bif (lk T e).isSome then 0≤hi.getD len∧hi.getD len≤len∧K (.sl h (hi.getD len).toNat) [(h,b)] [] else False
  | some ⟨.slice e,_,_,_,_⟩,some l,some (.own n B rows ln)=>match hi,lk T e with
   | none,some te=>n=te.size∧0<l∧l≤len∧cond (decide (l<len)) (K (.ifc (3*HMod) (.vpt h te.size l.toNat (len - l.toNat))) [(h,.own n B rows ln)] []) (K (.tr (.lst te.size te.bytes [])) [(h,.own n B rows ln)] [])
   | _,_=>False
  | _,_,_=>False
 | .tr (.v (.slice none 0 0))=>match lk T ty with
  | some ⟨.slice e,_,_,_,_⟩=>bif (lk T e).isSome then 0≤lo.getD 0∧lo.getD 0≤hi.getD 0∧hi.getD 0≤0∧K (.tr (.v (.slice none 0 0))) [] [] else False
  | _=>False
 | _=>False
def copyRows (n:Nat) (m:Mem):AV→Option (List (List Tr) × List (Nat × Blk))
 | .ifc q (.vpt h n' i len)=>match m h with
  | some (.own n2 B rows [])=>bif Nat.beq q (3*HMod) && Nat.beq n n' && Nat.beq n n2 && Nat.ble 1 i then some ((rows.drop i).take len,[(h,.own n2 B rows [])]) else none
  | _=>none
 | a=>srcRows n m a
def copyLen:AV→List (List Tr)→Prop
 | .ifc _ (.vpt _ _ _ len),news=>news.length=len
 | _,_=>True
def acopy (T:Ty) (m:Mem) (ty:Nat) (x y:AV) (K:KK):Prop :=
 match lk T ty,x with
 | some ⟨.slice e,_,_,_,_⟩,.sl h len=>match lk T e,m h with
  | some te,some (.vec e' n B rows)=>match copyRows te.size m y with
   | some (news,rd)=>n=te.size∧len≤rows.length∧copyLen y news∧leafR news∧(∀ p ∈ rd,p.1≠h) ∧
     K (.tr (.v (.int .i64 ((Nat.min news.length len:Nat):Int)))) ((h,.vec e' n B rows)::rd) [(h,some (.vec e' n B (news.take (Nat.min news.length len)++rows.drop (Nat.min news.length len))))]
   | none=>False
  | _,_=>False
 | _,_=>False
def fnOf:AV→Option (Nat × Nat × List Tr)
 | .fn f [.ifc t (.fn z [.ptr h o]),.ept cs]=>bif Nat.beq t (4*HMod) && Nat.beq z 0 && Nat.beq o 0 then some (h,f,cs) else none
 | _=>none
def fnParts:List (Nat × Option AV)→Option (Nat × Nat × List Tr)
 | [(i,some a)]=>bif Nat.beq i 0 then fnOf a else none
 | _=>none
def aloadF (T:Ty) (m:Mem) (nh ty:Nat) (K:KK):AV→Prop
 | .vpt h n i off=>match m h with
  | some (.fns e B h2 l)=>match lk T ty with
   | some ti=>bif ti.d.agg then False else n=1∧off=0∧i<l.length ∧ ∀ p,l[i]? = some p→K (fnAV h2 p) [(h,.fns e B h2 l)] []
   | none=>False
  | _=>aloadO T m nh ty K (.vpt h n i off)
 | .ifc t (.fn z [a])=>match lk T ty with
  | some ti=>bif !ti.d.agg && Nat.beq t (4*HMod) then K a [] [] else False
  | none=>False
 | a=>aloadO T m nh ty K a
def aindexAddrF (T:Ty) (m:Mem) (ty:Nat) (z:Int) (K:KK):AV→Prop
 | .sl h len=>match m h with
  | some (.fns e' B h2 l)=>match lk T ty with
   | some ⟨.slice e,_,_,_,_⟩=>match lk T e with
    | some te=>te.size=1∧0≤z∧z<len∧K (.vpt h 1 z.toNat 0) [(h,.fns e' B h2 l)] []
    | none=>False
   | _=>False
  | _=>aindexAddrO T m ty z K (.sl h len)
 | a=>aindexAddrO T m ty z K a
def fnsAt (m:Mem):AV→Option (Nat × Nat × Nat × Nat × Nat × List (Nat × List Tr))
 | .sl h len=>match m h with | some (.fns e B h2 l)=>some (h,len,e,B,h2,l) | _=>none
 | _=>none
def aappendG (T:Ty) (m:Mem) (nh ty:Nat) (x y:AV) (K:KK):Prop :=
 match fnsAt m x,fnsAt m y with
 | some (h,len,e1,B1,k1,l1),some (h',len',e2,B2,k2,l2)=>match lk T ty with
  | some ⟨.slice e,_,_,_,_⟩=>match lk T e with
   | some te=>bif Nat.beq te.size 1 && Nat.ble 1 te.bytes && Nat.beq k1 k2 && Nat.beq B1 te.bytes && Nat.beq e1 e && !Nat.beq h h' then
     len=l1.length∧len'=l2.length∧(len+len')*te.bytes≤150000000000000 ∧
      K (.sl nh (len+len')) [(h,.fns e1 B1 k1 l1),(h',.fns e2 B2 k2 l2)] [(nh,some (.fns e te.bytes k1 (l1++l2))),(h,none)] else False
   | none=>False
  | _=>False
 | _,_=>aappendF T m nh ty x y K
def isInt:AV→Option Int | .tr (.v (.int _ z))=>some z | _=>none
def evs (ev:Operand→Option AV):List Operand→Option (List AV)
 | []=>some []
 | x::r=>match ev x,evs ev r with | some a,some l=>some (a::l) | _,_=>none
def parts (ev:Operand→Option AV) (ps:Array (Nat × Operand)):List (Nat × Option AV):=ps.toList.map fun p=>(p.1,ev p.2)
def aop (T:Ty) (m:Mem) (nh:Nat) (ev:Operand→Option AV) (K:KK):Op→Prop
 | .move x | .assign x=>match ev x with | some a=>K a [] [] | none=>False
 | .pick c x y=>match ev c with
  | some (.tr (.v (.bool b)))=>cond b (match ev x with | some a=>K a [] [] | none=>False) (match ev y with | some a=>K a [] [] | none=>False)
  | _=>False
 | .alloc t=>match lk T t with | some i=>bif rowTy T i then (K (.ptr nh 0) [] [(nh,some (.cells t (zeros i.zero)))]∨K (.vpt nh i.size 0 0) [] [(nh,some (.own i.size i.bytes [ztrs i.zero] []))]) else K (.ptr nh 0) [] [(nh,some (.cells t (zeros i.zero)))] | none=>False
 | .box t x=>match ev x with
  | some a=>match a.cells with
   | some cs=>bif cs.all AV.one then (match lk T t with
    | some i=>bif rowTy T i then (K (.ptr nh 0) [] [(nh,some (.cells t cs))]∨match ocells 0 0 cs with
      | some (ts,ls)=>cs.length=i.size∧K (.vpt nh i.size 0 0) [] [(nh,some (.own i.size i.bytes [ts] ls))]
      | none=>False) else K (.ptr nh 0) [] [(nh,some (.cells t cs))]
    | none=>K (.ptr nh 0) [] [(nh,some (.cells t cs))]) else False
   | none=>False
  | none=>False
 | .build t ps=>match lk T t with
  | some ⟨.struct fs,_,_,z,_⟩=>bif fs.all (fun p=>(lk T p.1).isSome) then (match fillS T fs (zeros z) (parts ev ps) with | some l=>K (.agg l) [] [] | none=>False) else False
  | some ⟨.array _ e,_,_,z,_⟩=>match lk T e with
   | some te=>match fillA te.size (zeros z) (parts ev ps) with | some l=>K (.agg l) [] [] | none=>False
   | none=>False
  | _=>False
 | .buildSlice t len ps=>match lk T t with
  | some ⟨.slice e,_,_,_,_⟩=>match lk T e with
   | some te=>match rowsOf te.size 0 (parts ev ps) with
    | some rows=>bif Nat.beq rows.length len && Nat.ble 0 len && Nat.ble 1 te.size && Nat.ble (len*te.size) 16777216 && Nat.ble (len*te.bytes) 140737488351232 then
      K (.sl nh len) [] [(nh,some (.vec e te.size te.bytes rows))] else False
    | none=>match rowsOO te.size 0 (parts ev ps) with
     | some (rows,ln)=>bif Nat.beq rows.length len && Nat.ble 1 len && Nat.ble 1 te.size && Nat.ble (len*te.size) 16777216 && Nat.ble (len*te.bytes) 140737488351232 then
       K (.sl nh len) [] [(nh,some (.own te.size te.bytes rows ln))] else False
     | none=>match fnParts (parts ev ps) with
      | some (h,f,cs)=>bif Nat.beq len 1 && Nat.beq te.size 1 && Nat.ble te.bytes 140737488351232 then K (.sl nh 1) [] [(nh,some (.fns e te.bytes h [(f,cs)]))] else False
      | none=>match ptrsOf 0 (parts ev ps) with
      | some l=>bif Nat.beq l.length len && Nat.ble 1 len && Nat.beq te.size 1 && Nat.ble len 16777216 && Nat.ble (len*te.bytes) 140737488351232 then
        K (.ifc (2*HMod+len) (.ptr nh 0)) [] [(nh,some (.cells e l))] else False
      | none=>False
   | none=>False
  | _=>False
 | .load t x=>match ev x with | some a=>aloadF T m nh t K a | none=>False
 | .store t x y=>match ev x,ev y with | some a,some b=>astoreO T m t b K a | _,_=>False
 | .fieldAddr t x f=>match ev x with | some a=>afieldAddr T m t f K a | none=>False
 | .field t x f=>match ev x with | some a=>afield T t f K a | none=>False
 | .indexAddr t x i=>match ev x,ev i with
  | some a,some b=>match isInt b with | some z=>aindexAddrF T m t z K a | none=>False
  | _,_=>False
 | .index t x i=>match ev x,ev i with
  | some a,some b=>match isInt b with | some z=>aindex T t z K a | none=>False
  | _,_=>False
 | .binOp op t x y _=>match ev x,ev y with
  | some (.tr (.v a)),some (.tr (.v b))=>match nilB (dOf T t) y a b with
   | true=>match op with
    | .eql=>K (.tr (.v (.bool true))) [] []
    | .neq=>K (.tr (.v (.bool false))) [] []
    | _=>False
   | false=>match abin (dOf T t) op a b with | some (c,v)=>under c (K (.tr (.v v)) [] []) | none=>False
  | some (.ptr h _),some (.tr (.v (.pointer none)))=>match op,dOf T t,m h with
   | .eql,some (.ptr _),some b=>K (.tr (.v (.bool false))) [(h,b)] []
   | .neq,some (.ptr _),some b=>K (.tr (.v (.bool true))) [(h,b)] []
   | _,_,_=>False
  | some (.tr (.lst _ _ rows)),some (.tr (.v (.slice none 0 0)))=>match op,dOf T t with
   | .eql,some (.slice _)=>0<rows.length∧K (.tr (.v (.bool false))) [] []
   | .neq,some (.slice _)=>0<rows.length∧K (.tr (.v (.bool true))) [] []
   | _,_=>False
  | some (.agg l),some (.agg l')=>match op,aeqS T t l l' with
   | .eql,some b=>K (.tr (.v (.bool b))) [] []
   | .neq,some b=>K (.tr (.v (.bool !b))) [] []
   | _,_=>False
  | some (.ifc t' _),some (.tr (.v .nilIface))=>bif Nat.blt t' HMod then (match op,dOf T t with
   | .eql,some .iface=>K (.tr (.v (.bool false))) [] []
   | .neq,some .iface=>K (.tr (.v (.bool true))) [] []
   | _,_=>False) else False
  | _,_=>False
 | .typeAssert x _ t false=>match ev x,dOf T t with
  | some (.ifc t' a),some d=>bif Nat.beq t' t && !d.isIface && Nat.blt t HMod then K a [] [] else False
  | _,_=>False
 | .makeMap t none=>match lk T t with
  | some ⟨.map k _,_,_,_,_⟩=>match dOf T k with | some kd=>K (.mp nh) [] [(nh,some (.map kd []))] | none=>False
  | _=>False
 | .lookup t x i ok=>match ev x,ev i with
  | some a,some (.tr (.v kv))=>alookup T m t kv ok K a
  | _,_=>False
 | .mapUpdate t x i y=>match ev x,ev i,ev y with
  | some a,some (.tr (.v kv)),some b=>amapUpdate T m t kv b K a
  | _,_,_=>False
 | .insert t x i y=>match ev x,ev i,ev y with
  | some a,some (.tr (.v kv)),some b=>amapUpdate T m t kv b K a
  | _,_,_=>False
 | .makeSlice t l c=>match ev l,ev c with
  | some a,some b=>match isInt a,isInt b with | some l,some c=>amakeSlice T nh t l c K | _,_=>False
  | _,_=>False
 | .unOp op _ x=>match ev x with
  | some (.tr (.v a))=>match aun op a with | some v=>K (.tr (.v v)) [] [] | none=>False
  | _=>False
 | .convert s d x=>match lk T s,lk T d,ev x with
  | some _,some ⟨.int k,_,_,_,_⟩,some (.tr (.v (.int _ n)))=>K (.tr (.v (.int k (k.wrap n)))) [] []
  | some _,some ⟨.string,_,_,_,_⟩,some (.tr (.v (.string s)))=>K (.tr (.v (.string s))) [] []
  | some ⟨.slice e,_,_,_,_⟩,some ⟨.string,_,_,_,_⟩,some a=>match lk T e,srcRows 1 m a with
   | some te,some (rows,rd)=>bif byteT te then ∃ l:List UInt8,rows=brows l∧l.length≤140737488351232∧K (.tr (.v (.string ⟨l.toArray⟩))) rd [] else False
   | _,_=>False
  | _,_,_=>False
 | .extract x i=>match ev x with
  | some (.tup l)=>match l[i]? with | some a=>K a [] [] | none=>False
  | _=>False
 | .makeInterface t x=>match ev x,lk T t with
  | some _,some ⟨.iface,_,_,_,_⟩=>False
  | some a,some _=>bif Nat.blt t HMod then K (.ifc t a) [] [] else False
  | _,_=>False
 | .makeFunc (.func f) fs cs=>bif Nat.beq fs.size 0 then
   (match evs ev cs.toList with | some l=>K (.fn f l) [] [] | none=>False) else
   (match fs,cs with
   | ⟨[x]⟩,⟨[]⟩=>match ev x with | some a=>bif Nat.blt f HMod then K (.ifc (HMod+f) a) [] [] else False | none=>False
   | _,_=>False)
 | .slice t x lo hi none=>match ev x,optZ (lo.map ev),optZ (hi.map ev) with
  | some a,some l,some h=>aslice T m t l h K a
  | _,_,_=>False
 | .slice t x none (some hi) (some mx)=>match ev x,ev hi,ev mx with
  | some a,some h,some z=>match isInt h,isInt z with | some h,some z=>aslice3 T t h z K a | _,_=>False
  | _,_,_=>False
 | .nilCheck x=>match ev x with
  | some (.ptr h o)=>match m h with | some b=>K (.ptr h o) [(h,b)] [] | none=>False
  | some (.vpt h n i o)=>match m h with | some b=>K (.vpt h n i o) [(h,b)] [] | none=>False
  | some (.ept cs)=>K (.ept cs) [] []
  | some (.fn f l)=>K (.fn f l) [] []
  | _=>False
 | .call { callee := .builtin .len,args:=⟨[x]⟩,argTypes:=⟨[t]⟩ }=>match ev x with | some a=>alen T m t K a | none=>False
 | .call { callee := .builtin .append,args:=⟨[x,y]⟩,argTypes:=⟨[t,t']⟩ }=>bif Nat.beq t t' then (match ev x,ev y with
  | some a,some b=>aappendG T m nh t a b K
  | _,_=>False) else (match ev x,ev y with
  | some a,some (.tr (.v (.string s)))=>aappendS T m nh t t' a s K
  | some (.tr (.v (.slice none 0 0))),some (.tr (.v (.int _ z)))=>aappendZ T nh t t' z K
  | _,_=>False)
 | .call { callee := .builtin .copy,args:=⟨[x,y]⟩,argTypes:=⟨[t,_]⟩ }=>match ev x,ev y with
  | some a,some b=>acopy T m t a b K
  | _,_=>False
 | .call { callee := .builtin .min,args:=⟨[x,y]⟩,argTypes:=_ }=>match ev x,ev y with
  | some (.tr (.v (.int k a))),some (.tr (.v (.int k' b)))=>if k=k' then K (.tr (.v (.int k (min a b)))) [] [] else False
  | _,_=>False
 | .call { callee := .builtin .max,args:=⟨[x,y]⟩,argTypes:=_ }=>match ev x,ev y with
  | some (.tr (.v (.int k a))),some (.tr (.v (.int k' b)))=>if k=k' then K (.tr (.v (.int k (max a b)))) [] [] else False
  | _,_=>False
 | .call { callee := .builtin .cap,args:=⟨[x]⟩,argTypes:=⟨[t]⟩ }=>match ev x,lk T t with
  | some (.tr (.v (.slice none 0 0))),some ⟨.slice _,_,_,_,_⟩=>K (.tr (.v (.int .i64 0))) [] []
  | _,_=>False
 | .range t x=>match ev x,lk T t with
  | some (.mp h),some ⟨.map _ _,_,_,_,_⟩=>match m h with
   | some (.map kd es)=>K (.ptr nh 0) [(h,.map kd es)] [(nh,some (.itr h es.length []))]
   | _=>False
  | _,_=>False
 | .entry x=>match ev x with
  | some (.ptr hi 0)=>match m hi with
   | some (.itr h n seen)=>match m h with
    | some (.map kd es)=>n=es.length ∧ ∃ s i,seen=s++[i] ∧ ∃ k t,es[i]? = some (k,t)∧good k.val∧K (.tup [.tr (.v k.val),.tr t]) [(hi,.itr h n seen),(h,.map kd es)] []
    | _=>False
   | _=>False
  | _=>False
 | _=>False
end Go.Proofs.YtbflekglkkdipaaGreatDoor.am
namespace Go.Proofs.YtbflekglkkdipaaGreatDoor.am
open Go
set_option linter.unusedSimpArgs false
section
variable {P:Program} {T:Ty}
theorem TOk.small (hT:TOk P T) {t:TypeId} {i:TyI} (h:lk T t=some i):i.bytes≤4096:=(hT t i h).2
theorem TOk.info (hT:TOk P T) {t:TypeId} {i:TyI} (h:lk T t=some i) : ∃ ti u z,P.info? t=some ti∧P.underlying t=some u∧D.of u=i.d∧ti.size=i.size∧ti.bytes=i.bytes∧ti.zero=some z ∧
  zcells z i.d=some i.zero∧i.zero.length=i.size:=by
 have e:=(hT t i h).1
 unfold tyOf at e
 split at e
 case h_2=>cases e
 rename_i ti u e1 e2
 split at e
 case h_2=>cases e
 rename_i z e3
 split at e
 case h_2=>cases e
 rename_i zs e4
 by_cases hl:zs.length=ti.size
 ·rw [if_pos hl] at e
  cases e
  exact ⟨ti,u,z,e1,e2,rfl,rfl,rfl,e3,e4,hl⟩
 ·rw [if_neg hl] at e; cases e
theorem mapM_Z : ∀ {cs:List Value} {zs:List Z},cs.mapM Z.of=some zs→cs=zs.map Z.val
 | [],zs,h=>by simp at h; subst h; rfl
 | c::cs,zs,h=>by
  simp only [List.mapM_cons,Option.bind_eq_bind,Option.bind_eq_some_iff,Option.pure_def,Option.some.injEq] at h
  obtain ⟨z,h1,l,h2,rfl⟩:=h
  rw [List.map_cons,← Z.of_val h1,← mapM_Z h2]
theorem zcells_cells {z:Value} {d:D} {zs:List Z} (h:zcells z d=some zs):z.cells=(zs.map Z.val).toArray∧(d.agg=true→z = .agg (zs.map Z.val).toArray):=by
 unfold zcells at h
 split at h
 ·split at h
  ·rename_i cs
   have:=mapM_Z h
   have e:cs=(zs.map Z.val).toArray:=by rw [← this]
   subst e
   exact ⟨rfl,fun _=>rfl⟩
  ·cases h
 ·rename_i hd
  split at h
  ·cases h
  ·rename_i x hx
   simp only [Option.map_eq_some_iff] at h
   obtain ⟨q,h1,rfl⟩:=h
   have:=Z.of_val h1
   refine ⟨?_,fun h=>absurd h hd⟩
   subst this
   cases q <;> rfl
theorem run_und (hT:TOk P T) {t:TypeId} {i:TyI} (h:lk T t=some i) (w:World) : ∃ u,(underlying t).run P w = .ok u w∧D.of u=i.d∧P.underlying t=some u:=by
 obtain ⟨ti,u,z,_,e2,e3,_⟩:=hT.info h
 exact ⟨u,run_underlying e2 w,e3,e2⟩
theorem run_isAgg (hT:TOk P T) {t:TypeId} {i:TyI} (h:lk T t=some i) (w:World):(isAgg t).run P w = .ok i.d.agg w:=by
 obtain ⟨u,h1,h2,_⟩:=run_und hT h w
 unfold isAgg
 simp only [Sem.run_bind,h1,Result.andThen_ok,← h2]
 cases u <;> rfl
theorem run_size (hT:TOk P T) {t:TypeId} {i:TyI} (h:lk T t=some i) (w:World):(sizeOf t).run P w = .ok i.size w:=by
 obtain ⟨ti,u,z,e1,_,_,e4,_⟩:=hT.info h
 simp [sizeOf,typeInfo,e1,e4]
theorem run_zero (hT:TOk P T) {t:TypeId} {i:TyI} (h:lk T t=some i) (w:World) : ∃ z,(zeroValue t).run P w = .ok z w∧z.cells=(i.zero.map Z.val).toArray∧i.zero.length=i.size∧(i.d.agg=true→z = .agg (i.zero.map Z.val).toArray):=by
 obtain ⟨ti,u,z,e1,_,_,_,_,e6,e7,e8⟩:=hT.info h
 exact ⟨z,by simp [zeroValue,typeInfo,e1,e6],(zcells_cells e7).1,e8,(zcells_cells e7).2⟩
theorem add_mk (b o n:Nat):(⟨b,o,none⟩:Addr).add n=⟨b,o+n,none⟩:=by unfold Addr.add; split <;> simp_all
theorem run_loadA (hT:TOk P T) {t:TypeId} {i:TyI} (h:lk T t=some i) (ha:i.d.agg=true) {w:World} {b o:Nat} (cs:List Value) (hl:cs.length=i.size) (hc : ∀ (j:Nat) (v:Value),cs[j]? = some v→w.cell? ⟨b,o+j,none⟩=some v) :
  (Instr.loadAt t (.pointer (some ⟨b,o,none⟩))).run P w = .ok (.agg cs.toArray) w:=by
 have e:=run_loadCells_list (P:=P) w ⟨b,o,none⟩ cs (fun j v hv=>by rw [add_mk]; exact hc j v hv)
 rw [hl] at e
 simp [Instr.loadAt,Instr.sureAddr,loadVar,run_isAgg hT h,run_size hT h,ha,e]
theorem run_load1 (hT:TOk P T) {t:TypeId} {i:TyI} (h:lk T t=some i) (ha:i.d.agg=false) {w:World} {b o:Nat} {v:Value} (hc:w.cell? ⟨b,o,none⟩=some v) :
  (Instr.loadAt t (.pointer (some ⟨b,o,none⟩))).run P w = .ok v w:=by
 simp [Instr.loadAt,Instr.sureAddr,loadVar,run_isAgg hT h,ha,hc]
theorem run_storeA (hT:TOk P T) {t:TypeId} {i:TyI} (h:lk T t=some i) {w:World} {b o:Nat} {cur:Array Value} {e:TypeId} (hb:w.heap[b]? = some (.cells cur e (0,0))) {x:Value} (hl:x.cells.size=i.size)
  (h1 : ∀ v ∈ x.cells.toList,v.oneCell'=true) (hs:o+x.cells.size≤cur.size) :
  (Instr.storeAt t (.pointer (some ⟨b,o,none⟩)) x).run P w = .ok () (w.setRow b (cur.toList.take o++x.cells.toList++cur.toList.drop (o+x.cells.size)).toArray):=by
 have e:=run_storeCells_at (P:=P) b o e x.cells.toList 0 cur w hb (by simpa using hs) h1
 simp only [Nat.add_zero,Array.length_toList] at e
 rw [hl] at e ⊢
 simp [Instr.storeAt,Instr.sureAddr,storeVar,run_size hT h,hl,e]
end
theorem hp_old (w:World) (o:Obj) (i:Nat) (h:i<w.heap.size):(w.alloc o).heap[i]? = w.heap[i]? := by
 show (w.heap.push o)[i]? = w.heap[i]?
 rw [Array.getElem?_push,if_neg (Nat.ne_of_lt h)]
theorem beq_ne {a b:Nat} (h:a≠b):Nat.beq a b=false:=by
 cases hb:Nat.beq a b with
 | true=>exact absurd (Nat.eq_of_beq_eq_true hb) h
 | false=>rfl
def gset (g:Gh) (h:Nat) (s:HS):Gh:=⟨fun k=>if k=h then s else g k,g.X,[],fun k b=>k≠h∧g.F k b⟩
theorem gset_F (g:Gh) {h k:Nat} (s:HS) (hk:k≠h):(gset g h s).F k=g.F k:=by funext b; simp [gset,hk]
theorem gset_F0 (g:Gh) {h b:Nat} (s:HS) : ¬ (gset g h s).F h b:=fun h1=>h1.1 rfl
theorem gset_same (g:Gh) (h:Nat) (s:HS):gset g h s h=s:=by simp [gset]
theorem gset_ne (g:Gh) {h k:Nat} (s:HS) (hk:k≠h):gset g h s k=g k:=by simp [gset,hk]
theorem gset_owns {g:Gh} {h k b:Nat} {s:HS} (h1:Owns (gset g h s) k b):(k=h ∧ ∃ l,s = .live l∧l.b=some b)∨(k≠h∧Owns g k b):=by
 obtain ⟨l,e1,e2⟩:=h1
 by_cases e:k=h
 ·subst e
  rw [gset_same] at e1
  exact .inl ⟨rfl,l,e1,e2.elim id fun h=>absurd h (gset_F0 g s)⟩
 ·rw [gset_ne _ _ e] at e1
  rw [gset_F _ _ e] at e2
  exact .inr ⟨e,l,e1,e2⟩
theorem okB.lt {g:Gh} {w:World} {b:Nat} (h:okB g w b):b<w.heap.size:=h.1
theorem grow_alloc {g:Gh} {w:World} (hx : ∀ b,g.X b→b<w.heap.size) {nh:Nat} (hn:g nh = .un) (o:Obj) {l:Loc} (hl : ∀ b,l.b=some b→b=w.heap.size):Grow g w (gset g nh (.live l)) (w.alloc o):=by
 refine ⟨rfl,rfl,rfl,by simp,fun b hb=>hp_old w o b hb.1,fun b hb=>hp_old w o b (hx b hb),rfl,fun h hh => ?_,fun h l' hh => ?_,fun h b e1 => ?_⟩
 ·by_cases e:h=nh
  ·subst e; exact absurd hn hh
  ·rw [gset_ne _ _ e]; exact hh
 ·by_cases e:h=nh
  ·subst e; exact .inr hn
  ·rw [gset_ne _ _ e] at hh; exact .inl hh
 ·rcases gset_owns e1 with ⟨rfl,l1,e2,e3⟩ | ⟨_,e2⟩
  ·cases e2
   exact .inr (by rw [hl b e3]; exact Nat.le_refl _)
  ·exact .inl ⟨h,e2⟩
theorem mst_alloc {g:Gh} {w:World} {m:Mem} (hm:MSt g w m) {nh:Nat} (hn:g nh = .un) (o:Obj) {l:Loc} (hl : ∀ b,l.b=some b→b=w.heap.size) {b:Blk} (hb : ∀ F,BRep (gset g nh (.live l)) (w.alloc o) l F b) :
  MSt (gset g nh (.live l)) (w.alloc o) (updM m [(nh,some b)]):=by
 have hg:=grow_alloc hm.xlt hn o hl
 refine ⟨fun h b' hh => ?_,fun h h' k e1 e2 => ?_,fun h k e1 => ?_,fun b hb=>Nat.lt_of_lt_of_le (hm.xlt b hb) (by simp),fun h k e1 hx => ?_,hm.gl.grow hg⟩
 ·by_cases e:h=nh
  ·subst e
   have:b'=b:=by simpa [updM,lk] using hh.symm
   subst this
   exact ⟨l,gset_same ..,hb _⟩
  ·have hh':m h=some b':=by
    have e':Nat.beq nh h=false:=beq_ne fun e1=>e e1.symm
    simpa [updM,lk,e'] using hh
   obtain ⟨l1,e1,e2⟩:=hm.blk h b' hh'
   rw [gset_F _ _ e]
   exact ⟨l1,by rw [gset_ne _ _ e]; exact e1,e2.grow hg fun k hk=>hp_old w o k (hm.lt h k ⟨l1,e1,hk⟩)⟩
 ·rcases gset_owns e1 with ⟨rfl,l1,e3,e4⟩ | ⟨e,e3⟩ <;> rcases gset_owns e2 with ⟨rfl,l2,e5,e6⟩ | ⟨e',e5⟩
  ·rfl
  ·cases e3; have:=hl k e4; have:=hm.lt h' k e5; omega
  ·cases e5; have:=hl k e6; have:=hm.lt h k e3; omega
  ·exact hm.inj h h' k e3 e5
 ·rcases gset_owns e1 with ⟨rfl,l1,e3,e4⟩ | ⟨e,e3⟩
  ·cases e3; rw [hl k e4]; simp
  ·have:=hm.lt h k e3; simp; omega
 ·rcases gset_owns e1 with ⟨rfl,l1,e3,e4⟩ | ⟨e,e3⟩
  ·cases e3; have:=hl k e4; have:=hm.xlt k hx; omega
  ·exact hm.xl h k e3 hx
theorem grow_write {g:Gh} {w w':World} {h:Nat} {b:Nat} (hx : ¬ g.X b) (hh:Owns g h b) (hos:w'.os=w.os) (htp:w'.tape=w.tape) (hou:w'.output=w.output) (hsz:w'.heap.size=w.heap.size)
  (hk : ∀ k,k≠b→w'.heap[k]? = w.heap[k]?):Grow g w g w' :=
 ⟨hos,htp,hou,Nat.le_of_eq hsz.symm,fun k h1=>hk k (fun e=>h1.2.2 h (by rw [e]; exact hh)),fun k h1=>hk k (fun e=>hx (e ▸ h1)),rfl,fun _ h=>h,fun _ _ h => .inl h,fun k b' e => .inl ⟨k,e⟩⟩
theorem mst_write {g:Gh} {w w':World} {m:Mem} (hm:MSt g w m) {h:Nat} {l:Loc} {b:Nat} (hh:g h = .live l) (hl:l.b=some b∨g.F h b) (hg:Grow g w g w') (hsz:w'.heap.size=w.heap.size)
  (hk : ∀ k,k≠b→w'.heap[k]? = w.heap[k]?) {bl:Blk} (hb:BRep g w' l (g.F h) bl):MSt g w' (updM m [(h,some bl)]):=by
 refine ⟨fun h' b' hh' => ?_,hm.inj,fun h' k e1=>by rw [hsz]; exact hm.lt h' k e1,fun k hk=>by rw [hsz]; exact hm.xlt k hk,hm.xl,hm.gl.grow hg⟩
 by_cases e:h'=h
 ·subst e
  have:b'=bl:=by simpa [updM,lk] using hh'.symm
  subst this
  exact ⟨l,hh,hb⟩
 ·have hh'':m h'=some b':=by
   have e':Nat.beq h h'=false:=beq_ne fun e1=>e e1.symm
   simpa [updM,lk,e'] using hh'
  obtain ⟨l1,e1,e2⟩:=hm.blk h' b' hh''
  refine ⟨l1,e1,e2.grow hg fun k hk'=>hk k fun ek=>e ?_⟩
  subst ek
  exact hm.inj h' h k ⟨l1,e1,hk'⟩ ⟨l,hh,hl⟩
theorem Cells.drop_take {g:Gh} {w:World} {cs:Array Value} {l:List AV} (h:Cells g w cs l) (o n:Nat):Cells g w (cs.extract o (o+n)) ((l.drop o).take n):=by
 refine ⟨by simp [h.1]; omega,fun a ha=>h.2.1 a (List.mem_of_mem_drop (List.mem_of_mem_take ha)),fun i c a h1 h2 => ?_⟩
 rw [List.getElem?_take] at h2
 split at h2
 ·rename_i hi
  rw [List.getElem?_drop] at h2
  refine h.2.2 (o+i) c a ?_ h2
  rw [Array.getElem?_extract] at h1
  split at h1
  ·exact h1
  ·cases h1
 ·cases h2
theorem Cells.put {g:Gh} {w:World} {cs xs:Array Value} {l as:List AV} (h:Cells g w cs l) (hx:Cells g w xs as) (o:Nat) (ho:o+as.length≤l.length) :
  Cells g w (cs.toList.take o++xs.toList++cs.toList.drop (o+xs.size)).toArray (l.take o++as++l.drop (o+as.length)):=by
 have e1:=h.1
 have e2:=hx.1
 refine ⟨by simp; omega,fun a ha => ?_,fun i c a h1 h2 => ?_⟩
 ·simp only [List.mem_append] at ha
  rcases ha with (ha | ha) | ha
  ·exact h.2.1 a (List.mem_of_mem_take ha)
  ·exact hx.2.1 a ha
  ·exact h.2.1 a (List.mem_of_mem_drop ha)
 ·simp only [List.getElem?_toArray,List.append_assoc] at h1 h2
  by_cases c1:i<o
  ·rw [List.getElem?_append_left (by simp; omega),List.getElem?_take,if_pos c1] at h1 h2
   exact h.2.2 i c a (by simpa using h1) h2
  ·rw [List.getElem?_append_right (by simp; omega)] at h1 h2
   have q1:(cs.toList.take o).length=o:=by simp; omega
   have q2:(l.take o).length=o:=by simp; omega
   rw [q1] at h1; rw [q2] at h2
   by_cases c2:i - o<as.length
   ·rw [List.getElem?_append_left (by rw [Array.length_toList]; omega)] at h1
    rw [List.getElem?_append_left c2] at h2
    exact hx.2.2 (i - o) c a (by simpa using h1) h2
   ·rw [List.getElem?_append_right (by rw [Array.length_toList]; omega)] at h1
    rw [List.getElem?_append_right (by omega)] at h2
    rw [List.getElem?_drop] at h1 h2
    refine h.2.2 i c a ?_ ?_
    ·have e5:o+xs.size+(i - o - xs.toList.length)=i:=by rw [Array.length_toList]; omega
     rw [e5,Array.getElem?_toList] at h1; exact h1
    ·rw [← h2]; congr 1; omega
theorem Rep.cells {g:Gh} {w:World} {x:Value} {a:AV} (h:Rep g w x a) {l:List AV} (hl:a.cells=some l) (h1:l.all AV.one=true):Cells g w x.cells l:=by
 have one : ∀ (hx:x.oneCell'=true),l=[a]→Cells g w x.cells l:=by
  rintro hx rfl
  have e:x.cells = #[x]:=by cases x <;> first | rfl | cases hx
  rw [e]
  refine ⟨rfl,fun b hb=>List.all_eq_true.1 h1 b hb,fun i c b e1 e2 => ?_⟩
  cases i with
  | zero=>simp at e1 e2; subst e1; subst e2; exact h
  | succ i=>simp at e2
 cases a with
 | und=>cases hl
 | tup=>cases hl
 | agg l' =>
  cases hl
  cases h with
  | agg e1 e2 e3=>exact ⟨e1,e2,e3⟩
 | _=>cases hl; exact one (h.one (by simpa [AV.one] using h1)) rfl
theorem Cells.agg {g:Gh} {w:World} {cs:Array Value} {l:List AV} (h:Cells g w cs l):Rep g w (.agg cs) (.agg l) := .agg h.1 h.2.1 h.2.2
theorem cells_zeros (g:Gh) (w:World) (zs:List Z):Cells g w (zs.map Z.val).toArray (zeros zs):=by
 refine ⟨by simp [zeros],fun a ha => ?_,fun i c a h1 h2 => ?_⟩
 ·simp only [zeros,List.mem_map] at ha
  obtain ⟨z,_,rfl⟩:=ha
  rfl
 ·simp only [List.getElem?_toArray,List.getElem?_map,zeros,Option.map_eq_some_iff] at h1 h2
  obtain ⟨z,e1,rfl⟩:=h1
  obtain ⟨z',e2,rfl⟩:=h2
  rw [e1] at e2; cases e2
  exact .tr (.v (good_zero z))
theorem trs_some : ∀ {l:List AV} {ts:List Tr},trs l=some ts→l=ts.map .tr
 | [],ts,h=>by cases h; rfl
 | .tr t::r,ts,h=>by
  unfold trs at h
  split at h
  ·rename_i l e; cases h; rw [trs_some e]; rfl
  ·cases h
 | .und::_,_,h=>by cases h
 | .agg _::_,_,h=>by cases h
 | .tup _::_,_,h=>by cases h
 | .ptr .. :: _,_,h=>by cases h
 | .vpt .. :: _,_,h=>by cases h
 | .sl .. :: _,_,h=>by cases h
 | .ept .. :: _,_,h=>by cases h
 | .fn .. :: _,_,h=>by cases h
 | .ifc .. :: _,_,h=>by cases h
 | .mp .. :: _,_,h=>by cases h
 | .ful .. :: _,_,h=>by cases h
theorem Rep.trCells {g:Gh} {w:World} {x:Value} {a:AV} (h:Rep g w x a) {ts:List Tr} (ht:a.trCells=some ts):x.cells.size=ts.length ∧ ∀ (i:Nat) (t:Tr),ts[i]? = some t → ∃ c,x.cells[i]? = some c∧RepT (okB g w) w c t:=by
 unfold AV.trCells at ht
 split at ht
 case h_2=>cases ht
 rename_i l hl
 have e:=trs_some ht
 subst e
 have hc:=h.cells hl (by simp [AV.one])
 refine ⟨by simpa using hc.1,fun i t hi => ?_⟩
 have hlt:i<x.cells.size:=by rw [hc.1]; simp; exact (List.getElem?_eq_some_iff.1 hi).1
 refine ⟨x.cells[i],by simp [hlt],?_⟩
 have:=hc.2.2 i x.cells[i] (.tr t) (by simp [hlt]) (by simp [hi])
 generalize x.cells[i]=c at this
 cases this
 assumption
end Go.Proofs.YtbflekglkkdipaaGreatDoor.am
namespace Go.Proofs.YtbflekglkkdipaaGreatDoor.am
open Go
set_option linter.unusedSimpArgs false
def LRes (P:Program) (run:Sem Next) (g:Gh) (w:World) (m:Mem) (nh:Nat) (up:List (Nat × Option Blk)) (a:AV):Prop :=
 ∃ g' w',((∃ v,run.run P w = .ok (.value v) w'∧Rep g' w' v a)∨(run.run P w = .ok .skip w'∧a = .und))∧MSt g' w' (updM m up)∧Grow g w g' w' ∧ ∀ h,h≠nh→g h = .un→g' h = .un
def LStep (P:Program) (o:Oper) (nh:Nat) (ev:Operand→Option AV) (rd:List (Nat × Blk)) (up:List (Nat × Option Blk)) (a:AV):Prop :=
 ∀ (g:Gh) (w:World) (m:Mem) (ρ:Operand→Value),MSt g w m→g nh = .un→(∀ p ∈ rd,m p.1=some p.2)→(∀ x b,ev x=some b→Rep g w (ρ x) b)→LRes P (execOp ρ o) g w m nh up a
def LOk (P:Program) (o:Oper) (m:Mem) (nh:Nat) (ev:Operand→Option AV) (K:KK):Prop :=
 ∃ a rd up,K a rd up∧(∀ p ∈ rd,m p.1=some p.2)∧(∀ p ∈ up,p.1=nh ∨ ∃ q ∈ rd,q.1=p.1)∧LStep P o nh ev rd up a
section
variable {P:Program} {T:Ty} {o:Oper} {m:Mem} {nh:Nat} {ev:Operand→Option AV} {K:KK}
theorem LRes.pure {run:Sem Next} {g:Gh} {w:World} {v:Value} {a:AV} (hm:MSt g w m) (hr:run.run P w = .ok (.value v) w) (ha:Rep g w v a):LRes P run g w m nh [] a :=
 ⟨g,w,.inl ⟨v,hr,ha⟩,hm,Grow.refl _ _,fun _ _ h=>h⟩
theorem LRes.new {run:Sem Next} {g:Gh} {w:World} {a:AV} (hm:MSt g w m) (hn:g nh = .un) (ob:Obj) (l:Loc) (hl : ∀ b,l.b=some b→b=w.heap.size) (b:Blk) (v:Value)
  (hr:run.run P w = .ok (.value v) (w.alloc ob)) (hb : ∀ F,BRep (gset g nh (.live l)) (w.alloc ob) l F b) (ha:Rep (gset g nh (.live l)) (w.alloc ob) v a):LRes P run g w m nh [(nh,some b)] a :=
 ⟨_,_,.inl ⟨v,hr,ha⟩,mst_alloc hm hn ob hl hb,grow_alloc hm.xlt hn ob hl,fun h e e'=>by rw [gset_ne _ _ e]; exact e'⟩
theorem LOk.pure (a:AV) (rd:List (Nat × Blk)) (hK:K a rd []) (hrd : ∀ p ∈ rd,m p.1=some p.2)
  (h : ∀ (g:Gh) (w:World) (m:Mem) (ρ:Operand→Value),MSt g w m→(∀ p ∈ rd,m p.1=some p.2)→(∀ x b,ev x=some b→Rep g w (ρ x) b) → ∃ v,(execOp ρ o).run P w = .ok (.value v) w∧Rep g w v a):LOk P o m nh ev K :=
 ⟨a,rd,[],hK,hrd,fun p hp=>by simp at hp,fun g w m ρ hm _ hrd hev=>by obtain ⟨v,h1,h2⟩:=h g w m ρ hm hrd hev; exact LRes.pure hm h1 h2⟩
theorem get_cells {g:Gh} {w:World} {cs:Array Value} {l:List AV} (h:Cells g w cs l) {i:Nat} {a:AV} (hi:l[i]? = some a) : ∃ c,cs[i]? = some c∧Rep g w c a:=by
 have hlt:i<cs.size:=by rw [h.1]; exact (List.getElem?_eq_some_iff.1 hi).1
 exact ⟨cs[i],by simp [hlt],h.2.2 i cs[i] a (by simp [hlt]) hi⟩
theorem trs_rep {g:Gh} {w:World} {cs:List Value} {ts:List Tr} (hl:cs.length=ts.length) (h : ∀ (i:Nat) (c:Value) (t:Tr),cs[i]? = some c→ts[i]? = some t→RepT (okB g w) w c t):Cells g w cs.toArray (ts.map .tr):=by
 refine ⟨by simpa using hl,fun a ha => ?_,fun i c a h1 h2 => ?_⟩
 ·simp only [List.mem_map] at ha; obtain ⟨t,_,rfl⟩:=ha; rfl
 ·simp only [List.getElem?_toArray,List.getElem?_map,Option.map_eq_some_iff] at h1 h2
  obtain ⟨t,e,rfl⟩:=h2
  exact .tr (h i c t h1 e)
theorem vec_row {g:Gh} {w:World} {n:Nat} {rows:List (List Tr)} {cur:Array Value} (hr : ∀ row ∈ rows,row.length=n) (h : ∀ (i:Nat) (t:Tr),rows.flatten[i]? = some t → ∃ c,cur[i]? = some c∧RepT (okB g w) w c t)
  {i:Nat} {row:List Tr} (hi:rows[i]? = some row) {j:Nat} {t:Tr} (hj:row[j]? = some t) : ∃ c,cur[i*n+j]? = some c∧RepT (okB g w) w c t:=by
 refine h _ _ ?_
 induction rows generalizing i cur with
 | nil=>simp at hi
 | cons r rs ih =>
  have hr0:=hr r (by simp)
  cases i with
  | zero =>
   simp at hi; subst hi
   rw [List.flatten_cons,Nat.zero_mul,Nat.zero_add,List.getElem?_append_left (List.getElem?_eq_some_iff.1 hj).1]
   exact hj
  | succ i =>
   rw [List.flatten_cons,List.getElem?_append_right (by rw [hr0,Nat.succ_mul]; omega),hr0,show (i+1)*n+j - n=i*n+j by rw [Nat.succ_mul]; omega]
   exact ih (cur:=(cur.toList.drop n).toArray) (fun r h=>hr r (by simp [h])) (fun k t hk=>by
    obtain ⟨c,c1,c2⟩:=h (n+k) t (by rw [List.flatten_cons,List.getElem?_append_right (by omega),hr0,show n+k - n=k by omega]; exact hk)
    exact ⟨c,by simpa using c1,c2⟩) (by simpa using hi)
theorem Rep.tr_inv {g:Gh} {w:World} {v:Value} {t:Tr} (h:Rep g w v (.tr t)):RepT (okB g w) w v t:=by cases h; assumption
theorem Rep.ptr_inv {g:Gh} {w:World} {v:Value} {hd off b:Nat} (h:Rep g w v (.ptr hd off)) (g1:g hd = .live (.blk b)):v = .pointer (some ⟨b,off,none⟩):=by
 cases h with
 | ptrD e=>rw [g1] at e; cases e
 | ptr e=>rw [g1] at e; cases e; rfl
theorem Rep.vpt_inv {g:Gh} {w:World} {v:Value} {hd n i off:Nat} {l:Loc} (h:Rep g w v (.vpt hd n i off)) (g1:g hd = .live l) : ∃ b cap,l = .row b cap∧v = .pointer (some ⟨b,i*n+off,none⟩):=by
 cases h with
 | vptD e=>rw [g1] at e; cases e
 | vpt e=>rw [g1] at e; cases e; exact ⟨_,_,rfl,rfl⟩
theorem Rep.sl_inv {g:Gh} {w:World} {v:Value} {hd len:Nat} {l:Loc} (h:Rep g w v (.sl hd len)) (g1:g hd = .live l):(∃ b cap,l = .row b cap∧len≤cap∧v = .slice (some ⟨b,0,none⟩) len cap)∨(l = .nil∧len=0∧v = .slice none 0 0):=by
 cases h with
 | slD e=>rw [g1] at e; cases e
 | sl e h=>rw [g1] at e; cases e; exact .inl ⟨_,_,rfl,h,rfl⟩
 | slN e=>rw [g1] at e; cases e; exact .inr ⟨rfl,rfl,rfl⟩
theorem Rep.ept_inv {g:Gh} {w:World} {v:Value} {cs:List Tr} (h:Rep g w v (.ept cs)) : ∃ (b o:Nat) (f:Nat→Value),v = .pointer (some ⟨b,o,none⟩)∧okB g w b∧(∀ j,j<cs.length→w.cell? ⟨b,o+j,none⟩=some (f j)) ∧ ∀ j t,cs[j]? = some t→RepT (okB g w) w (f j) t:=by
 cases h with
 | ept f h1 h2 h3=>exact ⟨_,_,f,rfl,h1,h2,h3⟩
theorem heap_cell {w:World} {b o:Nat} {cs:Array Value} {t:TypeId} {fr:Nat × Nat} (h:w.heap[b]? = some (.cells cs t fr)):w.cell? ⟨b,o,none⟩=cs[o]? := by simp [World.cell?,h]
theorem vec_inv {g:Gh} {w:World} {l:Loc} {F:Nat→Prop} {e n B:Nat} {rows:List (List Tr)} (h:BRep g w l F (.vec e n B rows)) {i:Nat} (hi:i<rows.length) : ∃ b cap cur,l = .row b cap∧w.heap[b]? = some (.cells cur e (0,0))∧rows.length≤cap∧cur.size=cap*n ∧
  (∀ row ∈ rows,row.length=n) ∧ ∀ (i:Nat) (t:Tr),rows.flatten[i]? = some t → ∃ c,cur[i]? = some c∧RepT (okB g w) w c t:=by
 obtain ⟨_,_,h | ⟨b,cap,cur,e0,e1,e2,e3,e4,e5,e6⟩⟩:=h
 ·rw [h.2] at hi; simp at hi
 ·exact ⟨b,cap,cur,e0,e1,e2,e4,e5,e6⟩
theorem l_load (hT:TOk P T) {ty:TypeId} {x:Operand} {a:AV} (ho:o.op = .load ty x) (hx:ev x=some a) (h:aload T m ty K a):LOk P o m nh ev K:=by
 have hrun : ∀ (ρ:Operand→Value) (w:World) (v u:Value),ρ x=u→(Instr.loadAt ty u).run P w = .ok v w→(execOp ρ o).run P w = .ok (.value v) w:=fun ρ w v u hu e=>by
  subst hu; simp [execOp,ho,e]
 unfold aload at h
 split at h
 ·
  rename_i hd off
  split at h
  case h_2=>exact h.elim
  rename_i i t l e1 e2
  have rdok : ∀ p ∈ [(hd,Blk.cells t l)],m p.1=some p.2:=fun p hp=>by simp at hp; subst hp; exact e2
  cases hag:i.d.agg with
  | true =>
   rw [hag,cond_true] at h
   cases hle:Nat.ble (off+i.size) l.length with
   | false=>rw [hle] at h; exact h.elim
   | true =>
    rw [hle] at h
    have hle:=Nat.le_of_ble_eq_true hle
    refine LOk.pure _ _ h rdok fun g w m' ρ hm hrd hev => ?_
    obtain ⟨lc,g1,b,cs,rfl,g2,g3⟩:=hm.blk hd _ (hrd (hd,.cells t l) (by simp))
    have hc:=g3.drop_take off i.size
    refine ⟨_,hrun ρ w _ _ ((hev _ _ hx).ptr_inv g1) (run_loadA hT e1 hag (cs.extract off (off+i.size)).toList ?_ fun j v hj => ?_),?_⟩
    ·have:=g3.1; simp; omega
    ·rw [heap_cell g2]
     simp only [Array.getElem?_toList,Array.getElem?_extract] at hj
     split at hj
     ·exact hj
     ·cases hj
    ·rw [Array.toArray_toList]; exact hc.agg
  | false =>
   rw [hag,cond_false] at h
   split at h
   case h_2=>exact h.elim
   rename_i a' ha
   refine LOk.pure _ _ h rdok fun g w m' ρ hm hrd hev => ?_
   obtain ⟨lc,g1,b,cs,rfl,g2,g3⟩:=hm.blk hd _ (hrd (hd,.cells t l) (by simp))
   obtain ⟨c,c1,c2⟩:=get_cells g3 ha
   exact ⟨c,hrun ρ w _ _ ((hev _ _ hx).ptr_inv g1) (run_load1 hT e1 hag (by rw [heap_cell g2]; exact c1)),c2⟩
 ·
  rename_i hd n i off
  split at h
  case h_2=>exact h.elim
  rename_i ti e n' B rows e1 e2
  obtain ⟨rfl,hi,h⟩:=h
  have rdok : ∀ p ∈ [(hd,Blk.vec e n B rows)],m p.1=some p.2:=fun p hp=>by simp at hp; subst hp; exact e2
  obtain ⟨row,hrow⟩ : ∃ row,rows[i]? = some row:=⟨rows[i],by simp [hi]⟩
  have h:=h row hrow
  cases hag:ti.d.agg with
  | true =>
   rw [hag,cond_true] at h
   obtain ⟨hs,h⟩:=h
   refine LOk.pure _ _ h rdok fun g w m' ρ hm hrd hev => ?_
   obtain ⟨lc,g1,g2⟩:=hm.blk hd _ (hrd (hd,.vec e n B rows) (by simp))
   obtain ⟨b,cap,cur,rfl,g3,g4,g5,g6,g7⟩:=vec_inv g2 hi
   obtain ⟨b',cap',e3,e4⟩:=(hev _ _ hx).vpt_inv g1
   cases e3
   have hl:=g6 row (List.mem_of_getElem? hrow)
   have hsz:i*n+n≤cur.size:=by
    have:(i+1)*n≤cap*n:=Nat.mul_le_mul_right _ (by omega)
    rw [Nat.succ_mul] at this; omega
   have hcs:Cells g w (cur.extract (i*n+off) (i*n+off+ti.size)).toList.toArray (((row.drop off).take ti.size).map .tr):=by
    refine trs_rep (by simp; omega) fun k c t h1 h2 => ?_
    simp only [Array.getElem?_toList,Array.getElem?_extract] at h1
    rw [List.getElem?_take] at h2
    split at h2
    ·rename_i hk
     rw [List.getElem?_drop] at h2
     obtain ⟨c',c1,c2⟩:=vec_row g6 g7 hrow h2
     split at h1
     ·rw [← Nat.add_assoc,h1] at c1; cases c1; exact c2
     ·cases h1
    ·cases h2
   refine ⟨_,hrun ρ w _ _ e4 (run_loadA hT e1 hag (cur.extract (i*n+off) (i*n+off+ti.size)).toList (by simp; omega) fun j v hj => ?_),hcs.agg⟩
   rw [heap_cell g3]
   simp only [Array.getElem?_toList,Array.getElem?_extract] at hj
   split at hj
   ·exact hj
   ·cases hj
  | false =>
   rw [hag,cond_false] at h
   obtain ⟨hl,h⟩:=h
   have h:=h row[off] (by simp [hl])
   refine LOk.pure _ _ h rdok fun g w m' ρ hm hrd hev => ?_
   obtain ⟨lc,g1,g2⟩:=hm.blk hd _ (hrd (hd,.vec e n B rows) (by simp))
   obtain ⟨b,cap,cur,rfl,g3,g4,g5,g6,g7⟩:=vec_inv g2 hi
   obtain ⟨b',cap',e3,e4⟩:=(hev _ _ hx).vpt_inv g1
   cases e3
   obtain ⟨c,c1,c2⟩:=vec_row g6 g7 hrow (show row[off]? = some row[off] by simp [hl])
   exact ⟨c,hrun ρ w _ _ e4 (run_load1 hT e1 hag (by rw [heap_cell g3]; exact c1)),.tr c2⟩
 ·
  rename_i cs
  split at h
  case h_2=>exact h.elim
  rename_i i e1
  cases hag:i.d.agg with
  | true =>
   rw [hag,cond_true] at h
   cases hle:Nat.ble i.size cs.length with
   | false=>rw [hle] at h; exact h.elim
   | true =>
    rw [hle] at h
    have hle:=Nat.le_of_ble_eq_true hle
    refine LOk.pure _ _ h (by simp) fun g w m' ρ hm hrd hev => ?_
    obtain ⟨b,of,f,e2,e3,e4,e5⟩:=(hev _ _ hx).ept_inv
    have hcs:Cells g w ((List.range i.size).map f).toArray ((cs.take i.size).map .tr):=by
     refine trs_rep (by simp; omega) fun k c t h1 h2 => ?_
     rw [List.getElem?_take] at h2
     split at h2
     ·rename_i hk
      simp only [List.getElem?_map,List.getElem?_range hk,Option.map_some,Option.some.injEq] at h1
      subst h1
      exact e5 k t h2
     ·cases h2
    refine ⟨_,hrun ρ w _ _ e2 (run_loadA hT e1 hag ((List.range i.size).map f) (by simp) fun j v hj => ?_),hcs.agg⟩
    have hj':j<i.size:=by have:=(List.getElem?_eq_some_iff.1 hj).1; simpa using this
    simp only [List.getElem?_map,List.getElem?_range hj',Option.map_some,Option.some.injEq] at hj
    subst hj
    exact e4 j (by omega)
  | false =>
   rw [hag,cond_false] at h
   split at h
   case h_2=>exact h.elim
   rename_i t r
   refine LOk.pure _ _ h (by simp) fun g w m' ρ hm hrd hev => ?_
   obtain ⟨b,of,f,e2,e3,e4,e5⟩:=(hev _ _ hx).ept_inv
   exact ⟨f 0,hrun ρ w _ _ e2 (run_load1 hT e1 hag (e4 0 (by simp))),.tr (e5 0 t rfl)⟩
 ·exact h.elim
end
end Go.Proofs.YtbflekglkkdipaaGreatDoor.am
namespace Go.Proofs.YtbflekglkkdipaaGreatDoor.am
open Go
set_option linter.unusedSimpArgs false
section
variable {P:Program} {T:Ty} {o:Oper} {m:Mem} {nh:Nat} {ev:Operand→Option AV} {K:KK}
theorem split_at {α:Type} : ∀ (rows:List α) (i:Nat) (row:α),rows[i]? = some row→rows=rows.take i++row::rows.drop (i+1)
 | [],i,_,h=>by simp at h
 | r::rs,0,row,h=>by simp at h; subst h; rfl
 | r::rs,i+1,row,h=>by
  have:=split_at rs i row (by simpa using h)
  simp only [List.take_succ_cons,List.drop_succ_cons,List.cons_append]
  rw [← this]
theorem len_flat {α:Type} {n:Nat} : ∀ (rows:List (List α)),(∀ r ∈ rows,r.length=n)→rows.flatten.length=rows.length*n
 | [],_=>by simp
 | r::rs,h=>by rw [List.flatten_cons,List.length_append,h r (by simp),len_flat rs (fun r hr=>h r (by simp [hr])),List.length_cons,Nat.succ_mul]; omega
theorem flat_set {α:Type} {n:Nat} {rows:List (List α)} (hr : ∀ r ∈ rows,r.length=n) {i:Nat} {row:List α} (hi:rows[i]? = some row) (off:Nat) (cs:List α) (ho:off+cs.length≤row.length) :
  (rows.set i (row.take off++cs++row.drop (off+cs.length))).flatten=rows.flatten.take (i*n+off)++cs++rows.flatten.drop (i*n+off+cs.length):=by
 have hlt:=(List.getElem?_eq_some_iff.1 hi).1
 have e:=split_at rows i row hi
 have e1:(rows.take i).flatten.length=i*n:=by rw [len_flat _ (fun r h=>hr r (List.mem_of_mem_take h)),List.length_take,Nat.min_eq_left (by omega)]
 have hset:rows.set i (row.take off++cs++row.drop (off+cs.length))=rows.take i++(row.take off++cs++row.drop (off+cs.length))::rows.drop (i+1):=by
  rw [List.set_eq_take_append_cons_drop,if_pos hlt]
 have hfl:rows.flatten=(rows.take i).flatten++(row++(rows.drop (i+1)).flatten):=by
  conv=>lhs; rw [e]
  simp
 rw [hset,hfl,List.flatten_append,List.flatten_cons]
 generalize (rows.take i).flatten=A at *
 generalize (rows.drop (i+1)).flatten=C at *
 clear hset hfl e
 rw [List.take_append,List.take_of_length_le (l:=A) (by omega),e1,show i*n+off - i*n=off by omega,List.take_append_of_le_length (by omega)]
 rw [List.drop_append,List.drop_of_length_le (l:=A) (by omega),e1,show i*n+off+cs.length - i*n=off+cs.length by omega,List.drop_append_of_le_length (by omega)]
 simp
theorem l_store (hT:TOk P T) {ty:TypeId} {x y:Operand} {a b:AV} (ho:o.op = .store ty x y) (hx:ev x=some a) (hy:ev y=some b) (h:astore T m ty b K a):LOk P o m nh ev K:=by
 have hrun : ∀ (ρ:Operand→Value) (w w':World) (u:Value),ρ x=u→(Instr.storeAt ty u (ρ y)).run P w = .ok () w'→(execOp ρ o).run P w = .ok .skip w':=fun ρ w w' u hu e=>by
  subst hu; simp [execOp,ho,e]
 unfold astore at h
 split at h
 ·rename_i hd off
  split at h
  case h_2=>exact h.elim
  rename_i i t l cs e1 e2 e3
  cases hc:(Nat.beq cs.length i.size && cs.all AV.one && Nat.ble (off+cs.length) l.length) with
  | false=>rw [hc] at h; exact h.elim
  | true =>
   rw [hc] at h
   simp only [Bool.and_eq_true] at hc
   obtain ⟨⟨c1,c2⟩,c3⟩:=hc
   have c1:=Nat.eq_of_beq_eq_true c1
   have c3:=Nat.le_of_ble_eq_true c3
   refine ⟨_,_,_,h,fun p hp=>by simp at hp; subst hp; exact e2,fun p hp => .inr ⟨(hd,.cells t l),by simp,by simp at hp; rw [hp]⟩,fun g w m' ρ hm hn hrd hev => ?_⟩
   obtain ⟨lc,g1,k,cur,rfl,g2,g3⟩:=hm.blk hd _ (hrd (hd,.cells t l) (by simp))
   have hcs:=(hev _ _ hy).cells e3 c2
   have hsz:=hcs.1
   have hsz2:=g3.1
   have hput:=g3.put hcs off c3
   have hr:=run_storeA (P:=P) hT e1 g2 (x:=ρ y) (o:=off) (by omega) (fun v hv=>by
    obtain ⟨j,hj⟩:=List.mem_iff_getElem?.1 hv
    have hj':j<cs.length:=by have:=(List.getElem?_eq_some_iff.1 hj).1; simp at this; omega
    exact (hcs.2.2 j v cs[j] (by simpa using hj) (by simp [hj'])).one (hcs.2.1 _ (by simp))) (by omega)
   refine ⟨g,_,.inr ⟨hrun ρ w _ _ ((hev _ _ hx).ptr_inv g1) hr,rfl⟩,?_,?_,fun _ _ h=>h⟩
   ·have hg:=grow_write (b:=k) (hm.xl hd k (.root g1 rfl)) (.root g1 rfl) (w:=w) (w':=w.setRow k (cur.toList.take off++(ρ y).cells.toList++cur.toList.drop (off+(ρ y).cells.size)).toArray) rfl rfl rfl (by simp) (fun j hj=>setRow_other w k j _ hj)
    exact mst_write hm g1 (.inl rfl) hg (by simp) (fun j hj=>setRow_other w k j _ hj) ⟨k,_,rfl,setRow_heap w k cur _ t _ g2,hput.grow hg⟩
   ·exact grow_write (b:=k) (hm.xl hd k (.root g1 rfl)) (.root g1 rfl) rfl rfl rfl (by simp) (fun j hj=>setRow_other w k j _ hj)
 ·rename_i hd n i off
  split at h
  case h_2=>exact h.elim
  rename_i ti e n' B rows cs e1 e2 e3
  obtain ⟨rfl,c1,c2,h⟩:=h
  obtain ⟨row,hrow⟩ : ∃ row,rows[i]? = some row:=⟨rows[i],by simp [c2]⟩
  obtain ⟨c3,h⟩:=h row hrow
  refine ⟨_,_,_,h,fun p hp=>by simp at hp; subst hp; exact e2,fun p hp => .inr ⟨(hd,.vec e n B rows),by simp,by simp at hp; rw [hp]⟩,fun g w m' ρ hm hn hrd hev => ?_⟩
  obtain ⟨lc,g1,g2⟩:=hm.blk hd _ (hrd (hd,.vec e n B rows) (by simp))
  have g2':=g2
  obtain ⟨hB,hn0,_⟩:=g2'
  have g2':=g2
  obtain ⟨_,_,hv | ⟨k,cap,cur,rfl,g3,g4,g4',g5,g6,g7⟩⟩:=g2'
  ·rw [hv.2] at c2; simp at c2
  obtain ⟨b',cap',q1,q2⟩:=(hev _ _ hx).vpt_inv g1
  cases q1
  obtain ⟨hcs,hcr⟩:=(hev _ _ hy).trCells e3
  have hrl:=g6 row (List.mem_of_getElem? hrow)
  have hsz:i*n+n≤cur.size:=by
   have:(i+1)*n≤cap*n:=Nat.mul_le_mul_right _ (by omega)
   rw [Nat.succ_mul] at this; omega
  have hr:=run_storeA (P:=P) hT e1 g3 (x:=ρ y) (o:=i*n+off) (by omega) (fun v hv=>by
    obtain ⟨j,hj⟩:=List.mem_iff_getElem?.1 hv
    have hj':j<cs.length:=by have:=(List.getElem?_eq_some_iff.1 hj).1; simp at this; omega
    obtain ⟨c,w1,w2⟩:=hcr j cs[j] (by simp [hj'])
    rw [← Array.getElem?_toList,hj] at w1; cases w1
    exact w2.one) (by omega)
  have hk2:=setRow_heap w k cur (cur.toList.take (i*n+off)++(ρ y).cells.toList++cur.toList.drop (i*n+off+(ρ y).cells.size)).toArray e _ g3
  have hko:=fun j hj=>setRow_other w k j (cur.toList.take (i*n+off)++(ρ y).cells.toList++cur.toList.drop (i*n+off+(ρ y).cells.size)).toArray hj
  have hg:=grow_write (b:=k) (hm.xl hd k (.root g1 rfl)) (.root g1 rfl) (w:=w) (w':=w.setRow k (cur.toList.take (i*n+off)++(ρ y).cells.toList++cur.toList.drop (i*n+off+(ρ y).cells.size)).toArray) rfl rfl rfl (by simp) hko
  have hsz2:(w.setRow k (cur.toList.take (i*n+off)++(ρ y).cells.toList++cur.toList.drop (i*n+off+(ρ y).cells.size)).toArray).heap.size=w.heap.size:=by simp
  generalize w.setRow k (cur.toList.take (i*n+off)++(ρ y).cells.toList++cur.toList.drop (i*n+off+(ρ y).cells.size)).toArray=w2 at *
  refine ⟨g,_,.inr ⟨hrun ρ w _ _ q2 hr,rfl⟩,?_,hg,fun _ _ h=>h⟩
  have hfl:=flat_set g6 hrow off cs c3
  have hfn:rows.flatten.length=rows.length*n:=len_flat rows g6
  have hrc:rows.length*n≤cap*n:=Nat.mul_le_mul_right _ g4
  refine mst_write hm g1 (.inl rfl) hg hsz2 hko ⟨by simpa using hB,hn0,.inr ⟨k,cap,_,rfl,hk2,by simpa using g4,g4',by simp; omega,fun r hr => ?_,fun j t hj => ?_⟩⟩
  ·rcases List.mem_or_eq_of_mem_set hr with hr | rfl
   ·exact g6 r hr
   ·simp; omega
  ·rw [hfl] at hj
   have hin:i*n+n≤rows.flatten.length:=by
    rw [hfn]
    have:(i+1)*n≤rows.length*n:=Nat.mul_le_mul_right _ (by omega)
    rw [Nat.succ_mul] at this; omega
   rw [List.append_assoc] at hj
   simp only [List.getElem?_toArray,List.append_assoc]
   by_cases k1:j<i*n+off
   ·rw [List.getElem?_append_left (by rw [List.length_take]; omega),List.getElem?_take,if_pos k1] at hj
    rw [List.getElem?_append_left (by rw [List.length_take,Array.length_toList]; omega),List.getElem?_take,if_pos k1]
    obtain ⟨c,w1,w2⟩:=g7 j t hj
    exact ⟨c,by simpa using w1,w2.grow hg⟩
   ·rw [List.getElem?_append_right (by rw [List.length_take]; omega),List.length_take,Nat.min_eq_left (by omega)] at hj
    rw [List.getElem?_append_right (by rw [List.length_take,Array.length_toList]; omega),List.length_take,Array.length_toList,Nat.min_eq_left (by omega)]
    by_cases k2:j - (i*n+off)<cs.length
    ·rw [List.getElem?_append_left k2] at hj
     rw [List.getElem?_append_left (by rw [Array.length_toList]; omega)]
     obtain ⟨c,w1,w2⟩:=hcr _ t hj
     exact ⟨c,by simpa using w1,w2.grow hg⟩
    ·rw [List.getElem?_append_right (by omega),List.getElem?_drop] at hj
     rw [List.getElem?_append_right (by rw [Array.length_toList]; omega),List.getElem?_drop,Array.length_toList]
     obtain ⟨c,w1,w2⟩:=g7 _ t hj
     refine ⟨c,?_,w2.grow hg⟩
     rw [Array.getElem?_toList,← w1]; congr 1; omega
 ·exact h.elim
theorem int_inv {g:Gh} {w:World} {v:Value} {k:IntKind} {z:Int} (h:Rep g w v (.tr (.v (.int k z)))):v = .int k z∧k.min≤z∧z≤k.max:=by
 cases h.tr_inv with | v hg=>exact ⟨rfl,hg⟩
theorem val_inv {g:Gh} {w:World} {v x:Value} (h:Rep g w v (.tr (.v x))):v=x∧good x:=by
 cases h.tr_inv with | v hg=>exact ⟨rfl,hg⟩
theorem D_struct {u:TypeDesc} {fs:List (Nat × Nat)} (h:D.of u = .struct fs) : ∃ fds:Array Field,u = .struct fds∧fs=fds.toList.map fun f=>(f.type,f.offset):=by
 cases u <;> first | (cases h; done) | (cases h; exact ⟨_,rfl,rfl⟩)
theorem D_slice {u:TypeDesc} {e:Nat} (h:D.of u = .slice e):u = .slice e:=by
 cases u <;> first | (cases h; done) | (cases h; rfl)
theorem D_array {u:TypeDesc} {n e:Nat} (h:D.of u = .array n e):u = .array n e:=by
 cases u <;> first | (cases h; done) | (cases h; rfl)
theorem D_string {u:TypeDesc} (h:D.of u = .string):u = .string:=by
 cases u <;> first | (cases h; done) | rfl
theorem D_int {u:TypeDesc} {k:IntKind} (h:D.of u = .int k):u = .int k:=by
 cases u <;> first | (cases h; done) | (cases h; rfl)
theorem field_at {fds:Array Field} {f ft off:Nat} (h:(fds.toList.map fun f=>(f.type,f.offset))[f]? = some (ft,off)) : ∃ fd,fds[f]? = some fd∧fd.type=ft∧fd.offset=off:=by
 simp only [List.getElem?_map,Option.map_eq_some_iff,Prod.mk.injEq] at h
 obtain ⟨fd,h1,h2,h3⟩:=h
 exact ⟨fd,by simpa using h1,h2,h3⟩
theorem l_fieldAddr (hT:TOk P T) {ty f:Nat} {x:Operand} {a:AV} (ho:o.op = .fieldAddr ty x f) (hx:ev x=some a) (h:afieldAddr T m ty f K a):LOk P o m nh ev K:=by
 unfold afieldAddr at h
 split at h
 case h_2=>exact h.elim
 rename_i fs s1 s2 s3 s4 e1
 split at h
 case h_2=>exact h.elim
 rename_i ft off e2
 split at h
 case h_2=>exact h.elim
 rename_i ti e3
 cases hz:Nat.beq ti.size 0 with
 | true=>rw [hz] at h; exact h.elim
 | false =>
 rw [hz,cond_false] at h
 have hz:ti.size≠0:=fun e=>by rw [e] at hz; simp at hz
 have hrun : ∀ (ρ:Operand→Value) (w:World) (b of:Nat),ρ x = .pointer (some ⟨b,of,none⟩)→(execOp ρ o).run P w = .ok (.value (.pointer (some ⟨b,of+off,none⟩))) w:=fun ρ w b of hu=>by
  obtain ⟨u,u1,u2,_⟩:=run_und hT e1 w
  obtain ⟨fds,rfl,rfl⟩:=D_struct u2
  obtain ⟨fd,q1,q2,q3⟩:=field_at e2
  simp [execOp,ho,hu,Instr.fieldAt,u1,q1,Instr.sureAddr,fieldPlace,q2,run_size hT e3,hz,q3,add_mk]
 split at h
 ·rename_i hd of
  split at h
  case h_2=>exact h.elim
  rename_i b eb
  refine LOk.pure _ _ h (by simpa using eb) fun g w m' ρ hm hrd hev => ?_
  obtain ⟨l,g1,g2⟩:=hm.blk hd b (hrd (hd,b) (by simp))
  have hr:=hev _ _ hx
  cases b with
  | cells t l' =>
   obtain ⟨k,_,rfl,_⟩:=g2
   exact ⟨_,hrun ρ w _ _ (hr.ptr_inv g1),.ptr g1⟩
  | map kd es =>
   obtain ⟨k,_,_,rfl,_⟩:=g2
   exact ⟨_,hrun ρ w _ _ (hr.ptr_inv g1),.ptr g1⟩
  | itr h0 n seen =>
   obtain ⟨k,_,rfl,_⟩:=g2
   exact ⟨_,hrun ρ w _ _ (hr.ptr_inv g1),.ptr g1⟩
  | vec e n B rows =>
   generalize hv:ρ x=v at hr
   cases hr with
   | ptrD e=>rw [g1] at e; cases e
   | ptr e=>exact ⟨_,hrun ρ w _ _ hv,.ptr e⟩
  | own n B rows ln =>
   generalize hv:ρ x=v at hr
   cases hr with
   | ptrD e=>rw [g1] at e; cases e
   | ptr e=>exact ⟨_,hrun ρ w _ _ hv,.ptr e⟩
  | fns e B h0 fs =>
   generalize hv:ρ x=v at hr
   cases hr with
   | ptrD e=>rw [g1] at e; cases e
   | ptr e=>exact ⟨_,hrun ρ w _ _ hv,.ptr e⟩
 ·rename_i hd n i of
  split at h
  case h_2=>exact h.elim
  rename_i b eb
  refine LOk.pure _ _ h (by simpa using eb) fun g w m' ρ hm hrd hev => ?_
  obtain ⟨l,g1,g2⟩:=hm.blk hd b (hrd (hd,b) (by simp))
  obtain ⟨k,cap,rfl,e5⟩:=(hev _ _ hx).vpt_inv g1
  exact ⟨_,hrun ρ w _ _ e5,by rw [Nat.add_assoc]; exact .vpt g1⟩
 ·rename_i cs
  refine LOk.pure _ _ h (by simp) fun g w m' ρ hm hrd hev => ?_
  obtain ⟨b,of,f',e5,e6,e7,e8⟩:=(hev _ _ hx).ept_inv
  refine ⟨_,hrun ρ w _ _ e5,.ept (fun j=>f' (off+j)) e6 (fun j hj => ?_) fun j t hj => ?_⟩
  ·rw [Nat.add_assoc]; exact e7 (off+j) (by simp at hj; omega)
  ·rw [List.getElem?_drop] at hj; exact e8 _ t hj
 ·exact h.elim
theorem l_field (hT:TOk P T) {ty f:Nat} {x:Operand} {a:AV} (ho:o.op = .field ty x f) (hx:ev x=some a) (h:afield T ty f K a):LOk P o m nh ev K:=by
 unfold afield at h
 split at h
 case h_2=>exact h.elim
 rename_i fs s1 s2 s3 s4 l e1
 split at h
 case h_2=>exact h.elim
 rename_i ft off e2
 split at h
 case h_2=>exact h.elim
 rename_i ti e3
 have hrun : ∀ (ρ:Operand→Value) (w:World) (cs:Array Value) (v:Value),ρ x = .agg cs→(part ft cs off).run P w = .ok v w→(execOp ρ o).run P w = .ok (.value v) w:=fun ρ w cs v hu hp=>by
  obtain ⟨u,u1,u2,_⟩:=run_und hT e1 w
  obtain ⟨fds,rfl,rfl⟩:=D_struct u2
  obtain ⟨fd,q1,q2,q3⟩:=field_at e2
  simp [execOp,ho,hu,Instr.field,u1,q1,asAgg,q2,q3,hp]
 have hcells : ∀ (g:Gh) (w:World) (v:Value),Rep g w v (.agg l) → ∃ cs,v = .agg cs∧Cells g w cs l:=fun g w v hr=>by
  cases hr with
  | agg h1 h2 h3=>exact ⟨_,rfl,h1,h2,h3⟩
 cases hag:ti.d.agg with
 | true =>
  rw [hag,cond_true] at h
  cases hle:Nat.ble (off+ti.size) l.length with
  | false=>rw [hle] at h; exact h.elim
  | true =>
   rw [hle] at h
   refine LOk.pure _ _ h (by simp) fun g w m' ρ hm hrd hev => ?_
   obtain ⟨cs,e5,e6⟩:=hcells g w _ (hev _ _ hx)
   exact ⟨_,hrun ρ w cs _ e5 (by simp [part,run_isAgg hT e3,hag,run_size hT e3]),(e6.drop_take off ti.size).agg⟩
 | false =>
  rw [hag,cond_false] at h
  split at h
  case h_2=>exact h.elim
  rename_i a ha
  refine LOk.pure _ _ h (by simp) fun g w m' ρ hm hrd hev => ?_
  obtain ⟨cs,e5,e6⟩:=hcells g w _ (hev _ _ hx)
  obtain ⟨c,c1,c2⟩:=get_cells e6 ha
  exact ⟨_,hrun ρ w cs _ e5 (by simp [part,run_isAgg hT e3,hag,c1]),c2⟩
end
end Go.Proofs.YtbflekglkkdipaaGreatDoor.am
namespace Go.Proofs.YtbflekglkkdipaaGreatDoor.am
open Go
set_option linter.unusedSimpArgs false
section
variable {P:Program} {T:Ty} {o:Oper} {m:Mem} {nh:Nat} {ev:Operand→Option AV} {K:KK}
theorem isInt_inv {b:AV} {z:Int} (h:isInt b=some z) : ∃ k,b = .tr (.v (.int k z)):=by
 unfold isInt at h
 split at h
 ·cases h; exact ⟨_,rfl⟩
 ·cases h
theorem lst_inv {ok:Nat→Prop} {w:World} {v:Value} {n B:Nat} {rows:List (List Tr)} (h:RepT ok w v (.lst n B rows)) : ∃ (ao:Option Addr) (cap:Nat) (f:Nat→Nat→Value),v = .slice ao rows.length cap∧rows.length≤cap∧cap≤9223372036854775807∧rows.length*B≤150000000000000∧(ao=none→cap=0) ∧
   (∀ (i:Nat) (row:List Tr),rows[i]? = some row→row.length=n ∧ ∃ b o:Nat,ao=some ⟨b,o,none⟩∧ok b ∧ ∀ j,j<n→w.cell? ⟨b,o+i*n+j,none⟩=some (f i j)) ∧
   (∀ (i:Nat) (row:List Tr) (j:Nat) (t:Tr),rows[i]? = some row→row[j]? = some t→RepT ok w (f i j) t):=by
 cases h with
 | lst f h1 h2 h3 h4 h5 h6 h7=>subst h1; exact ⟨_,_,f,rfl,h2,h3,h4,h5,h6,h7⟩
theorem l_indexAddr (hT:TOk P T) {ty:Nat} {x i:Operand} {a:AV} {k:IntKind} {z:Int} (ho:o.op = .indexAddr ty x i) (hx:ev x=some a) (hi:ev i=some (.tr (.v (.int k z)))) (h:aindexAddr T m ty z K a):LOk P o m nh ev K:=by
 unfold aindexAddr at h
 split at h
 ·rename_i n B rows
  split at h
  case h_2=>exact h.elim
  rename_i e s1 s2 s3 s4 e1
  split at h
  case h_2=>exact h.elim
  rename_i te e2
  obtain ⟨hn,h0,h1,h⟩:=h
  have hlt:z.toNat<rows.length:=by omega
  obtain ⟨row,hrow⟩ : ∃ row,rows[z.toNat]? = some row:=⟨rows[z.toNat],by simp [hlt]⟩
  refine LOk.pure _ _ (h row hrow) (by simp) fun g w m' ρ hm hrd hev => ?_
  obtain ⟨u,u1,u2,_⟩:=run_und hT e1 w
  obtain rfl:=D_slice u2
  obtain ⟨hz,_⟩:=int_inv (hev _ _ hi)
  obtain ⟨ao,cap,f,hv,q1,q2,q3,q4,q5,q6⟩:=lst_inv (hev _ _ hx).tr_inv
  obtain ⟨hl,b,of,rfl,hk,hc⟩:=q5 _ row hrow
  refine ⟨.pointer (some ⟨b,of+z.toNat*n,none⟩),?_,.ept (f z.toNat) hk (fun j hj=>hc j (by omega)) (fun j t hj=>q6 _ row j t hrow hj)⟩
  simp [execOp,ho,hv,hz,Instr.indexAt,asIntOf,u1,h0,h1,run_size hT e2,hn,add_mk]
 ·rename_i hd len
  split at h
  case h_2=>exact h.elim
  rename_i e s1 s2 s3 s4 e' n B rows e1 em
  split at h
  case h_2=>exact h.elim
  rename_i te e2
  obtain ⟨hn,h0,h1,h⟩:=h
  refine LOk.pure _ _ h (by simpa using em) fun g w m' ρ hm hrd hev => ?_
  obtain ⟨u,u1,u2,_⟩:=run_und hT e1 w
  obtain rfl:=D_slice u2
  obtain ⟨hz,_⟩:=int_inv (hev _ _ hi)
  obtain ⟨l,g1,g2⟩:=hm.blk hd _ (hrd (hd,.vec e' n B rows) (by simp))
  rcases (hev _ _ hx).sl_inv g1 with ⟨b,cap,rfl,hle,hv⟩ | ⟨rfl,rfl,hv⟩
  ·refine ⟨.pointer (some ⟨b,z.toNat*n+0,none⟩),?_,.vpt g1⟩
   simp [execOp,ho,hv,hz,Instr.indexAt,asIntOf,u1,h0,h1,run_size hT e2,hn,add_mk]
  ·omega
 ·rename_i hd off
  split at h
  case h_2=>exact h.elim
  rename_i k' e s1 s2 s3 s4 b e1 em
  split at h
  case h_2=>exact h.elim
  rename_i te e2
  obtain ⟨h0,h1,h⟩:=h
  refine LOk.pure _ _ h (by simpa using em) fun g w m' ρ hm hrd hev => ?_
  obtain ⟨u,u1,u2,_⟩:=run_und hT e1 w
  obtain rfl:=D_array u2
  obtain ⟨hz,_⟩:=int_inv (hev _ _ hi)
  obtain ⟨l,g1,g2⟩:=hm.blk hd _ (hrd (hd,b) (by simp))
  have hr:=hev _ _ hx
  generalize hv:ρ x=v at hr
  cases hr with
  | ptrD e=>rw [g1] at e; cases e
  | ptr e =>
   refine ⟨_,?_,.ptr e⟩
   simp [execOp,ho,hv,hz,Instr.indexAt,asIntOf,u1,h0,h1,run_size hT e2,add_mk,Instr.sureAddr]
 ·exact h.elim
theorem l_index (hT:TOk P T) {ty:Nat} {x i:Operand} {a:AV} {k:IntKind} {z:Int} (ho:o.op = .index ty x i) (hx:ev x=some a) (hi:ev i=some (.tr (.v (.int k z)))) (h:aindex T ty z K a):LOk P o m nh ev K:=by
 unfold aindex at h
 split at h
 ·rename_i s
  split at h
  case h_2=>exact h.elim
  rename_i s1 s2 s3 s4 e1
  obtain ⟨h0,h1,h⟩:=h
  have hlt:z.toNat<s.size:=by omega
  obtain ⟨c,hc⟩ : ∃ c,s[z.toNat]? = some c:=⟨s[z.toNat],by simp [hlt]⟩
  refine LOk.pure _ _ (h c hc) (by simp) fun g w m' ρ hm hrd hev => ?_
  obtain ⟨u,u1,u2,_⟩:=run_und hT e1 w
  obtain rfl:=D_string u2
  obtain ⟨hz,_⟩:=int_inv (hev _ _ hi)
  obtain ⟨hv,_⟩:=val_inv (hev _ _ hx)
  refine ⟨.int .u8 c.toNat,?_,.tr (.v ⟨by simp [IntKind.min,IntKind.signed],?_⟩)⟩
  ·simp [execOp,ho,hv,hz,Instr.index,asIntOf,u1,h0,hc]
  ·have:=c.toNat_lt; simp [IntKind.max,IntKind.signed,IntKind.bits]; omega
 ·rename_i l
  split at h
  case h_2=>exact h.elim
  rename_i k' e s1 s2 s3 s4 e1
  split at h
  case h_2=>exact h.elim
  rename_i te e2
  obtain ⟨h0,h1,h⟩:=h
  have hcells : ∀ (g:Gh) (w:World) (v:Value),Rep g w v (.agg l) → ∃ cs,v = .agg cs∧Cells g w cs l:=fun g w v hr=>by
   cases hr with
   | agg h1 h2 h3=>exact ⟨_,rfl,h1,h2,h3⟩
  have hrun : ∀ (ρ:Operand→Value) (w:World) (cs:Array Value) (v:Value),ρ x = .agg cs→ρ i = .int k z→(part e cs (z.toNat*te.size)).run P w = .ok v w→(execOp ρ o).run P w = .ok (.value v) w:=fun ρ w cs v hu hz hp=>by
   obtain ⟨u,u1,u2,_⟩:=run_und hT e1 w
   obtain rfl:=D_array u2
   simp [execOp,ho,hu,hz,Instr.index,asIntOf,u1,h0,h1,run_size hT e2,hp]
  cases hag:te.d.agg with
  | true =>
   rw [hag,cond_true] at h
   obtain ⟨hle,h⟩:=h
   refine LOk.pure _ _ h (by simp) fun g w m' ρ hm hrd hev => ?_
   obtain ⟨cs,e5,e6⟩:=hcells g w _ (hev _ _ hx)
   exact ⟨_,hrun ρ w cs _ e5 (int_inv (hev _ _ hi)).1 (by simp [part,run_isAgg hT e2,hag,run_size hT e2]),(e6.drop_take _ te.size).agg⟩
  | false =>
   rw [hag,cond_false] at h
   obtain ⟨hs,hl,h⟩:=h
   refine LOk.pure _ _ (h l[z.toNat] (by simp [hl])) (by simp) fun g w m' ρ hm hrd hev => ?_
   obtain ⟨cs,e5,e6⟩:=hcells g w _ (hev _ _ hx)
   obtain ⟨c,c1,c2⟩:=get_cells e6 (show l[z.toNat]? = some l[z.toNat] by simp [hl])
   exact ⟨_,hrun ρ w cs _ e5 (int_inv (hev _ _ hi)).1 (by simp [part,run_isAgg hT e2,hag,hs,c1]),c2⟩
 ·exact h.elim
theorem wrap_in (k:IntKind) (n:Int):k.min≤k.wrap n∧k.wrap n≤k.max:=by
 cases k <;> simp only [IntKind.wrap,IntKind.min,IntKind.max,IntKind.signed,IntKind.bits,if_true,Bool.true_and,Bool.false_and,Bool.false_eq_true,if_false,Nat.reduceSub,Int.reducePow]
 all_goals first
  | omega
  | (split
     ·rename_i h; have:=of_decide_eq_true h; omega
     ·rename_i h; have : ¬ _:=fun e=>h (decide_eq_true e); omega)
theorem tmod_in {k:IntKind} {a b:Int} (ha:k.min≤a∧a≤k.max):k.min≤a.tmod b∧a.tmod b≤k.max:=by
 have h0:k.min≤0∧0≤k.max:=by cases k <;> decide
 rcases Int.le_total 0 a with h | h
 ·have h1:=Int.tmod_nonneg b h
  have h2:a.tmod b≤a:=by
   have:=Int.natAbs_tmod a b
   have:=Nat.mod_le a.natAbs b.natAbs
   omega
  omega
 ·have h1:a.tmod b≤0:=by
   have:=Int.tmod_nonneg b (a := -a) (by omega)
   rw [Int.neg_tmod] at this; omega
  have:=Int.natAbs_tmod a b
  have:=Nat.mod_le a.natAbs b.natAbs
  omega
theorem fdiv_in {k:IntKind} {a:Int} {n:Nat} (ha:k.min≤a∧a≤k.max):k.min≤a.fdiv (2 ^ n)∧a.fdiv (2 ^ n)≤k.max:=by
 have h0:k.min≤0∧0≤k.max:=by cases k <;> decide
 have hp:(1:Int)≤2 ^ n:=by
  have:=Int.pow_pos (n:=2) (m:=n) (by omega); omega
 have e:a.fdiv (2 ^ n)=a / 2 ^ n:=by rw [Int.fdiv_eq_ediv_of_nonneg _ (by omega)]
 rw [e]
 rcases Int.le_total 0 a with h | h
 ·have h1:0≤a / 2 ^ n:=Int.ediv_nonneg h (by omega)
  have h2:a / 2 ^ n≤a:=Int.ediv_le_self _ h
  omega
 ·have h1:a / 2 ^ n≤0:=by
   have:=Int.ediv_le_ediv (a:=a) (b:=0) (c:=2 ^ n) (by omega) h
   simpa using this
  have h2:a≤a / 2 ^ n:=by
   rw [Int.le_ediv_iff_mul_le (by omega)]
   have:a*2 ^ n≤a*1:=Int.mul_le_mul_of_nonpos_left h hp
   omega
  omega
theorem dOf_und (hT:TOk P T) {t:Nat} {d:D} (h:dOf T t=some d) : ∃ u,P.underlying t=some u∧D.of u=d:=by
 unfold dOf at h
 split at h
 ·rename_i i e
  cases h
  obtain ⟨_,u,_,_,h2,h3,_⟩:=hT.info e
  exact ⟨u,h2,h3⟩
 ·cases h
theorem D_bool {u:TypeDesc} (h:D.of u = .bool):u = .bool:=by
 cases u <;> first | (cases h; done) | rfl
theorem abin_run (hT:TOk P T) {op:BinOp} {x y v:Value} {c:Option Prop} {t:TypeId} (h:abin (dOf T t) op x y=some (c,v)) (hc : ∀ p,c=some p→p) (hx:good x) (hy:good y) (xo yo:Operand) (w:World) :
  (do eqGuard op t xo yo x y; binOp op t x y:Sem Value).run P w = .ok v w∧good v:=by
 unfold abin at h
 split at h
 ·rename_i k a k' b
  split at h
  ·cases h
   have:=hc _ rfl
   refine ⟨?_,wrap_in _ _⟩
   simp [eqGuard,binOp,Op.shift,Int.not_lt.2 this]
  ·cases h
   have:=hc _ rfl
   refine ⟨?_,fdiv_in hx⟩
   simp [eqGuard,binOp,Op.shift,Int.not_lt.2 this]
  ·rename_i op hn1 hn2
   by_cases hk:k=k'
   ·subst hk
    rw [if_pos rfl] at h
    split at h
    case h_4=>cases h; have:=hc _ rfl; exact ⟨by simp [eqGuard,binOp,Op.intDiv,this],wrap_in _ _⟩
    case h_5=>cases h; have:=hc _ rfl; exact ⟨by simp [eqGuard,binOp,Op.intDiv,this],tmod_in hx⟩
    all_goals first
     | (cases h; exact ⟨by simp [eqGuard,binOp,Op.intArith,Op.intBits,Op.intCmp],by first | exact wrap_in _ _ | trivial⟩)
     | cases h
   ·rw [if_neg hk] at h; cases h
 ·rename_i a b
  split at h
  ·cases h
   have hs:=hc _ rfl
   refine ⟨?_,by show (a++b).size≤_; rw [ByteArray.size_append]; exact hs⟩
   have : ¬ ((a.size+b.size:Nat):Int) > IntKind.i64.max:=by
    simp only [IntKind.max,IntKind.signed,IntKind.bits,if_true,Nat.reduceSub,Int.reducePow]; omega
   simp only [eqGuard,binOp,Op.stringOp]
   rw [if_neg this]
   rfl
  ·cases h; exact ⟨by simp [eqGuard,binOp,Op.stringOp],trivial⟩
  ·cases h; exact ⟨by simp [eqGuard,binOp,Op.stringOp],trivial⟩
  ·cases h
 ·rename_i a b
  split at h
  ·rename_i e
   obtain ⟨u,u1,u2⟩:=dOf_und hT e
   obtain rfl:=D_bool u2
   cases h; exact ⟨by simp [eqGuard,run_eql_bool w t a b u1],trivial⟩
  ·rename_i e
   obtain ⟨u,u1,u2⟩:=dOf_und hT e
   obtain rfl:=D_bool u2
   cases h; exact ⟨by simp [eqGuard,run_neq_bool w t a b u1],trivial⟩
  ·cases h
 ·cases h
theorem l_binOp (hT:TOk P T) {op:BinOp} {ty ty2:Nat} {x y:Operand} {a b v:Value} {c:Option Prop} (ho:o.op = .binOp op ty x y ty2) (hx:ev x=some (.tr (.v a))) (hy:ev y=some (.tr (.v b)))
  (h:abin (dOf T ty) op a b=some (c,v)) (hK:under c (K (.tr (.v v)) [] [])):LOk P o m nh ev K:=by
 have hc : ∀ p,c=some p→p:=fun p e=>by subst e; exact hK.1
 have hK:K (.tr (.v v)) [] []:=by cases c with | none=>exact hK | some p=>exact hK.2
 refine LOk.pure _ _ hK (by simp) fun g w m' ρ hm hrd hev => ?_
 obtain ⟨e1,g1⟩:=val_inv (hev _ _ hx)
 obtain ⟨e2,g2⟩:=val_inv (hev _ _ hy)
 obtain ⟨h1,h2⟩:=abin_run hT h hc g1 g2 x y w
 refine ⟨v,?_,.tr (.v h2)⟩
 simp only [Sem.run_bind] at h1
 simp only [execOp,ho,e1,e2,Sem.run_bind,h1,Result.andThen_ok,Sem.run_pure]
theorem l_unOp {op:UnOp} {ty:Nat} {x:Operand} {a v:Value} (ho:o.op = .unOp op ty x) (hx:ev x=some (.tr (.v a))) (h:aun op a=some v) (hK:K (.tr (.v v)) [] []):LOk P o m nh ev K:=by
 refine LOk.pure _ _ hK (by simp) fun g w m' ρ hm hrd hev => ?_
 obtain ⟨e1,g1⟩:=val_inv (hev _ _ hx)
 unfold aun at h
 split at h
 ·split at h
  ·cases h; exact ⟨_,by simp [execOp,ho,e1,Op.unary,Op.intArith],.tr (.v (wrap_in _ _))⟩
  ·cases h; exact ⟨_,by simp [execOp,ho,e1,Op.unary,Op.intBits],.tr (.v (wrap_in _ _))⟩
  ·cases h
 ·split at h
  ·cases h; exact ⟨_,by simp [execOp,ho,e1,Op.unary],.tr (.v trivial)⟩
  ·cases h
 ·cases h
theorem l_convI (hT:TOk P T) {s d:Nat} {x:Operand} {k k':IntKind} {n:Int} {i:TyI} {a b:Nat} {z:List Z} {q:Bool} (ho:o.op = .convert s d x) (hs:lk T s=some i) (hd:lk T d=some ⟨.int k,a,b,z,q⟩) (hx:ev x=some (.tr (.v (.int k' n))))
  (hK:K (.tr (.v (.int k (k.wrap n)))) [] []):LOk P o m nh ev K:=by
 refine LOk.pure _ _ hK (by simp) fun g w m' ρ hm hrd hev => ?_
 obtain ⟨e1,g1⟩:=val_inv (hev _ _ hx)
 obtain ⟨u,u1,u2,_⟩:=run_und hT hs w
 obtain ⟨u',u1',u2',_⟩:=run_und hT hd w
 obtain rfl:=D_int u2'
 exact ⟨.int k (k.wrap n),by simp [execOp,ho,e1,convert,u1,u1',Conv.intToInt],.tr (.v (wrap_in _ _))⟩
theorem l_convS (hT:TOk P T) {s d:Nat} {x:Operand} {st:ByteArray} {i:TyI} {a b:Nat} {z:List Z} {q:Bool} (ho:o.op = .convert s d x) (hs:lk T s=some i) (hd:lk T d=some ⟨.string,a,b,z,q⟩) (hx:ev x=some (.tr (.v (.string st))))
  (hK:K (.tr (.v (.string st))) [] []):LOk P o m nh ev K:=by
 refine LOk.pure _ _ hK (by simp) fun g w m' ρ hm hrd hev => ?_
 obtain ⟨e1,g1⟩:=val_inv (hev _ _ hx)
 obtain ⟨u,u1,u2,_⟩:=run_und hT hs w
 obtain ⟨u',u1',u2',_⟩:=run_und hT hd w
 obtain rfl:=D_string u2'
 refine ⟨.string st,?_,.tr (.v g1)⟩
 simp only [execOp,ho,e1,convert,Sem.run_bind,u1,u1',Result.andThen_ok]
 cases u <;> simp
theorem l_extract {x:Operand} {i:Nat} {l:List AV} {a:AV} (ho:o.op = .extract x i) (hx:ev x=some (.tup l)) (hi:l[i]? = some a) (hK:K a [] []):LOk P o m nh ev K:=by
 refine LOk.pure _ _ hK (by simp) fun g w m' ρ hm hrd hev => ?_
 have hr:=hev _ _ hx
 generalize hv:ρ x=v at hr
 cases hr with
 | tup h1 h2 =>
  rename_i cs
  have hlt:i<cs.size:=by rw [h1]; exact (List.getElem?_eq_some_iff.1 hi).1
  exact ⟨cs[i],by simp [execOp,ho,hv,Instr.extract,hlt],h2 i _ _ (by simp [hlt]) hi⟩
theorem l_makeInterface (hT:TOk P T) {t:Nat} (hlt:t<HMod) {x:Operand} {a:AV} {i:TyI} (ht:lk T t=some i) (hi:i.d ≠ .iface) (ho:o.op = .makeInterface t x) (hx:ev x=some a) (hK:K (.ifc t a) [] []):LOk P o m nh ev K :=
 LOk.pure _ _ hK (by simp) fun g w m' ρ hm hrd hev=>by
  obtain ⟨u,u1,u2,_⟩:=run_und hT ht w
  refine ⟨.iface t (ρ x),?_,.ifc hlt (hev _ _ hx)⟩
  simp only [execOp,ho,Instr.makeInterface,Sem.run_bind,u1,Result.andThen_ok]
  cases u with
  | interface ms=>exact absurd u2.symm hi
  | _=>rfl
theorem l_move {x:Operand} {a:AV} (ho:o.op = .move x∨o.op = .assign x) (hx:ev x=some a) (hK:K a [] []):LOk P o m nh ev K :=
 LOk.pure _ _ hK (by simp) fun g w m' ρ hm hrd hev=>⟨_,by rcases ho with ho | ho <;> simp [execOp,ho] <;> rfl,hev _ _ hx⟩
theorem len_good (n:Nat) (h:n≤9223372036854775807):good (.int .i64 n):=by
 simp [good,IntKind.min,IntKind.max,IntKind.signed,IntKind.bits]; omega
theorem l_len (hT:TOk P T) {x:Operand} {t:Nat} {a:AV} (ho:o.op = .call { callee := .builtin .len,args := #[x],argTypes := #[t] }) (hx:ev x=some a) (h:alen T m t K a):LOk P o m nh ev K:=by
 unfold alen at h
 have hrun : ∀ (ρ:Operand→Value) (w:World) (v:Value),(Builtin.len_ #[t] o.type #[ρ x]).run P w = .ok v w→(execOp ρ o).run P w = .ok (.value v) w:=fun ρ w v e=>by
  simp [execOp,ho,resolve,invoke,builtin,e]
 split at h
 ·rename_i s
  split at h
  case h_2=>exact h.elim
  rename_i s1 s2 s3 s4 e1
  refine LOk.pure _ _ h (by simp) fun g w m' ρ hm hrd hev => ?_
  obtain ⟨e2,g2⟩:=val_inv (hev _ _ hx)
  obtain ⟨u,u1,u2,_⟩:=run_und hT e1 w
  obtain rfl:=D_string u2
  exact ⟨_,hrun ρ w _ (by simp [Builtin.len_,u1,e2]; rfl),.tr (.v (len_good _ g2))⟩
 ·rename_i q1 l q2
  split at h
  case h_2=>exact h.elim
  rename_i e s1 s2 s3 s4 e1
  refine LOk.pure _ _ h (by simp) fun g w m' ρ hm hrd hev => ?_
  obtain ⟨e2,g2⟩:=val_inv (hev _ _ hx)
  obtain ⟨u,u1,u2,_⟩:=run_und hT e1 w
  obtain rfl:=D_slice u2
  obtain ⟨rfl,rfl,rfl⟩:=g2
  exact ⟨_,hrun ρ w _ (by simp [Builtin.len_,u1,e2]; rfl),.tr (.v (len_good _ (by omega)))⟩
 ·rename_i n B rows
  split at h
  case h_2=>exact h.elim
  rename_i e s1 s2 s3 s4 e1
  refine LOk.pure _ _ h (by simp) fun g w m' ρ hm hrd hev => ?_
  obtain ⟨ao,cap,f,hv,q1,q2,q3,_⟩:=lst_inv (hev _ _ hx).tr_inv
  obtain ⟨u,u1,u2,_⟩:=run_und hT e1 w
  obtain rfl:=D_slice u2
  exact ⟨_,hrun ρ w _ (by simp [Builtin.len_,u1,hv]; rfl),.tr (.v (len_good _ (by omega)))⟩
 ·rename_i hd len
  split at h
  case h_2=>exact h.elim
  rename_i e s1 s2 s3 s4 b e1 em
  refine LOk.pure _ _ h (by simpa using em) fun g w m' ρ hm hrd hev => ?_
  obtain ⟨l,g1,g2⟩:=hm.blk hd b (hrd (hd,b) (by simp))
  obtain ⟨u,u1,u2,_⟩:=run_und hT e1 w
  obtain rfl:=D_slice u2
  rcases (hev _ _ hx).sl_inv g1 with ⟨b',cap,rfl,hle,hv⟩ | ⟨rfl,rfl,hv⟩
  ·have hcap:cap≤9223372036854775807:=by
    cases b with
    | cells t l=>obtain ⟨_,_,e,_⟩:=g2; cases e
    | map kd es=>obtain ⟨_,_,_,e,_⟩:=g2; cases e
    | itr h0 n seen=>obtain ⟨_,_,e,_⟩:=g2; cases e
    | fns e' B h0 fs =>
     obtain ⟨_,⟨e,_⟩ | ⟨b2,cap2,cur,e,_,_,q,_⟩⟩:=g2
     ·cases e
     ·cases e; exact q
    | vec e' n B rows =>
     obtain ⟨_,_,⟨e,_⟩ | ⟨b2,cap2,cur,e,_,_,q,_⟩⟩:=g2
     ·cases e
     ·cases e; exact q
    | own n B rows ln =>
     obtain ⟨_,_,⟨e,_⟩ | ⟨b2,cap2,cur,_,_,e,_,_,q,_⟩⟩:=g2
     ·cases e
     ·cases e; exact q
   exact ⟨_,hrun ρ w _ (by simp [Builtin.len_,u1,hv]; rfl),.tr (.v (len_good _ (by omega)))⟩
  ·exact ⟨_,hrun ρ w _ (by simp [Builtin.len_,u1,hv]; rfl),.tr (.v (len_good _ (by omega)))⟩
 ·split at h
  case h_2=>exact h.elim
  rename_i n e s1 s2 s3 s4 e1
  cases hle:Nat.ble n 9223372036854775807 with
  | false=>rw [hle] at h; exact h.elim
  | true =>
   rw [hle] at h
   have hle:=Nat.le_of_ble_eq_true hle
   refine LOk.pure _ _ h (by simp) fun g w m' ρ hm hrd hev => ?_
   obtain ⟨u,u1,u2,_⟩:=run_und hT e1 w
   obtain rfl:=D_array u2
   have hr:=hev _ _ hx
   generalize hv:ρ x=v at hr
   cases hr with
   | agg h1 h2 h3=>exact ⟨_,hrun ρ w _ (by simp [Builtin.len_,u1,hv]; rfl),.tr (.v (len_good _ hle))⟩
 ·rename_i q a1 a2
  split at h
  case h_2=>exact h.elim
  rename_i e s1 s2 s3 s4 e1
  cases hc:(Nat.ble (2*HMod) q && Nat.ble (q - 2*HMod) 9223372036854775807) with
  | false=>rw [hc] at h; exact h.elim
  | true =>
   rw [hc,cond_true] at h
   rw [Bool.and_eq_true] at hc
   have hq:=Nat.le_of_ble_eq_true hc.1
   have hq2:=Nat.le_of_ble_eq_true hc.2
   refine LOk.pure _ _ h (by simp) fun g w m' ρ hm hrd hev => ?_
   obtain ⟨u,u1,u2,_⟩:=run_und hT e1 w
   obtain rfl:=D_slice u2
   have hr:=hev _ _ hx
   generalize hv:ρ x=v at hr
   cases hr with
   | ifc h1 _=>omega
   | bnd h1 _=>omega
   | psl h1 =>
    rename_i len b
    have el:2*HMod+len - 2*HMod=len:=by omega
    rw [el] at hq2 ⊢
    exact ⟨_,hrun ρ w _ (by simp [Builtin.len_,u1,hv]; rfl),.tr (.v (len_good _ hq2))⟩
 ·exact h.elim
end
end Go.Proofs.YtbflekglkkdipaaGreatDoor.am
