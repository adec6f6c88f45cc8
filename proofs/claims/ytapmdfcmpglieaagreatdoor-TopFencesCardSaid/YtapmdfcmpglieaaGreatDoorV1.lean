/- Short names of theorems of the library. What is known of package-level variables: the operators' signs, the table of trailing zeros. The abstract -/
import Derived.WalkKit
import Derived.Lib.LaidTab
import Derived.Lib.Hide
import Derived.Orders
import Derived.Laws.AppendOwn
import Derived.Great.BuildSlice
import Derived.Maps.AppendAt
import Derived.Deep.DeepAppendWide
set_option linter.all false
namespace Go.Proofs.YtapmdfcmpglieaaGreatDoor
abbrev ab:=@List.getElem?_eq_getElem
abbrev ad:=@List.length_map
abbrev a9:=@List.getElem?_eq_some_iff
abbrev i3:=@List.mem_of_getElem?
abbrev lh:=@cond_false
abbrev oo:=@Nat.le_of_ble_eq_true
abbrev r7:=@cond_true
abbrev t4:=@Bool.and_eq_true
abbrev t5:=@List.getD_eq_getElem?_getD
abbrev t9:=@Nat.le_refl
abbrev ud:=@of_decide_eq_false
abbrev uR:=@List.length_append
abbrev vx:=@Option.some.inj
abbrev vG:=@List.take_of_length_le
abbrev v9:=@List.getElem?_append_left
abbrev wS:=@List.getElem?_append_right
abbrev xx:=@Nat.eq_of_beq_eq_true
abbrev xB:=@List.mem_singleton
abbrev x5:=@Nat.zero_le
abbrev yB:=@List.getElem?_eq_none
abbrev z5:=@List.getElem?_map
abbrev z9:=@Option.map_eq_some_iff
abbrev Ba:=@List.getElem?_take
abbrev BQ:=@Array.length_toList
abbrev De:=@Go.Result.andThen_ok
abbrev DK:=@List.length_take
abbrev Eb:=@Nat.mul_le_mul_right
abbrev Ee:=@Nat.le_of_eq
abbrev E0:=@List.length_cons
abbrev E7:=@Nat.zero_add
abbrev E8:=@congrArg
abbrev E9:=@Go.Sem.run_bind
abbrev FK:=@List.mem_append
abbrev FP:=@List.map_append
abbrev F5:=@List.mem_cons
abbrev Gv:=@List.mem_iff_getElem?
abbrev Gw:=@if_pos
abbrev Gx:=@Array.getElem?_toList
abbrev Gy:=@List.mem_iff_getElem
abbrev Gz:=@decide_eq_false
abbrev GA:=@List.getElem?_drop
abbrev GB:=@Nat.le_trans
abbrev GC:=@decide_eq_true
abbrev GD:=@List.getElem?_set_self
abbrev GE:=@List.length_replicate
abbrev GF:=@List.eq_nil_of_length_eq_zero
abbrev GG:=@Nat.ne_of_beq_eq_false
abbrev GH:=@List.append_assoc
abbrev GI:=@Array.getElem?_eq_some_iff
abbrev GJ:=@List.contains_iff_mem
abbrev GK:=@List.drop_eq_nil_of_le
abbrev GM:=@List.mem_map
abbrev GN:=@if_neg
abbrev GO:=@List.map_cons
abbrev GP:=@Go.run_underlying
abbrev GQ:=@List.all_eq_true
abbrev GR:=@decide_eq_true_eq
abbrev GS:=@Bool.true_and
abbrev GT:=@List.ext_getElem?
abbrev GU:=@Bool.false_or
abbrev GV:=@Option.isSome_iff_exists
abbrev GW:=@List.getElem?_set_ne
abbrev GX:=@beq_eq_false_iff_ne
abbrev GY:=@Int.toNat_natCast
abbrev GZ:=@List.getElem?_range
abbrev G0:=@List.length_set
abbrev G1:=@List.getElem?_replicate
abbrev G2:=@List.mem_of_mem_take
abbrev G3:=@List.mem_range
abbrev G4:=@Nat.succ_mul
abbrev G5:=@Option.map_some
abbrev G6:=@Nat.ble_eq_true_of_le
abbrev G7:=@List.append_nil
abbrev G8:=@Bool.or_eq_false_iff
abbrev G9:=@Bool.false_and
abbrev Ha:=@Bool.not_eq_true'
abbrev Hb:=@Nat.lt_of_lt_of_le
abbrev Hc:=@Array.getElem?_extract
abbrev Hd:=@Int.le_refl
abbrev He:=@List.getElem?_toArray
abbrev Hf:=@Nat.min_eq_left
abbrev Hg:=@List.drop_of_length_le
abbrev Hh:=@Nat.lt_succ_self
abbrev Hi:=@List.take_length
abbrev Hj:=@Go.Sem.run_pure
abbrev Hk:=@List.range_succ
abbrev Hl:=@Nat.not_lt_zero
abbrev Hm:=@Nat.sub_self
abbrev Hn:=@Nat.add_assoc
abbrev Ho:=@List.filter_append
abbrev Hp:=@List.map_set
abbrev Hq:=@Go.heap_alloc_new
abbrev Hr:=@List.not_mem_nil
abbrev Hs:=@Option.getD_some
abbrev Ht:=@Nat.mod_eq_of_lt
abbrev Hu:=@List.length_drop
abbrev Hv:=@List.map_congr_left
abbrev Hw:=@List.flatten_cons
abbrev Hx:=@List.take_add_one
abbrev Hy:=@Nat.add_sub_cancel_left
abbrev Hz:=@Array.getElem?_append_left
abbrev HA:=@List.nil_append
abbrev HB:=@List.mem_filter
abbrev HC:=@Nat.beq_refl
abbrev HD:=@Nat.lt_or_ge
abbrev HE:=@Classical.byContradiction
abbrev HF:=@Int.natCast_nonneg
abbrev HG:=@Option.some.injEq
abbrev HH:=@beq_iff_eq
abbrev HJ:=@Bool.true_or
abbrev HK:=@Array.getElem?_push
abbrev HM:=@List.mem_or_eq_of_mem_set
abbrev HN:=@List.drop_eq_getElem_cons
abbrev HO:=@List.length_filter_le
abbrev HP:=@beq_self_eq_true
abbrev HQ:=@Nat.eq_zero_or_pos
abbrev HR:=@Nat.add_zero
abbrev HU:=@List.take_append_of_le_length
abbrev HV:=@List.size_toArray
abbrev HW:=@List.nodup_append
abbrev HX:=@List.filter_cons_of_pos
abbrev HY:=@List.filter_cons_of_neg
abbrev HZ:=@List.length_range
abbrev H0:=@List.filter_nil
abbrev H1:=@Go.wp_mono
abbrev H3:=@List.length_nil
abbrev H4:=@Nat.mul_le_mul_left
abbrev H5:=@List.length_reverse
abbrev H6:=@Array.getElem?_append_right
abbrev H7:=@List.map_take
abbrev H8:=@List.cons_append
abbrev H9:=@List.map_replicate
abbrev Ia:=@List.set_append_right
abbrev Ib:=@Bool.or_eq_true
abbrev Ic:=@Bool.eq_iff_iff
abbrev Id:=@Nat.add_mul
abbrev Ie:=@List.replicate_succ
abbrev If:=@Go.wp_region_list
abbrev Ig:=@Nat.lt_trans
abbrev Ih:=@List.filter_filter
abbrev Ii:=@List.filter_eq_nil_iff
abbrev Ij:=@Option.map_none
abbrev Ik:=@List.all_cons
abbrev Il:=@Prod.mk.injEq
abbrev Im:=@Bool.not_true
abbrev In:=@List.countP_le_length
abbrev Io:=@List.length_singleton
abbrev Ip:=@Array.size_append
abbrev Iq:=@List.any_eq_false
abbrev Ir:=@Nat.mod_le
abbrev Is:=@or_false
abbrev It:=@Bool.and_false
abbrev Iu:=@Array.mem_toList_iff
abbrev Iv:=@Bool.not_false
abbrev Iw:=@Go.setRow_other
abbrev Ix:=@List.any_eq_true
abbrev Iy:=@List.pairwise_iff_getElem
abbrev Iz:=@Array.getElem?_eq_getElem
abbrev IA:=@List.take_succ_cons
abbrev IB:=@List.flatten_append
abbrev IC:=@List.filter_eq_self
abbrev ID:=@List.reverse_append
abbrev IE:=@List.eq_of_mem_replicate
abbrev IF:=@List.idxOf_lt_length_iff
abbrev IG:=@List.any_cons
abbrev IH:=@Bool.and_true
abbrev II:=@List.nodup_cons
abbrev IJ:=@Bool.false_eq_true
abbrev IK:=@Bool.not_eq_false'
abbrev IM:=@List.contains_cons
abbrev IN:=@decide_eq_false_iff_not
abbrev Kg:=@List.map_nil
abbrev IP:=@Go.World.ownsRow_nil
abbrev IQ:=@Go.run_equalIn_bool'
abbrev IR:=@List.getElem?_set
abbrev IS:=@Nat.lt_trichotomy
abbrev IT:=@List.nodup_nil
abbrev IU:=@Bool.or_true
abbrev IV:=@List.foldl_append
abbrev IW:=@Array.getElem?_setIfInBounds_ne
abbrev IX:=@List.take_append_drop
abbrev IY:=@List.getElem?_reverse
abbrev IZ:=@List.sizeOf_lt_of_mem
abbrev I0:=@Array.eq_empty_of_size_eq_zero
abbrev I1:=@Option.bind_some
abbrev I2:=@List.eq_nil_iff_forall_not_mem
abbrev I3:=@List.mem_reverse
abbrev I4:=@List.getElem_inj
abbrev I5:=@Nat.succ_le_succ
abbrev I6:=@if_true
abbrev I7:=@Bool.or_false
abbrev I8:=@Array.toArray_toList
abbrev I9:=@if_false
abbrev Ja:=@Nat.div_lt_of_lt_mul
abbrev Jb:=@Go.RowKit.Below.refl
abbrev Jc:=@Go.run_equalIn_int
abbrev Jd:=@List.cons.injEq
abbrev Je:=@List.drop_set_of_lt
abbrev Jf:=@Nat.mul_comm
abbrev Jg:=@Array.getElem_setIfInBounds
abbrev Jh:=@List.map_map
abbrev Ji:=@Array.all_eq_true'
abbrev Jj:=@Go.run_equalIn_struct
abbrev Jk:=@List.getElem_idxOf
abbrev Jl:=@Option.map_map
abbrev Jm:=@List.drop_drop
abbrev Jn:=@List.nodup_iff_pairwise_ne
abbrev Jo:=@Array.mapM_eq_mapM_toList
abbrev Jp:=@Option.isNone_iff_eq_none
abbrev Jq:=@List.getElem?_eq_none_iff
abbrev Jr:=@Go.setRow_heap
abbrev Js:=@List.flatMap_cons
abbrev Jt:=@not_false_eq_true
abbrev Ju:=@Nat.le_succ_of_le
abbrev Jv:=@List.sum_cons
abbrev Jw:=@List.length_erase_of_mem
abbrev Jx:=@Bool.or_assoc
abbrev Jy:=@Int.eq_ofNat_of_zero_le
abbrev Jz:=@List.nodup_range
abbrev JA:=@List.drop_length
abbrev JB:=@Nat.zero_mul
abbrev JC:=@Go.Oper.upon_value
abbrev JD:=@Array.mem_of_getElem?
abbrev JE:=@Array.getElem?_modify
abbrev JF:=@List.singleton_append
abbrev JG:=@List.cons.sizeOf_spec
abbrev JH:=@List.mapM_cons
abbrev JI:=@List.mem_of_mem_drop
abbrev JJ:=@Nat.mul_one
abbrev JK:=@List.mem_cons_of_mem
abbrev JL:=@Array.size_map
abbrev JM:=@Array.toList_extract
abbrev JN:=@List.getLast?_concat
abbrev JO:=@Array.getElem_append
abbrev JP:=@List.pairwise_append
abbrev JT:=@List.countP_pos_iff
abbrev JU:=@List.take_set_of_le
abbrev JV:=@List.mem_map_of_mem
abbrev JW:=@Go.wp_region_any
abbrev J2:=@Nat.not_lt
abbrev J4:=@bne_iff_ne
abbrev Ka:=@and_true
abbrev Kb:=@Ne.symm
abbrev Kd:=@Nat.add_comm
abbrev Ke:=@Nat.le_of_lt
abbrev Kf:=@Nat.sub_zero
abbrev Km:=@Go.wp_seq
abbrev Kt:=@Nat.le_succ
abbrev KH:=@Or.comm
end Go.Proofs.YtapmdfcmpglieaaGreatDoor
namespace Go.Proofs.YtapmdfcmpglieaaGreatDoor
theorem JQ{p:Prop}(h:p:=by omega):p:=h
theorem JR{p:Prop}(h:p:=by kernel_rfl):p:=h
theorem JS{p:Prop}(h:p:=by decide):p:=h
theorem JX{p:Prop}(h:p:=by simp):p:=h
theorem JY{α β}{a:α}{b:β}:a=a/\b=b:=⟨rfl,rfl⟩
theorem JZ{α}{a:α}{p}:a=a\/p:=.inl rfl
abbrev J0:=True.intro
end Go.Proofs.YtapmdfcmpglieaaGreatDoor
namespace Go.Proofs.YtapmdfcmpglieaaGreatDoor.am
open Go
def Fg:List (List UInt8):=[[],[43],[45],[42],[47],[37],[38],[124],[94],[60,60],[62,62],[61,61],[33,61],[60],[60,61],[62],[62,61],[45],[33]]
def sgn(k:Nat):ByteArray:=⟨(Fg.getD k []).toArray⟩
def Fc:List Int:=[0,7,7,8,8,8,3,1,2,6,6,4,4,5,5,5,5,9,9]
def lvl(k:Nat):Int:=Fc.getD k 0
def Fl(o:Option Obj):Prop:=∃cs t fz,o=some (.cells cs t fz)/\∀k,k<19->cs[k*2]?=some (.string (sgn k))/\cs[k*2+1]?=some (.int .i64 (lvl k))
def tzL:List Int:=[0,1,28,2,29,14,24,3,30,22,20,15,25,17,4,8,31,27,13,23,21,19,16,7,26,12,18,6,11,5,10,9]
def tzQ(o:Option Obj):Prop:=∃cs t fz,o=some (.cells cs t fz)/\∀k,k<32->cs[k]?=some (.int .u8 (tzL.getD k 0))
def Ge(b:Nat)(Q:Option Obj->Prop):Prop:=(b=2/\Q=Fl)\/(b=0/\Q=tzQ)
abbrev HMod:Nat:=1048576
inductive D where
 |bool|int (k:IntKind)|string|ptr (e:Nat)|slice (e:Nat)|array (n e:Nat)|map (k e:Nat)|struct (fs:List (Nat×Nat))|func|iface|other
 deriving DecidableEq
def D.of:TypeDesc->D
 | .bool=>.bool|.int k=>.int k|.string=>.string|.pointer e=>.ptr e|.slice e=>.slice e|.array n e=>.array n e|.map k e=>.map k e
 | .struct fs=>.struct (fs.toList.map fun f=>(f.type,f.offset))|.func .. =>.func|.interface _=>.iface|_=>.other
def D.agg:D->Bool|.struct _|.array _ _=>true|_=>false
inductive Z where|b|i (k:IntKind)|s|p|sl|m|f|n
 deriving DecidableEq
def Z.val:Z->Value
 | .b=>.bool false|.i k=>.int k 0|.s=>.string ⟨#[]⟩|.p=>.pointer none|.sl=>.slice none 0 0|.m=>.map none|.f=>.nilFunc|.n=>.nilIface
def Z.of:Value->Option Z
 | .bool false=>some .b
 | .int k q=>if q=0 then some (.i k) else none
 | .string ⟨⟨[]⟩⟩=>some .s
 | .pointer none=>some .p
 | .slice none 0 0=>some .sl
 | .map none=>some .m
 | .nilFunc=>some .f
 | .nilIface=>some .n
 |_=>none
theorem Z.of_val{x:Value}{z:Z}(h:Z.of x=some z):x=z.val:=by
 unfold Z.of at h;split at h
 case h_2 k q=>
  by_cases hq:q=0;·rw[Gw hq] at h;cases h;rw[hq];rfl
  ·rw[GN hq] at h;cases h
 all_goals first|(cases h;rfl)|cases h
structure TyI where
 d:D
 size:Nat
 bytes:Nat
 zero:List Z
 eqok:Bool
 deriving DecidableEq
def Fx(P:Program)(t:TypeId)(u:TypeDesc):Bool:=match u with
 | .struct fs=>!P.stoodInHeld t && !P.eqGuardType P.depth t&&fs.all (fun f=>f.name != "_")
 |_=>false
def kD(z:Value)(d:D):Option (List Z):=
 if d.agg then match z with|.agg cs=>cs.toList.mapM Z.of|_=>none
 else match z with|.agg _=>none|x=>(Z.of x).map fun q=>[q]
def E1(P:Program)(t:TypeId):Option TyI:=
 match P.info? t,P.underlying t with
 |some i,some u=>
  match i.zero with
  |some z=>
   match kD z (D.of u) with
   |some zs=>if zs.length=i.size then some ⟨D.of u,i.size,i.bytes,zs,Fx P t u⟩ else none
   |none=>none
  |none=>none
 |_,_=>none
def lk{α:Type}:List (Nat×α)->Nat->Option α
 |[],_=>none
 |(k,x)::r,t=>bif Nat.beq k t then some x else lk r t
abbrev Ty:=List (Nat×TyI)
def TOk(P:Program)(T:Ty):Prop:=∀t i,lk T t=some i->E1 P t=some i/\i.bytes<=4096
theorem TOk.of_all{P:Program}{T:Ty}(h:T.all (fun p=>E1 P p.1==some p.2&&Nat.ble p.2.bytes 4096)=true):TOk P T:=by
 induction T with
 |nil=>intro t i h;cases h
 |cons p r ih=>
  obtain⟨k,x⟩:=p;simp only[Ik,t4] at h;intro t i hl;unfold lk at hl;cases hk:Nat.beq k t with
  |true=>
   rw[hk] at hl;simp only[r7,HG] at hl;subst hl;have:k=t:=xx hk;subst this;simpa using h.1
  |false=>rw[hk] at hl;exact ih h.2 t i hl
inductive Tr where
 |v (x:Value)
 |lst (n B:Nat) (rows:List (List Tr))
def oy:Value->Prop
 | .bool _=>True
 | .int k n=>k.min<=n/\n<=k.max
 | .string s=>s.size<=9223372036854775807
 | .slice a l c=>a=none/\l=0/\c=0
 | .pointer a=>a=none
 | .map r=>r=none
 | .nilFunc|.nilIface=>True
 | .func (.func _) a c=>a = #[]/\c = #[]
 | .func (.yield _) a c=>a = #[]/\c = #[]
 |_=>False
def goodB:Value->Bool
 | .bool _=>true
 | .int k n=>decide (k.min<=n)&&decide (n<=k.max)
 | .string s=>Nat.ble s.size 9223372036854775807
 | .slice none 0 0=>true
 | .pointer none=>true
 | .map none=>true
 | .nilFunc|.nilIface=>true
 | .func (.func _) ⟨[]⟩ ⟨[]⟩=>true
 | .func (.yield _) ⟨[]⟩ ⟨[]⟩=>true
 |_=>false
theorem good_of{x:Value}(h:goodB x=true):oy x:=by
 unfold goodB at h;split at h<;>first
  |trivial
  |(simp only[t4,GR] at h;exact h)
  |(exact oo h)
  |exact⟨rfl,rfl,rfl⟩
  |exact⟨rfl,rfl⟩
  |exact rfl
  |cases h
theorem qT{x:Value}(h:oy x):x.oneCell'=true:=by unfold oy at h;split at h<;>first|rfl|exact h.elim
theorem eE(z:Z):oy z.val:=by
 cases z with
 |i k=>exact(by cases k<;>exact⟨JS,JS⟩)
 |s=>exact(by decide:(0:Nat)<=9223372036854775807)
 |_=>first|trivial|exact⟨rfl,rfl,rfl⟩|exact rfl
inductive RepT(ok:Nat->Prop)(w:World):Value->Tr->Prop
 |v {x:Value}:oy x->RepT ok w x (.v x)
 | lst {ao:Option Addr} {len cap n B:Nat} {rows:List (List Tr)} (f:Nat->Nat->Value) :
   len=rows.length->len<=cap->cap<=9223372036854775807->len*B<=150000000000000->(ao=none->cap=0) ->
   (∀(i:Nat)(row:List Tr),rows[i]?=some row->row.length=n/\∃b o:Nat,ao=some ⟨b,o,none⟩/\ok b/\∀j,j<n->w.cell? ⟨b,o+i*n+j,none⟩=some (f i j)) ->
   (∀(i:Nat)(row:List Tr)(j:Nat)(t:Tr),rows[i]?=some row->row[j]?=some t->RepT ok w (f i j) t) ->
   RepT ok w (.slice ao len cap) (.lst n B rows)
theorem RepT.one{ok:Nat->Prop}{w:World}{x:Value}{t:Tr}(h:RepT ok w x t):x.oneCell'=true:=by
 cases h with
 |v h=>exact qT h
 |lst=>rfl
theorem jS{w w':World}{b o:Nat}(h:w'.heap[b]?=w.heap[b]?):w'.cell? ⟨b,o,none⟩=w.cell? ⟨b,o,none⟩:=World.cell?_of_block (w:=w) h
theorem RepT.mono{ok ok':Nat->Prop}{w w':World}{x:Value}{t:Tr}(h:RepT ok w x t)(hk:∀b,ok b->ok' b/\w'.heap[b]?=w.heap[b]?):RepT ok' w' x t:=by
 induction h with
 |v h=>exact .v h
 |lst f h1 h2 h3 h4 h5 h6 _ ih=>
  refine .lst f h1 h2 h3 h4 h5 (fun i row hr=>?_) ih;obtain⟨e1,b,o,e2,e3,e4⟩:=h6 i row hr;exact⟨e1,b,o,e2,(hk b e3).1,fun j hj=>by rw[jS (hk b e3).2];exact e4 j hj⟩
theorem RepT.nil{ok:Nat->Prop}{w:World}{x:Value}(n B:Nat)(h:RepT ok w x (.v (.slice none 0 0))):RepT ok w x (.lst n B []):=by cases h;exact .lst (fun _ _=>default) rfl (t9 _) JQ JQ (fun _=>rfl) (fun i row h=>by simp at h) (fun i row j t h=>by simp at h)
inductive AV where
 |und
 |tr (t:Tr)
 |agg (l:List AV)
 |tup (l:List AV)
 |ptr (h off:Nat)
 |vpt (h n i off:Nat)
 |sl (h len:Nat)
 |ept (cs:List Tr)
 |fn (f:Nat) (caps:List AV)
 |ifc (t:Nat) (a:AV)
 |mp (h:Nat)
 |ful (n B:Nat) (rows:List (List Tr))
def AV.one:AV->Bool
 | .und|.agg _|.tup _=>false
 |_=>true
inductive MK where
 |ks (a:ByteArray)|ki (k:IntKind) (n:Int)|kb (x:Bool)
 |kib (n:Int) (b:Bool)|kbi (b:Bool) (n:Int)
def MK.val:MK->Value|.ks a=>.string a|.ki k n=>.int k n|.kb x=>.bool x|.kib n b=>.agg #[.int .i64 n,.bool b]|.kbi b n=>.agg #[.bool b,.int .i64 n]
def MK.same:MK->MK->Bool
 | .ks a,.ks c=>a.toList==c.toList
 | .ki _ a,.ki _ c=>a==c
 | .kb a,.kb c=>a==c
 | .kib n b,.kib n' b'=>n==n'&&b==b'
 | .kbi b n,.kbi b' n'=>b==b'&&n==n'
 |_,_=>false
def MK.fits:D->MK->Bool
 | .string,.ks _=>true
 | .int k,.ki k' _=>decide (k=k')
 | .bool,.kb _=>true
 | .struct [(0,0)],.kib _ _=>true
 | .struct [(1,0)],.kbi _ _=>true
 |_,_=>false
def MK.of:Value->Option MK|.string a=>some (.ks a)|.int k n=>some (.ki k n)|.bool x=>some (.kb x)|_=>none
def ew{α:Type}:List (MK×α)->MK->Option α
 |[],_=>none
 |(k,v)::r,q=>bif MK.same q k then some v else ew r q
def mput{α:Type}:List (MK×α)->MK->α->List (MK×α)
 |[],q,x=>[(q,x)]
 |(k,v)::r,q,x=>bif MK.same q k then(q,x)::r else(k,v)::mput r q x
inductive Blk where
 |cells (t:Nat) (l:List AV)
 |vec (e n B:Nat) (rows:List (List Tr))
 |map (kd:D) (es:List (MK×Tr))
 |mpa (kd:D) (es:List (MK×AV))
 |own (n B:Nat) (rows:List (List Tr)) (ln:List ((Nat×Nat)×(Nat×Nat)))
 |itr (h n:Nat) (seen:List Nat)
 |fns (e B h:Nat) (l:List (Nat×List Tr))
def lnk:List ((Nat×Nat)×(Nat×Nat))->Nat->Nat->Option (Nat×Nat)
 |[],_,_=>none
 |((i',j'),x)::r,i,j=>bif Nat.beq j' j&&Nat.beq i' i then some x else lnk r i j
inductive Loc where
 |blk (b:Nat)|row (b cap:Nat)|nil
def Loc.b:Loc->Option Nat
 | .blk b|.row b _=>some b
 | .nil=>none
inductive HS where
 |un|dead|live (l:Loc)
structure Gh where
 f:Nat->HS
 X:Nat->Prop
 D:List Deferred
 F:Nat->Nat->Prop
instance:CoeFun Gh (fun _=>Nat->HS):=⟨Gh.f⟩
def cd(g:Gh)(h b:Nat):Prop:=∃l,g h=.live l/\(l.b=some b\/g.F h b)
theorem cd.root{g:Gh}{h b:Nat}{l:Loc}(h1:g h=.live l)(h2:l.b=some b):cd g h b:=⟨l,h1,.inl h2⟩
def okB(g:Gh)(w:World)(b:Nat):Prop:=b<w.heap.size/\¬ g.X b/\∀h,¬ cd g h b
def GL(g:Gh)(w:World):Prop:=∀b Q,Ge b Q->(b<w.heap.size/\∀h,¬ cd g h b)/\Q w.heap[b]?
inductive Rep(g:Gh)(w:World):Value->AV->Prop
 |und:Rep g w undef .und
 |tr {x:Value} {t:Tr}:RepT (okB g w) w x t->Rep g w x (.tr t)
 |agg {cs:Array Value} {l:List AV}:cs.size=l.length->(∀a∈l,a.one=true)->(∀(i:Nat)(c:Value)(a:AV),cs[i]?=some c->l[i]?=some a->Rep g w c a)->Rep g w (.agg cs) (.agg l)
 |tup {cs:Array Value} {l:List AV}:cs.size=l.length->(∀(i:Nat)(c:Value)(a:AV),cs[i]?=some c->l[i]?=some a->Rep g w c a)->Rep g w (.tuple cs) (.tup l)
 |ptrD {x:Value} {h off:Nat}:g h=.dead->x.oneCell'=true->Rep g w x (.ptr h off)
 |ptr {h off b:Nat}:g h=.live (.blk b)->Rep g w (.pointer (some ⟨b,off,none⟩)) (.ptr h off)
 |vptD {x:Value} {h n i off:Nat}:g h=.dead->x.oneCell'=true->Rep g w x (.vpt h n i off)
 |vpt {h n i off b cap:Nat}:g h=.live (.row b cap)->Rep g w (.pointer (some ⟨b,i*n+off,none⟩)) (.vpt h n i off)
 |slD {x:Value} {h len:Nat}:g h=.dead->x.oneCell'=true->Rep g w x (.sl h len)
 |sl {h len b cap:Nat}:g h=.live (.row b cap)->len<=cap->Rep g w (.slice (some ⟨b,0,none⟩) len cap) (.sl h len)
 |slN {h:Nat}:g h=.live .nil->Rep g w (.slice none 0 0) (.sl h 0)
 | ept {b o:Nat} {cs:List Tr} (f:Nat->Value):okB g w b->(∀ j,j<cs.length->w.cell? ⟨b,o+j,none⟩=some (f j))->(∀ j t,cs[j]? = some t->RepT (okB g w) w (f j) t) ->
   Rep g w (.pointer (some ⟨b,o,none⟩)) (.ept cs)
 |fn {f:Nat} {cs:Array Value} {l:List AV}:cs.size=l.length->(∀(i:Nat)(c:Value)(a:AV),cs[i]?=some c->l[i]?=some a->Rep g w c a)->Rep g w (.func (.func f) #[] cs) (.fn f l)
 |ifc {t:Nat} {x:Value} {a:AV}:t<HMod->Rep g w x a->Rep g w (.iface t x) (.ifc t a)
 |bnd {f:Nat} {x:Value} {a:AV}:f<HMod->Rep g w x a->Rep g w (.func (.func f) #[x] #[]) (.ifc (HMod+f) a)
 |psl {len b:Nat} {a:AV}:Rep g w (.pointer (some ⟨b,0,none⟩)) a->Rep g w (.slice (some ⟨b,0,none⟩) len len) (.ifc (2*HMod+len) a)
 |frz {b o:Nat} {v:Value} {a:AV}:okB g w b->w.cell? ⟨b,o,none⟩=some v->Rep g w v a->Rep g w (.pointer (some ⟨b,o,none⟩)) (.ifc (4*HMod) (.fn 0 [a]))
 |win {len cap b o h n i:Nat}:Rep g w (.pointer (some ⟨b,o,none⟩)) (.vpt h n i 0)->len<=cap->cap<=9223372036854775807->Rep g w (.slice (some ⟨b,o,none⟩) len cap) (.ifc (3*HMod) (.vpt h n i len))
 |mpD {x:Value} {h:Nat}:g h=.dead->x.oneCell'=true->Rep g w x (.mp h)
 |mp {h b:Nat}:g h=.live (.blk b)->Rep g w (.map (some b)) (.mp h)
 |ful {x:Value} {n B:Nat} {rows:List (List Tr)}:RepT (okB g w) w x (.lst n B rows)->(∃ao l,x=.slice ao l l)->Rep g w x (.ful n B rows)
theorem Rep.one{g:Gh}{w:World}{x:Value}{a:AV}(h:Rep g w x a)(h1:a.one=true):x.oneCell'=true:=by
 cases h with
 |tr h=>exact h.one
 |ful h=>exact h.one
 |_=>first|rfl|assumption|cases h1
inductive fw(w:World):(Nat->Prop)->Value->Tr->Prop
 |v {F:Nat->Prop} {x:Value}:oy x->fw w F x (.v x)
 |nil {F:Nat->Prop} {n B:Nat}:fw w F (.slice none 0 0) (.lst n B [])
 | lst {F:Nat->Prop} {b cap n B e:Nat} {rows:List (List Tr)} {cur:Array Value} (Fs:Nat->Nat->Nat->Prop) :
   rows.length*B<=150000000000000->0<n->w.heap[b]?=some (.cells cur e (0,0))->rows.length<=cap->cap<=9223372036854775807->cur.size=cap*n->(∀row∈rows,row.length=n) ->
   F b->(∀i j c,Fs i j c->F c/\c≠b)->(∀i j i' j' c,Fs i j c->Fs i' j' c->i=i'/\j=j') ->
   (∀(i j:Nat)(row:List Tr)(t:Tr)(c:Value),rows[i]?=some row->row[j]?=some t->cur[i*n+j]?=some c->fw w (Fs i j) c t) ->
   fw w F (.slice (some ⟨b,0,none⟩) rows.length cap) (.lst n B rows)
theorem fw.mono{w:World}{F F':Nat->Prop}{x:Value}{t:Tr}(h:fw w F x t)(hF:∀b,F b->F' b):fw w F' x t:=by
 cases h with
 |v h=>exact .v h
 |nil=>exact .nil
 |lst Fs h1 h2 h3 h4 h5 h6 h7 h8 h9 h10 h11=>exact .lst Fs h1 h2 h3 h4 h5 h6 h7 (hF _ h8) (fun i j c h=>⟨hF c (h9 i j c h).1,(h9 i j c h).2⟩) h10 h11
theorem fw.world{w w':World}{F:Nat->Prop}{x:Value}{t:Tr}(h:fw w F x t):(∀b,F b->w'.heap[b]?=w.heap[b]?)->fw w' F x t:=by
 induction h with
 |v h=>intro _;exact .v h
 |nil=>intro _;exact .nil
 |lst Fs h1 h2 h3 h4 h5 h6 h7 h8 h9 h10 _ ih=>intro hw;exact .lst Fs h1 h2 ((hw _ h8).trans h3) h4 h5 h6 h7 h8 h9 h10 fun i j row t c q1 q2 q3=>ih i j row t c q1 q2 q3 fun b hb=>hw b (h9 i j b hb).1
theorem fw.one{w:World}{F:Nat->Prop}{x:Value}{t:Tr}(h:fw w F x t):x.oneCell'=true:=by
 cases h with
 |v h=>exact qT h
 |nil=>rfl
 |lst=>rfl
def ca(g:Gh)(w:World)(cs:Array Value)(l:List AV):Prop:=
 cs.size=l.length/\(∀a∈l,a.one=true)/\∀(i:Nat)(c:Value)(a:AV),cs[i]?=some c->l[i]?=some a->Rep g w c a
def fnAV(h:Nat)(p:Nat×List Tr):AV:=.fn p.1 [.ifc (4*HMod) (.fn 0 [.ptr h 0]),.ept p.2]
def fE(g:Gh)(w:World)(l:Loc)(F:Nat->Prop):Blk->Prop
 | .cells t as=>∃b cs,l=.blk b/\w.heap[b]?=some (.cells cs t (0,0))/\ca g w cs as
 | .vec e n B rows=>rows.length*B<=150000000000000/\0<n/\((l = .nil/\rows=[]) ∨ ∃ b cap cur,l = .row b cap/\w.heap[b]? = some (.cells cur e (0,0))/\rows.length<=cap/\cap<=9223372036854775807/\cur.size=cap*n /\
   (∀row∈rows,row.length=n)/\∀(i:Nat)(t:Tr),rows.flatten[i]?=some t->∃c,cur[i]?=some c/\RepT (okB g w) w c t)
 | .map kd es => ∃ b ents clock,l = .blk b/\w.heap[b]? = some (.map ents clock)/\(ents.size=es.length/\clock=ents.size /\ ∀ (i:Nat) (en:MapEntry),ents[i]? = some en->en.born=i)/\(∀ p ∈ es,p.1.fits kd=true) /\
   ∀(i:Nat)(k:MK)(t:Tr),es[i]?=some (k,t)->∃en,ents[i]?=some en/\en.key=k.val/\RepT (okB g w) w en.val t
 | .mpa kd es => ∃ b ents clock,l = .blk b/\w.heap[b]? = some (.map ents clock)/\(ents.size=es.length/\clock=ents.size /\ ∀ (i:Nat) (en:MapEntry),ents[i]? = some en->en.born=i)/\(∀ p ∈ es,p.1.fits kd=true) /\
   ∀(i:Nat)(k:MK)(a:AV),es[i]?=some (k,a)->∃en,ents[i]?=some en/\en.key=k.val/\Rep g w en.val a
 | .own n B rows ln=>rows.length*B<=150000000000000/\0<n/\((l = .nil/\rows=[]) ∨ ∃ b cap cur e,∃ Fs:Nat->Nat->Nat->Prop,l = .row b cap/\w.heap[b]? = some (.cells cur e (0,0))/\rows.length<=cap/\cap<=9223372036854775807/\cur.size=cap*n /\
   (∀row∈rows,row.length=n)/\(∀i j c,Fs i j c->F c/\c≠b)/\(∀i j i' j' c,Fs i j c->Fs i' j' c->i=i'/\j=j') /\
   ∀(i j:Nat)(row:List Tr)(t:Tr)(c:Value),rows[i]?=some row->row[j]?=some t->cur[i*n+j]?=some c->(lnk ln i j=none->fw w (Fs i j) c t)/\∀h len,lnk ln i j=some (h,len)->Rep g w c (.sl h len))
 | .fns e B h fs=>fs.length*B<=150000000000000/\((l = .nil/\fs=[]) ∨ ∃ b cap cur,l = .row b cap/\w.heap[b]? = some (.cells cur e (0,0))/\fs.length<=cap/\cap<=9223372036854775807/\cur.size=cap /\
   ∀(i:Nat)(p:Nat×List Tr),fs[i]?=some p->∃c,cur[i]?=some c/\Rep g w c (fnAV h p))
 | .itr h n seen=>∃r b,l=.blk r/\w.heap[r]?=some (.mapIter (some b) n seen.toArray n)/\Rep g w (.map (some b)) (.mp h)
abbrev Mem:=Nat->Option Blk
structure MSt(g:Gh)(w:World)(m:Mem):Prop where
 blk:∀h b,m h=some b->∃l,g h=.live l/\fE g w l (g.F h) b
 inj:∀h h' b,cd g h b->cd g h' b->h=h'
 lt:∀h b,cd g h b->b<w.heap.size
 xlt:∀b,g.X b->b<w.heap.size
 xl:∀h b,cd g h b->¬ g.X b
 gl:GL g w
structure Grow(g:Gh)(w:World)(g':Gh)(w':World):Prop where
 os:w'.os=w.os
 tape:w'.tape=w.tape
 output:w'.output=w.output
 size:w.heap.size<=w'.heap.size
 block:∀b,okB g w b->w'.heap[b]?=w.heap[b]?
 xb:∀b,g.X b->w'.heap[b]?=w.heap[b]?
 X:g'.X=g.X
 un:∀h,g h≠.un->g' h≠.un
 live:∀h l,g' h=.live l->g h=.live l\/g h=.un
 new:∀h b,cd g' h b->(∃h2,cd g h2 b)\/w.heap.size<=b
theorem GL.grow{g g':Gh}{w w':World}(h:GL g w)(hg:Grow g w g' w'):GL g' w':=fun b Q hq=>by
 obtain⟨⟨h1,h2⟩,h3⟩:=h b Q hq;have e:w'.heap[b]?=w.heap[b]? :=by
  by_cases hx:g.X b;·exact hg.xb b hx
  ·exact hg.block b ⟨h1,hx,h2⟩
 refine⟨⟨Hb h1 hg.size,fun k ho=>?_⟩,by rw[e];exact h3⟩;rcases hg.new k b ho with⟨k2,e2⟩|e2
 ·exact h2 k2 e2
 ·omega
theorem Grow.refl(g:Gh)(w:World):Grow g w g w:=⟨rfl,rfl,rfl,t9 _,fun _ _=>rfl,fun _ _=>rfl,rfl,fun _ h=>h,fun _ _ h=>.inl h,fun h b e=>.inl ⟨h,e⟩⟩
theorem Grow.ok{g g':Gh}{w w':World}(h:Grow g w g' w'){b:Nat}(hb:okB g w b):okB g' w' b/\w'.heap[b]?=w.heap[b]? :=by
 refine⟨⟨Hb hb.1 h.size,by rw[h.X];exact hb.2.1,fun k e1=>?_⟩,h.block b hb⟩;rcases h.new k b e1 with⟨k2,e3⟩|e
 ·exact hb.2.2 k2 e3
 ·have:=hb.1;omega
theorem Grow.trans{g g' g'':Gh}{w w' w'':World}(h:Grow g w g' w')(k:Grow g' w' g'' w''):Grow g w g'' w'':=by
 refine⟨k.os.trans h.os,k.tape.trans h.tape,k.output.trans h.output,GB h.size k.size,fun b hb=>?_,fun b hb=>(k.xb b (by rw[h.X];exact hb)).trans (h.xb b hb),k.X.trans h.X,fun x hx=>k.un x (h.un x hx),fun x l hx=>?_,fun x b e1=>?_⟩;·exact(k.block b (h.ok hb).1).trans (h.block b hb)
 ·rcases k.live x l hx with e|e
  ·exact h.live x l e
  ·refine .inr ?_;cases hg:g x with
   |un=>rfl
   |dead=>exact absurd e (h.un x (by rw[hg];simp))
   |live l=>exact absurd e (h.un x (by rw[hg];simp))
 ·rcases k.new x b e1 with⟨h2,e3⟩|e
  ·exact h.new h2 b e3
  ·exact .inr (GB h.size e)
theorem RepT.grow{g g':Gh}{w w':World}(h:Grow g w g' w'){x:Value}{t:Tr}(hr:RepT (okB g w) w x t):RepT (okB g' w') w' x t:=hr.mono fun _ hb=>h.ok hb
theorem Grow.dead{g g':Gh}{w w':World}(h:Grow g w g' w'){k:Nat}(hk:g k=.dead):g' k=.dead:=by
 cases hg:g' k with
 |un=>exact absurd hg (h.un k (by rw[hk];simp))
 |dead=>rfl
 |live l=>rcases h.live k l hg with e|e<;>rw[hk] at e<;>cases e
theorem Grow.was{g g':Gh}{w w':World}(h:Grow g w g' w'){k:Nat}{l:Loc}(hk:g k=.live l):g' k=.dead\/g' k=.live l:=by
 cases hg:g' k with
 |un=>exact absurd hg (h.un k (by rw[hk];simp))
 |dead=>exact .inl rfl
 |live l'=>rcases h.live k l' hg with e|e<;>rw[hk] at e<;>cases e;exact .inr rfl
theorem Rep.grow{g g':Gh}{w w':World}(h:Grow g w g' w'){x:Value}{a:AV}(hr:Rep g w x a):Rep g' w' x a:=by
 induction hr with
 |und=>exact .und
 |tr hr=>exact .tr (hr.grow h)
 |agg h1 h2 _ ih=>exact .agg h1 h2 ih
 |tup h1 _ ih=>exact .tup h1 ih
 |ptrD h1 h2=>exact .ptrD (h.dead h1) h2
 |ptr h1=>exact(h.was h1).elim (fun e=>.ptrD e rfl) (fun e=>.ptr e)
 |vptD h1 h2=>exact .vptD (h.dead h1) h2
 |vpt h1=>exact(h.was h1).elim (fun e=>.vptD e rfl) (fun e=>.vpt e)
 |slD h1 h2=>exact .slD (h.dead h1) h2
 |sl h1 h2=>exact(h.was h1).elim (fun e=>.slD e rfl) (fun e=>.sl e h2)
 |slN h1=>exact(h.was h1).elim (fun e=>.slD e rfl) (fun e=>.slN e)
 |ept f h1 h2 h3=>exact .ept f (h.ok h1).1 (fun j hj=>by rw[jS (h.ok h1).2];exact h2 j hj) (fun j t hj=>(h3 j t hj).grow h)
 |fn h1 _ ih=>exact .fn h1 ih
 |ifc ht _ ih=>exact .ifc ht ih
 |bnd hf _ ih=>exact .bnd hf ih
 |psl _ ih=>exact .psl ih
 |frz h1 h2 _ ih=>exact .frz (h.ok h1).1 (by rw[jS (h.ok h1).2];exact h2) ih
 |win _ h2 h3 ih=>exact .win ih h2 h3
 |mpD h1 h2=>exact .mpD (h.dead h1) h2
 |mp h1=>exact(h.was h1).elim (fun e=>.mpD e rfl) (fun e=>.mp e)
 |ful h1 h2=>exact .ful (h1.grow h) h2
theorem ca.grow{g g':Gh}{w w':World}(h:Grow g w g' w'){cs:Array Value}{l:List AV}(hc:ca g w cs l):ca g' w' cs l:=
 ⟨hc.1,hc.2.1,fun i c a h1 h2=>(hc.2.2 i c a h1 h2).grow h⟩
theorem fE.grow{g g':Gh}{w w':World}(h:Grow g w g' w'){l:Loc}{F:Nat->Prop}{b:Blk}(hb:fE g w l F b)(hs:∀k,l.b=some k\/F k->w'.heap[k]?=w.heap[k]?):fE g' w' l F b:=by
 cases b with
 |cells t as=>
  obtain⟨k,cs,rfl,e,hc⟩:=hb;exact⟨k,cs,rfl,(hs k JZ).trans e,hc.grow h⟩
 |vec e n B rows=>
  obtain⟨hB,hn,hv⟩:=hb;refine⟨hB,hn,?_⟩;rcases hv with hv|⟨k,cap,cur,rfl,e1,e2,e3,e4,e5,e6⟩
  ·exact .inl hv
  ·exact .inr ⟨k,cap,cur,rfl,(hs k JZ).trans e1,e2,e3,e4,e5,fun i t hi=>by obtain⟨c,c1,c2⟩:=e6 i t hi;exact⟨c,c1,c2.grow h⟩⟩
 |map kd es=>
  obtain⟨k,ents,clock,rfl,e1,e2,e3,e4⟩:=hb;exact⟨k,ents,clock,rfl,(hs k JZ).trans e1,e2,e3,fun i q t hi=>by obtain⟨en,c1,c2,c3⟩:=e4 i q t hi;exact⟨en,c1,c2,c3.grow h⟩⟩
 |mpa kd es=>
  obtain⟨k,ents,clock,rfl,e1,e2,e3,e4⟩:=hb;exact⟨k,ents,clock,rfl,(hs k JZ).trans e1,e2,e3,fun i q t hi=>by obtain⟨en,c1,c2,c3⟩:=e4 i q t hi;exact⟨en,c1,c2,c3.grow h⟩⟩
 |itr h0 n seen=>
  obtain⟨r,b,rfl,e1,e2⟩:=hb;exact⟨r,b,rfl,(hs r JZ).trans e1,e2.grow h⟩
 |fns e B h0 fs=>
  obtain⟨hB,hv⟩:=hb;refine⟨hB,?_⟩;rcases hv with hv|⟨k,cap,cur,rfl,e1,e2,e3,e4,e5⟩
  ·exact .inl hv
  ·exact .inr ⟨k,cap,cur,rfl,(hs k JZ).trans e1,e2,e3,e4,fun i p hi=>by obtain⟨c,c1,c2⟩:=e5 i p hi;exact⟨c,c1,c2.grow h⟩⟩
 |own n B rows ln=>
  obtain⟨hB,hn,hv⟩:=hb;refine⟨hB,hn,?_⟩;rcases hv with hv|⟨k,cap,cur,e,Fs,rfl,e1,e2,e3,e4,e5,e6,e7,e8⟩
  ·exact .inl hv
  ·exact .inr ⟨k,cap,cur,e,Fs,rfl,(hs k JZ).trans e1,e2,e3,e4,e5,e6,e7,fun i j row t c q1 q2 q3=>⟨fun q=>((e8 i j row t c q1 q2 q3).1 q).world fun b hb=>hs b (.inr (e6 i j b hb).1),fun h' len q=>((e8 i j row t c q1 q2 q3).2 h' len q).grow h⟩⟩
abbrev KK:=AV->List (Nat×Blk)->List (Nat×Option Blk)->Prop
def bL(m:Mem)(up:List (Nat×Option Blk)):Mem:=fun h=>match lk up h with|some x=>x|none=>m h
def AV.cells:AV->Option (List AV)
 | .agg l=>some l
 | .und|.tup _=>none
 |a=>some [a]
def trs:List AV->Option (List Tr)
 |[]=>some []
 | .tr t::r=>match trs r with|some l=>some (t::l)|none=>none
 |_::_=>none
def AV.trCells(a:AV):Option (List Tr):=match a.cells with|some l=>trs l|none=>none
def gJ(zs:List Z):List AV:=zs.map fun z=>.tr (.v z.val)
def ztrs(zs:List Z):List Tr:=zs.map fun z=>.v z.val
def hasSl:List Z->Bool
 |[]=>false
 | .sl::_=>true
 |_::r=>hasSl r
def ER(T:Ty):D->Bool
 | .struct fs=>fs.any fun p=>match lk T p.1 with|some i=>(match i.d with|.array _ _=>true|_=>false)|none=>false
 |_=>false
def rowTy(T:Ty)(i:TyI):Bool:=hasSl i.zero&&Nat.ble 1 i.size&&ER T i.d
def sw(ln:List ((Nat×Nat)×(Nat×Nat)))(i:Nat):Nat->List Tr->List AV
 |_,[]=>[]
 |j,t::r=>(match lnk ln i j with|some (h,len)=>.sl h len|none=>.tr t)::sw ln i (j+1) r
def D.isIface:D->Bool|.iface=>true|_=>false
def dOf(T:Ty)(t:Nat):Option D:=match lk T t with|some i=>some i.d|none=>none
def vR(T:Ty)(m:Mem)(ty:Nat)(K:KK):AV->Prop
 | .ptr h off=>match lk T ty,m h with
  | some i,some (.cells t l)=>bif i.d.agg then (bif Nat.ble (off+i.size) l.length then K (.agg ((l.drop off).take i.size)) [(h,.cells t l)] [] else False)
    else match l[off]? with|some a=>K a [(h,.cells t l)] []|none=>False
  |_,_=>False
 | .vpt h n i off=>match lk T ty,m h with
  | some ti,some (.vec e n' B rows)=>n=n'/\i<rows.length /\ ∀ row,rows[i]? = some row ->
    (bif ti.d.agg then off+ti.size<=row.length/\K (.agg (((row.drop off).take ti.size).map .tr)) [(h,.vec e n' B rows)] []
    else off<row.length/\∀t,row[off]?=some t->K (.tr t) [(h,.vec e n' B rows)] [])
  |_,_=>False
 | .ept cs=>match lk T ty with
  | some i=>bif i.d.agg then (bif Nat.ble i.size cs.length then K (.agg ((cs.take i.size).map .tr)) [] [] else False)
    else match cs with|t::_=>K (.tr t) [] []|[]=>False
  |none=>False
 |_=>False
def qH(T:Ty)(m:Mem)(ty:Nat)(a:AV)(K:KK):AV->Prop
 | .ptr h off=>match lk T ty,m h,a.cells with
  | some i,some (.cells t l),some cs=>bif Nat.beq cs.length i.size && cs.all AV.one && Nat.ble (off+cs.length) l.length then
    K .und [(h,.cells t l)] [(h,some (.cells t (l.take off++cs++l.drop (off+cs.length))))] else False
  |_,_,_=>False
 | .vpt h n i off=>match lk T ty,m h,a.trCells with
  | some ti,some (.vec e n' B rows),some cs=>n=n'/\cs.length=ti.size/\i<rows.length /\ ∀ row,rows[i]? = some row->off+cs.length<=row.length /\
    K .und [(h,.vec e n' B rows)] [(h,some (.vec e n' B (rows.set i (row.take off++cs++row.drop (off+cs.length)))))]
  |_,_,_=>False
 |_=>False
def Dy:AV->Option (Tr×Option (Nat×Nat))
 | .tr (.v x)=>some (.v x,none)
 | .sl h len=>some (.v (.slice none 0 0),some (h,len))
 |_=>none
def k9(i:Nat):Nat->List AV->Option (List Tr×List ((Nat×Nat)×(Nat×Nat)))
 |_,[]=>some ([],[])
 |j,a::r=>match Dy a,k9 i (j+1) r with
  |some (t,l),some (ts,ls)=>some (t::ts,match l with|some x=>((i,j),x)::ls|none=>ls)
  |_,_=>none
def sG(off k:Nat):List ((Nat×Nat)×(Nat×Nat))->List ((Nat×Nat)×(Nat×Nat))
 |[]=>[]
 |p::r=>bif Nat.ble off p.1.2&&Nat.blt p.1.2 (off+k) then sG off k r else p::sG off k r
def Fm(i off k:Nat):List ((Nat×Nat)×(Nat×Nat))->Prop
 |[]=>True
 |p::r=>((Nat.ble off p.1.2&&Nat.blt p.1.2 (off+k))=true->p.1.1=i)/\Fm i off k r
def Cy(i off k:Nat):List ((Nat×Nat)×(Nat×Nat))->Prop
 |[]=>True
 |p::r=>((Nat.ble off p.1.2&&Nat.blt p.1.2 (off+k))=true->p.1.1≠i)/\Cy i off k r
def pU(T:Ty)(m:Mem)(ty:Nat)(b:AV)(K:KK):AV->Prop
 | .vpt h n i off=>match m h with
  |some (.own n' B rows ln)=>match lk T ty,b.cells with
   |some ti,some as=>match k9 i off as with
    |some (ts,ls)=>match ln with
     |[]=>n=n'/\as.all AV.one=true/\as.length=ti.size/\i<rows.length/\True/\∀row,rows[i]?=some row->off+as.length<=row.length /\
      K .und [(h,.own n' B rows [])] [(h,some (.own n' B (rows.set i (row.take off++ts++row.drop (off+ts.length))) (ls++[])))]
     |p::r=>(n=n'/\as.all AV.one=true/\as.length=ti.size/\i<rows.length/\Fm i off as.length (p::r)/\∀row,rows[i]?=some row->off+as.length<=row.length /\
      K .und [(h,.own n' B rows (p::r))] [(h,some (.own n' B (rows.set i (row.take off++ts++row.drop (off+ts.length))) (ls++sG off as.length (p::r))))]) \/
      (n=n'/\as.all AV.one=true/\as.length=ti.size/\i<rows.length/\Cy i off as.length (p::r)/\∀row,rows[i]?=some row->off+as.length<=row.length /\
      K .und [(h,.own n' B rows (p::r))] [(h,some (.own n' B (rows.set i (row.take off++ts++row.drop (off+ts.length))) (ls++(p::r))))])
    |none=>False
   |_,_=>False
  |_=>qH T m ty b K (.vpt h n i off)
 |a=>qH T m ty b K a
def qV(T:Ty)(m:Mem)(nh ty:Nat)(K:KK):AV->Prop
 | .vpt h n i off=>match m h with
  |some (.own n' B rows ln)=>match lk T ty with
   |some ti=>bif ti.d.agg then(bif hasSl ti.zero then n=n'/\i<rows.length/\∀row,rows[i]?=some row->off+ti.size<=row.length /\
       (((∀j t,off<=j->j<off+ti.size->row[j]?=some t->lnk ln i j=none->∃x,t=.v x)/\K (.agg (sw ln i off ((row.drop off).take ti.size))) [(h,.own n' B rows ln)] []) \/
        ∃ j n2 B2 rows2,off<=j/\j<off+ti.size/\row[j]? = some (.lst n2 B2 rows2)/\0<n2/\(∀ k,off<=k->k<off+ti.size->lnk ln i k=none)/\(∀ k t,off<=k->k<off+ti.size->k≠j->row[k]? = some t -> ∃ x,t = .v x) /\
          K (.agg ((((row.drop off).take ti.size).map .tr).set (j-off) (.sl nh rows2.length))) [(h,.own n' B rows ln)] [(nh,some (.own n2 B2 rows2 [])),(h,some (.own n' B rows (((i,j),(nh,rows2.length))::ln)))])
      else n=n'/\i<rows.length/\∀row,rows[i]?=some row->off+ti.size<=row.length/\(∀t∈(row.drop off).take ti.size,∃x,t=.v x)/\(∀j,off<=j->j<off+ti.size->lnk ln i j=none) /\
      K (.agg (((row.drop off).take ti.size).map .tr)) [(h,.own n' B rows ln)] [])
     else n=n'/\i<rows.length/\∀row,rows[i]?=some row->off<row.length/\∀t,row[off]?=some t->match lnk ln i off with
      |some (c,len)=>K (.sl c len) [(h,.own n' B rows ln)] []
      |none=>match t with
       | .v x=>K (.tr (.v x)) [(h,.own n' B rows ln)] []
       | .lst n2 B2 rows2=>0<n2/\K (.sl nh rows2.length) [(h,.own n' B rows ln)] [(nh,some (.own n2 B2 rows2 [])),(h,some (.own n' B rows (((i,off),(nh,rows2.length))::ln)))]
   |none=>False
  |_=>vR T m ty K (.vpt h n i off)
 |a=>vR T m ty K a
def uX(T:Ty)(fs:List (Nat×Nat)):List AV->List (Nat×Option AV)->Option (List AV)
 |l,[]=>some l
 |l,(i,a)::r=>match fs[i]?,a with
  |some (ft,off),some a=>match lk T ft,a.cells with
   |some ti,some cs=>bif Nat.beq cs.length ti.size&&cs.all AV.one&&Nat.ble (off+cs.length) l.length then uX T fs (l.take off++cs++l.drop (off+cs.length)) r else none
   |_,_=>none
  |_,_=>none
def vc(size:Nat):List AV->List (Nat×Option AV)->Option (List AV)
 |l,[]=>some l
 |l,(i,a)::r=>match a with
  |some a=>match a.cells with
   |some cs=>bif Nat.beq cs.length size&&cs.all AV.one&&Nat.ble (i*size+cs.length) l.length then vc size (l.take (i*size)++cs++l.drop (i*size+cs.length)) r else none
   |none=>none
  |none=>none
def mY(size:Nat):Nat->List (Nat×Option AV)->Option (List (List Tr))
 |_,[]=>some []
 | k,(i,a)::r=>bif Nat.beq i k then (match a with
   |some a=>match a.trCells with
    |some cs=>bif Nat.beq cs.length size then(match mY size (k+1) r with|some l=>some (cs::l)|none=>none) else none
    |none=>none
   |none=>none) else none
def im:Nat->List (Nat×Option AV)->Option (List AV)
 |_,[]=>some []
 | k,(i,a)::r=>bif Nat.beq i k then (match a with
   |some (.ptr h off)=>match im (k+1) r with|some l=>some (.ptr h off::l)|none=>none
   |some (.fn f cs)=>match im (k+1) r with|some l=>some (.fn f cs::l)|none=>none
   |some a=>bif a.one then(match im (k+1) r with|some l=>some (a::l)|none=>none) else none
   |none=>none) else none
def Bd(size:Nat):Nat->List (Nat×Option AV)->Option (List (List Tr)×List ((Nat×Nat)×(Nat×Nat))):=fun _ _=>none
def E4(d:Option D)(op:BinOp):Value->Value->Option (Option Prop×Value)
 | .int k a,.int k' b=>match op with
  | .shl=>some (some (0<=b),.int k (k.wrap (a*2^(min b.toNat k.bits))))
  | .shr=>some (some (0<=b),.int k (a.fdiv (2^(min b.toNat k.bits))))
  |op=>if k=k' then(match op with
   | .add=>some (none,.int k (k.wrap (a+b)))
   | .sub=>some (none,.int k (k.wrap (a-b)))
   | .mul=>some (none,.int k (k.wrap (a*b)))
   | .quo=>some (some (b≠0),.int k (k.wrap (a.tdiv b)))
   | .rem=>some (some (b≠0),.int k (a.tmod b))
   | .and=>some (none,.int k (k.wrap (BitVec.ofInt k.bits a &&& BitVec.ofInt k.bits b).toNat))
   | .or=>some (none,.int k (k.wrap (BitVec.ofInt k.bits a ||| BitVec.ofInt k.bits b).toNat))
   | .xor=>some (none,.int k (k.wrap (BitVec.ofInt k.bits a ^^^ BitVec.ofInt k.bits b).toNat))
   | .andNot=>some (none,.int k (k.wrap (BitVec.ofInt k.bits a &&& ~~~BitVec.ofInt k.bits b).toNat))
   | .eql=>some (none,.bool (a==b))
   | .neq=>some (none,.bool (a != b))
   | .lss=>some (none,.bool (decide (a<b)))
   | .leq=>some (none,.bool (decide (a<=b)))
   | .gtr=>some (none,.bool (decide (a > b)))
   | .geq=>some (none,.bool (decide (a>=b)))
   |_=>none) else none
 | .string a,.string b=>match op with
  | .add=>some (some (a.size+b.size<=9223372036854775807),.string (a++b))
  | .eql=>some (none,.bool (a.toList==b.toList))
  | .neq=>some (none,.bool (!(a.toList==b.toList)))
  |_=>none
 | .bool a,.bool b=>match d,op with
  |some .bool,.eql=>some (none,.bool (a==b))
  |some .bool,.neq=>some (none,.bool (!(a==b)))
  |_,_=>none
 |_,_=>none
def aun(op:UnOp):Value->Option Value
 | .int k n=>match op with
  | .neg=>some (.int k (k.wrap (0-n)))
  | .xor=>some (.int k (k.wrap (BitVec.ofInt k.bits (if k.signed then -1 else k.max) ^^^ BitVec.ofInt k.bits n).toNat))
  |_=>none
 | .bool b=>match op with|.not=>some (.bool !b)|_=>none
 |_=>none
def Fy(d:Option D)(y:Operand)(a b:Value):Bool:=match a,b with
 | .nilIface,.nilIface=>match y,d with
  | .const _,some .iface=>true
  |_,_=>false
 | .pointer none,.pointer none=>match d with
  |some (.ptr _)=>true
  |_=>false
 | .slice none 0 0,.slice none 0 0=>match d with
  |some (.slice _)=>true
  |_=>false
 | .nilFunc,.nilFunc=>match d with
  |some .func=>true
  |_=>false
 |_,_=>false
def under(c:Option Prop)(X:Prop):Prop:=match c with|none=>X|some p=>p/\X
def eT(T:Ty)(m:Mem)(ty:Nat)(z:Int)(K:KK):AV->Prop
 | .tr (.lst n B rows)=>match lk T ty with
  |some ⟨.slice e,_,_,_,_⟩=>match lk T e with
   |some te=>te.size=n/\0<=z/\z<rows.length/\∀row,rows[z.toNat]?=some row->K (.ept row) [] []
   |none=>False
  |_=>False
 | .sl h len=>match lk T ty,m h with
  |some ⟨.slice e,_,_,_,_⟩,some (.vec e' n B rows)=>match lk T e with
   |some te=>te.size=n/\0<=z/\z<len/\K (.vpt h n z.toNat 0) [(h,.vec e' n B rows)] []
   |none=>False
  |_,_=>False
 | .ptr h off=>match lk T ty,m h with
  |some ⟨.array k e,_,_,_,_⟩,some b=>match lk T e with
   |some te=>0<=z/\z<k/\K (.ptr h (off+z.toNat*te.size)) [(h,b)] []
   |none=>False
  |_,_=>False
 |_=>False
def dT(T:Ty)(m:Mem)(ty:Nat)(z:Int)(K:KK):AV->Prop
 | .sl h len=>match m h with
  |some (.own n B rows ln)=>match lk T ty with
   |some ⟨.slice e,_,_,_,_⟩=>match lk T e with
    |some te=>te.size=n/\0<=z/\z<len/\K (.vpt h n z.toNat 0) [(h,.own n B rows ln)] []
    |none=>False
   |_=>False
  |_=>eT T m ty z K (.sl h len)
 | .ifc t (.ptr h off)=>match lk T ty,m h with
  |some ⟨.slice e,_,_,_,_⟩,some b=>match lk T e with
   |some te=>bif Nat.ble (2*HMod) t&&Nat.beq te.size 1 then 0<=z/\z<(t-2*HMod:Nat)/\K (.ptr h (off+z.toNat)) [(h,b)] [] else False
   |none=>False
  |_,_=>False
 | .vpt h n i off=>match lk T ty,m h with
  |some ⟨.array k e,_,_,_,_⟩,some b=>match lk T e with
   |some te=>0<=z/\z<k/\K (.vpt h n i (off+z.toNat*te.size)) [(h,b)] []
   |none=>False
  |_,_=>False
 |a=>eT T m ty z K a
def vT(T:Ty)(ty:Nat)(z:Int)(K:KK):AV->Prop
 | .tr (.v (.string s))=>match lk T ty with
  |some ⟨.string,_,_,_,_⟩=>0<=z/\z<s.size/\∀b,s[z.toNat]?=some b->K (.tr (.v (.int .u8 b.toNat))) [] []
  |_=>False
 | .agg l=>match lk T ty with
  |some ⟨.array k e,_,_,_,_⟩=>match lk T e with
   | some te=>0<=z/\z<k/\(bif te.d.agg then z.toNat*te.size+te.size<=l.length/\K (.agg ((l.drop (z.toNat*te.size)).take te.size)) [] []
     else te.size=1/\z.toNat<l.length/\∀a,l[z.toNat]?=some a->K a [] [])
   |none=>False
  |_=>False
 |_=>False
def eV(T:Ty)(m:Mem)(ty f:Nat)(K:KK)(x:AV):Prop:=
 match lk T ty with
 |some ⟨.struct fs,_,_,_,_⟩=>match fs[f]? with
  |some (ft,off)=>match lk T ft with
   |some ti=>bif Nat.beq ti.size 0 then False else match x with
    | .ptr h o=>match m h with|some b=>K (.ptr h (o+off)) [(h,b)] []|none=>False
    | .vpt h n i o=>match m h with|some b=>K (.vpt h n i (o+off)) [(h,b)] []|none=>False
    | .ept cs=>K (.ept (cs.drop off)) [] []
    |_=>False
   |none=>False
  |none=>False
 |_=>False
def wA(T:Ty)(ty f:Nat)(K:KK)(x:AV):Prop:=
 match lk T ty,x with
 |some ⟨.struct fs,_,_,_,_⟩,.agg l=>match fs[f]? with
  |some (ft,off)=>match lk T ft with
   | some ti=>bif ti.d.agg then (bif Nat.ble (off+ti.size) l.length then K (.agg ((l.drop off).take ti.size)) [] [] else False)
     else match l[off]? with|some a=>K a [] []|none=>False
   |none=>False
  |none=>False
 |_,_=>False
def Fd(T:Ty)(m:Mem)(ty:Nat)(K:KK):AV->Prop
 | .tr (.v (.string s))=>match lk T ty with
  |some ⟨.string,_,_,_,_⟩=>K (.tr (.v (.int .i64 s.size))) [] []
  |_=>False
 | .tr (.v (.slice _ l _))=>match lk T ty with
  |some ⟨.slice _,_,_,_,_⟩=>K (.tr (.v (.int .i64 l))) [] []
  |_=>False
 | .tr (.lst _ _ rows)=>match lk T ty with
  |some ⟨.slice _,_,_,_,_⟩=>K (.tr (.v (.int .i64 rows.length))) [] []
  |_=>False
 | .sl h len=>match lk T ty,m h with
  |some ⟨.slice _,_,_,_,_⟩,some b=>K (.tr (.v (.int .i64 len))) [(h,b)] []
  |_,_=>False
 | .agg _=>match lk T ty with
  |some ⟨.array n _,_,_,_,_⟩=>bif Nat.ble n 9223372036854775807 then K (.tr (.v (.int .i64 n))) [] [] else False
  |_=>False
 | .ifc t (.ptr _ _)=>match lk T ty with
  |some ⟨.slice _,_,_,_,_⟩=>bif Nat.ble (2*HMod) t&&Nat.ble (t-2*HMod) 9223372036854775807 then K (.tr (.v (.int .i64 ((t-2*HMod:Nat):Int)))) [] [] else False
  |_=>False
 |_=>False
def dP(n:Nat)(m:Mem):AV->Option (List (List Tr)×List (Nat×Blk))
 | .tr (.v (.slice none 0 0))=>some ([],[])
 | .tr (.lst n' _ rows)=>bif Nat.beq n n' then some (rows,[]) else none
 | .sl h len=>match m h with
  |some (.vec e n' B rows)=>bif Nat.beq n n'&&Nat.ble len rows.length then some (rows.take len,[(h,.vec e n' B rows)]) else none
  |_=>none
 |_=>none
def p9(T:Ty)(m:Mem)(nh ty:Nat)(x y:AV)(K:KK):Prop:=
 match lk T ty with
 |some ⟨.slice e,_,_,_,_⟩=>match lk T e with
  |some te=>match(bif Nat.ble 1 te.size&&Nat.ble 1 te.bytes then dP te.size m y else none) with
   |some (news,rd)=>match x with
    | .tr (.v (.slice none 0 0))=>news.length*te.bytes<=150000000000000/\K (.sl nh news.length) rd [(nh,some (.vec e te.size te.bytes news))]
    | .sl h len=>match m h with
     | some (.vec e' n B rows)=>e'=e/\n=te.size/\B=te.bytes/\len<=rows.length/\(len+news.length)*te.bytes<=150000000000000/\(∀ p ∈ rd,p.1≠h) /\
       K (.sl nh (len+news.length)) ((h,.vec e' n B rows)::rd) [(nh,some (.vec e te.size te.bytes (rows.take len++news))),(h,none)]
     |_=>False
    |_=>False
   |none=>False
  |none=>False
 |_=>False
def ll(rows:List (List Tr)):Prop:=∀row∈rows,∀t∈row,∃x,t=.v x
def zj(fl:Bool)(rows:List (List Tr)):Prop:=match fl with|true=>ll rows|false=>True
def eD(k:Nat):List ((Nat×Nat)×(Nat×Nat))->List ((Nat×Nat)×(Nat×Nat))
 |[]=>[]
 |((i,j),x)::r=>((k+i,j),x)::eD k r
def Fj(k:Nat):List ((Nat×Nat)×(Nat×Nat))->Prop
 |[]=>True
 |p::r=>p.1.1<k/\Fj k r
def Blk.asO:Blk->Option (Nat×Nat×List (List Tr)×List ((Nat×Nat)×(Nat×Nat))×Bool)
 | .own n B rows ln=>some (n,B,rows,ln,false)
 | .vec _ n B rows=>some (n,B,rows,[],true)
 |_=>none
def Ex(m:Mem):AV->Bool
 | .sl h _=>match m h with|some (.own _ _ _ _)=>true|_=>false
 |_=>false
def mO(m:Mem)(h:Nat):Option (Blk×Nat×Nat×List (List Tr)×List ((Nat×Nat)×(Nat×Nat))×Bool):=match m h with
 |some b=>match b.asO with|some x=>some (b,x)|none=>none
 |none=>none
def FR(m:Mem)(nh e:Nat)(te:TyI)(news:List (List Tr))(rd:List (Nat×Blk))(K:KK):AV->Prop
 | .tr (.v (.slice none 0 0))=>news.length*te.bytes<=150000000000000/\K (.sl nh news.length) rd [(nh,some (.vec e te.size te.bytes news))]
 | .sl h len=>match m h with
  | some (.vec e' n B rows)=>e'=e/\n=te.size/\B=te.bytes/\len<=rows.length/\(len+news.length)*te.bytes<=150000000000000/\(∀ p ∈ rd,p.1≠h) /\
    K (.sl nh (len+news.length)) ((h,.vec e' n B rows)::rd) [(nh,some (.vec e te.size te.bytes (rows.take len++news))),(h,none)]
  |_=>False
 |_=>False
def mn(T:Ty)(m:Mem)(nh ty:Nat)(x y:AV)(K:KK):Prop:=
 match Ex m x||Ex m y with
 |true=>match lk T ty with
  |some ⟨.slice e,_,_,_,_⟩=>match lk T e,y with
   |some te,.sl h2 len2=>match mO m h2 with
    |some (b2,n2,B2,rows2,ln2,f2)=>bif Nat.beq n2 te.size&&Nat.beq B2 te.bytes&&Nat.ble 1 te.size&&Nat.ble 1 te.bytes then(match x with
     | .tr (.v (.slice none 0 0))=>len2=rows2.length/\1<=len2/\zj f2 rows2/\K (.sl nh len2) [(h2,b2)] [(nh,some (.own te.size te.bytes rows2 ln2)),(h2,none)]
     | .sl h len=>match mO m h with
      | some (b,n,B,rows,ln,f)=>bif f && !f2 && ln2.isEmpty then (ll rows2/\len2=rows2.length/\FR m nh e te rows2 [(h2,b2)] K (.sl h len)) else (bif Nat.beq n te.size && Nat.beq B te.bytes && !Nat.beq h h2 then
        len=rows.length/\len2=rows2.length/\1<=len2/\(len+len2)*te.bytes<=150000000000000/\zj f rows/\zj f2 rows2/\Fj len ln /\
         K (.sl nh (len+len2)) [(h,b),(h2,b2)] [(nh,some (.own te.size te.bytes (rows++rows2) (eD len ln2++ln))),(h,none),(h2,none)] else False)
      |none=>False
     |_=>False) else False
    |none=>False
   |_,_=>False
  |_=>False
 |false=>p9 T m nh ty x y K
def rK(T:Ty)(m:Mem)(nh ty ty':Nat)(x:AV)(s:ByteArray)(K:KK):Prop:=
 False
def rp(T:Ty)(nh ty ty':Nat)(z:Int)(K:KK):Prop:=
 False
def qz(T:Ty)(m:Mem)(nh ty:Nat)(x y:AV)(K:KK):Prop:=
 mn T m nh ty x y K
def t8(T:Ty)(ty:Nat)(h mx:Int)(K:KK):AV->Prop:=fun _=>False
def BD(T:Ty)(t:Nat):Option D:=match lk T t with
 |some ⟨.string,_,_,_,_⟩=>some .string
 |some ⟨.int k,_,_,_,_⟩=>some (.int k)
 |some ⟨.bool,_,_,_,_⟩=>some .bool
 |some ⟨.struct [(a,0),(b,1)],_,_,_,true⟩=>match dOf T a,dOf T b with
  |some (.int .i64),some .bool=>some (.struct [(0,0)])
  |some .bool,some (.int .i64)=>some (.struct [(1,0)])
  |_,_=>none
 |_=>none
def MK.ofA:AV->Option MK
 | .tr (.v x)=>MK.of x
 | .agg [.tr (.v (.int .i64 n)),.tr (.v (.bool b))]=>some (.kib n b)
 | .agg [.tr (.v (.bool b)),.tr (.v (.int .i64 n))]=>some (.kbi b n)
 |_=>none
def wW(i:TyI):Option AV:=match i.d.agg with
 |true=>some (.agg (gJ i.zero))
 |false=>match i.zero with|[z]=>some (.tr (.v z.val))|_=>none
def pA(T:Ty)(m:Mem)(ty:Nat)(kv:AV)(ok:Bool)(K:KK):AV->Prop
 | .mp h=>match lk T ty,m h,MK.ofA kv with
  |some ⟨.map k e,_,_,_,_⟩,some (.map kd es),some q=>match BD T k,lk T e with
   | some kd',some ⟨d,_,_,[z],_⟩=>bif decide (kd=kd') && q.fits kd && !d.agg then
     (bif ok then K (.tup [.tr ((ew es q).getD (.v z.val)),.tr (.v (.bool (ew es q).isSome))]) [(h,.map kd es)] [] else K (.tr ((ew es q).getD (.v z.val))) [(h,.map kd es)] []) else False
   |_,_=>False
  |some ⟨.map k e,_,_,_,_⟩,some (.mpa kd es),some q=>match BD T k,lk T e with
   |some kd',some i=>match wW i with
    |some a0=>bif decide (kd=kd')&&q.fits kd then
     (bif ok then K (.tup [(ew es q).getD a0,.tr (.v (.bool (ew es q).isSome))]) [(h,.mpa kd es)] [] else K ((ew es q).getD a0) [(h,.mpa kd es)] []) else False
    |none=>False
   |_,_=>False
  |_,_,_=>False
 |_=>False
def fb(T:Ty)(m:Mem)(ty:Nat)(kv:AV)(x:AV)(K:KK):AV->Prop
 | .mp h=>match lk T ty,m h,MK.ofA kv with
  |some ⟨.map k _,_,_,_,_⟩,some (.map kd es),some q=>match BD T k,x with
   |some kd',.tr t=>bif decide (kd=kd')&&q.fits kd then K .und [(h,.map kd es)] [(h,some (.map kd (mput es q t)))] else False
   |_,_=>False
  |some ⟨.map k _,_,_,_,_⟩,some (.mpa kd es),some q=>match BD T k with
   |some kd'=>bif decide (kd=kd')&&q.fits kd then K .und [(h,.mpa kd es)] [(h,some (.mpa kd (mput es q x)))] else False
   |_=>False
  |_,_,_=>False
 |_=>False
def Gj(T:Ty)(e:Nat):Bool:=match lk T e with
 |some ⟨.func,_,_,_,_⟩=>true
 |some i=>i.d.agg
 |none=>false
def ii(T:Ty)(nh ty:Nat)(l c:Int)(K:KK):Prop:=
 match lk T ty with
 |some ⟨.slice e,_,_,_,_⟩=>match lk T e with
  | some te=>bif Nat.ble 1 te.size && Nat.ble 1 te.bytes then 0<=l/\l<=c/\c*te.bytes<=140737488351232 /\
    K (.sl nh l.toNat) [] [(nh,some (.vec e te.size te.bytes (List.replicate l.toNat (ztrs te.zero))))] else False
  |none=>False
 |_=>False
def zX(T:Ty):List (Nat×Nat)->Nat->List AV->List AV->Option Bool
 |[],_,[],[]=>some true
 | (ft,off)::fs,i,.tr (.v a)::l,.tr (.v b)::l'=>bif Nat.beq off i then
   (match dOf T ft,a,b with
   |some (.int _),.int k x,.int k' y=>if k=k' then(match zX T fs (i+1) l l' with|some r=>some ((x==y)&&r)|none=>none) else none
   |some .string,.string x,.string y=>(match zX T fs (i+1) l l' with|some r=>some ((x.toList==y.toList)&&r)|none=>none)
   |some .bool,.bool x,.bool y=>(match zX T fs (i+1) l l' with|some r=>some ((x==y)&&r)|none=>none)
   |_,_,_=>none) else none
 |_,_,_,_=>none
def Fh(d:Option D):AV->AV->Option Bool
 | .tr (.v a),.tr (.v b)=>match d,a,b with
  |some (.int _),.int k x,.int k' y=>if k=k' then some (x==y) else none
  |some .string,.string x,.string y=>some (x.toList==y.toList)
  |some .bool,.bool x,.bool y=>some (x==y)
  |_,_,_=>none
 |_,_=>none
def F3(T:Ty)(t:Nat):Option (List (Nat×Nat)×Nat):=match lk T t with
 |some ⟨.struct gs,k,_,_,true⟩=>some (gs,k)
 |_=>none
def EN(T:Ty):List (Nat×Nat)->Nat->List AV->List AV->Option Bool
 |[],_,[],[]=>some true
 |(ft,off)::fs,i,l,l'=>bif Nat.beq off i then(match F3 T ft with
  |some (gs,k)=>(match zX T gs 0 (l.take k) (l'.take k),EN T fs (i+k) (l.drop k) (l'.drop k) with|some a,some b=>some (a&&b)|_,_=>none)
  |none=>(match l,l' with
   |x::l,y::l'=>(match Fh (dOf T ft) x y,EN T fs (i+1) l l' with|some a,some b=>some (a&&b)|_,_=>none)
   |_,_=>none)) else none
 |_,_,_,_=>none
def EY(T:Ty)(t:Nat)(l l':List AV):Option Bool:=match lk T t with
 |some ⟨.struct fs,_,_,_,true⟩=>(match zX T fs 0 l l' with|some b=>some b|none=>EN T fs 0 l l')
 |_=>none
def CP:Option (Option AV)->Option (Option Int)
 |none=>some none
 |some (some (.tr (.v (.int _ z))))=>some (some z)
 |_=>none
def v8(T:Ty)(m:Mem)(ty:Nat)(lo hi:Option Int)(K:KK):AV->Prop
 | .tr (.v (.string s))=>match lk T ty with
  |some ⟨.string,_,_,_,_⟩=>0<=lo.getD 0/\lo.getD 0<=hi.getD s.size/\hi.getD s.size<=s.size/\K (.tr (.v (.string (s.extract (lo.getD 0).toNat (hi.getD s.size).toNat)))) [] []
  |_=>False
 | .tr (.lst n B rows)=>match lk T ty with
  |some ⟨.slice e,_,_,_,_⟩=>match lk T e with
   | some te=>te.size=n/\0<=lo.getD 0/\lo.getD 0<=hi.getD rows.length/\hi.getD rows.length<=rows.length /\
     K (.tr (.lst n B ((rows.take (hi.getD rows.length).toNat).drop (lo.getD 0).toNat))) [] []
   |none=>False
  |_=>False
 | .sl h len=>match lk T ty,lo,m h with
  |some ⟨.slice e,_,_,_,_⟩,none,some b=>bif (lk T e).isSome then 0<=hi.getD len/\hi.getD len<=len/\K (.sl h (hi.getD len).toNat) [(h,b)] [] else False
  |_,_,_=>False
 | .tr (.v (.slice none 0 0))=>match lk T ty with
  |some ⟨.slice e,_,_,_,_⟩=>bif (lk T e).isSome then 0<=lo.getD 0/\lo.getD 0<=hi.getD 0/\hi.getD 0<=0/\K (.tr (.v (.slice none 0 0))) [] [] else False
  |_=>False
 |_=>False
def DW(T:Ty)(m:Mem)(ty:Nat)(x y:AV)(K:KK):Prop:=
 False
def Fq:AV->Option (Nat×Nat×List Tr)
 | .fn f [.ifc t (.fn z [.ptr h o]),.ept cs]=>bif Nat.beq t (4*HMod)&&Nat.beq z 0&&Nat.beq o 0 then some (h,f,cs) else none
 |_=>none
def qg:List (Nat×Option AV)->Option (Nat×Nat×List Tr)
 |[(i,some a)]=>bif Nat.beq i 0 then Fq a else none
 |_=>none
def ue(T:Ty)(m:Mem)(nh ty:Nat)(K:KK):AV->Prop
 | .vpt h n i off=>match m h with
  |some (.fns e B h2 l)=>match lk T ty with
   |some ti=>bif ti.d.agg then False else n=1/\off=0/\i<l.length/\∀p,l[i]?=some p->K (fnAV h2 p) [(h,.fns e B h2 l)] []
   |none=>False
  |_=>qV T m nh ty K (.vpt h n i off)
 | .ifc t (.fn z [a])=>match lk T ty with
  |some ti=>bif !ti.d.agg&&Nat.beq t (4*HMod) then K a [] [] else False
  |none=>False
 |a=>qV T m nh ty K a
def fW(T:Ty)(m:Mem)(ty:Nat)(z:Int)(K:KK):AV->Prop
 | .sl h len=>match m h with
  |some (.fns e' B h2 l)=>match lk T ty with
   |some ⟨.slice e,_,_,_,_⟩=>match lk T e with
    |some te=>te.size=1/\0<=z/\z<len/\K (.vpt h 1 z.toNat 0) [(h,.fns e' B h2 l)] []
    |none=>False
   |_=>False
  |_=>dT T m ty z K (.sl h len)
 |a=>dT T m ty z K a
def An(m:Mem):AV->Option (Nat×Nat×Nat×Nat×Nat×List (Nat×List Tr))
 | .sl h len=>match m h with|some (.fns e B h2 l)=>some (h,len,e,B,h2,l)|_=>none
 |_=>none
def lE(T:Ty)(m:Mem)(nh ty:Nat)(x y:AV)(K:KK):Prop:=
 match An m x,An m y with
 |some (h,len,e1,B1,k1,l1),some (h',len',e2,B2,k2,l2)=>match lk T ty with
  |some ⟨.slice e,_,_,_,_⟩=>match lk T e with
   | some te=>bif Nat.beq te.size 1 && Nat.ble 1 te.bytes && Nat.beq k1 k2 && Nat.beq B1 te.bytes && Nat.beq e1 e && !Nat.beq h h' then
     len=l1.length/\len'=l2.length/\(len+len')*te.bytes<=150000000000000 /\
      K (.sl nh (len+len')) [(h,.fns e1 B1 k1 l1),(h',.fns e2 B2 k2 l2)] [(nh,some (.fns e te.bytes k1 (l1++l2))),(h,none)] else False
   |none=>False
  |_=>False
 |_,_=>qz T m nh ty x y K
def mQ:AV->Option Int|.tr (.v (.int _ z))=>some z|_=>none
def evs(ev:Operand->Option AV):List Operand->Option (List AV)
 |[]=>some []
 |x::r=>match ev x,evs ev r with|some a,some l=>some (a::l)|_,_=>none
def parts(ev:Operand->Option AV)(ps:Array (Nat×Operand)):List (Nat×Option AV):=ps.toList.map fun p=>(p.1,ev p.2)
def aop(T:Ty)(m:Mem)(nh:Nat)(ev:Operand->Option AV)(K:KK):Op->Prop
 | .move x|.assign x=>match ev x with|some a=>K a [] []|none=>False
 | .pick c x y=>match ev c with
  |some (.tr (.v (.bool b)))=>cond b (match ev x with|some a=>K a [] []|none=>False) (match ev y with|some a=>K a [] []|none=>False)
  |_=>False
 | .alloc t=>match lk T t with|some i=>bif rowTy T i then(K (.ptr nh 0) [] [(nh,some (.cells t (gJ i.zero)))]\/K (.vpt nh i.size 0 0) [] [(nh,some (.own i.size i.bytes [ztrs i.zero] []))]) else K (.ptr nh 0) [] [(nh,some (.cells t (gJ i.zero)))]|none=>False
 | .box t x=>match ev x with
  |some a=>match a.cells with
   |some cs=>bif cs.all AV.one then(match lk T t with
    | some i=>bif rowTy T i then (K (.ptr nh 0) [] [(nh,some (.cells t cs))]∨match k9 0 0 cs with
      |some (ts,ls)=>cs.length=i.size/\K (.vpt nh i.size 0 0) [] [(nh,some (.own i.size i.bytes [ts] ls))]
      |none=>False) else K (.ptr nh 0) [] [(nh,some (.cells t cs))]
    |none=>K (.ptr nh 0) [] [(nh,some (.cells t cs))]) else False
   |none=>False
  |none=>False
 | .build t ps=>match lk T t with
  |some ⟨.struct fs,_,_,z,_⟩=>bif fs.all (fun p=>(lk T p.1).isSome) then(match uX T fs (gJ z) (parts ev ps) with|some l=>K (.agg l) [] []|none=>False) else False
  |some ⟨.array _ e,_,_,z,_⟩=>match lk T e with
   |some te=>match vc te.size (gJ z) (parts ev ps) with|some l=>K (.agg l) [] []|none=>False
   |none=>False
  |_=>False
 | .buildSlice t len ps=>match lk T t with
  |some ⟨.slice e,_,_,_,_⟩=>match lk T e with
   |some te=>match mY te.size 0 (parts ev ps) with
    | some rows=>bif Nat.beq rows.length len && Nat.ble 0 len && Nat.ble 1 te.size && Nat.ble (len*te.size) 16777216 && Nat.ble (len*te.bytes) 140737488351232 then
      K (.sl nh len) [] [(nh,some (.vec e te.size te.bytes rows))] else False
    |none=>match Bd te.size 0 (parts ev ps) with
     | some (rows,ln)=>bif Nat.beq rows.length len && Nat.ble 1 len && Nat.ble 1 te.size && Nat.ble (len*te.size) 16777216 && Nat.ble (len*te.bytes) 140737488351232 then
       K (.sl nh len) [] [(nh,some (.own te.size te.bytes rows ln))] else False
     |none=>match qg (parts ev ps) with
      |some (h,f,cs)=>bif Nat.beq len 1&&Nat.beq te.size 1&&Nat.ble te.bytes 140737488351232 then K (.sl nh 1) [] [(nh,some (.fns e te.bytes h [(f,cs)]))] else False
      |none=>match im 0 (parts ev ps) with
      | some l=>bif Nat.beq l.length len && Nat.ble 1 len && Nat.beq te.size 1 && Nat.ble len 16777216 && Nat.ble (len*te.bytes) 140737488351232 then
        K (.ifc (2*HMod+len) (.ptr nh 0)) [] [(nh,some (.cells e l))] else False
      |none=>False
   |none=>False
  |_=>False
 | .load t x=>match ev x with|some a=>ue T m nh t K a|none=>False
 | .store t x y=>match ev x,ev y with|some a,some b=>pU T m t b K a|_,_=>False
 | .fieldAddr t x f=>match ev x with|some a=>eV T m t f K a|none=>False
 | .field t x f=>match ev x with|some a=>wA T t f K a|none=>False
 | .indexAddr t x i=>match ev x,ev i with
  |some a,some b=>match mQ b with|some z=>fW T m t z K a|none=>False
  |_,_=>False
 | .index t x i=>match ev x,ev i with
  |some a,some b=>match mQ b with|some z=>vT T t z K a|none=>False
  |_,_=>False
 | .binOp op t x y _=>match ev x,ev y with
  |some (.tr (.v a)),some (.tr (.v b))=>match Fy (dOf T t) y a b with
   |true=>match op with
    | .eql=>K (.tr (.v (.bool true))) [] []
    | .neq=>K (.tr (.v (.bool false))) [] []
    |_=>False
   |false=>match E4 (dOf T t) op a b with|some (c,v)=>under c (K (.tr (.v v)) [] [])|none=>False
  |some (.ptr h _),some (.tr (.v (.pointer none)))=>match op,dOf T t,m h with
   | .eql,some (.ptr _),some b=>K (.tr (.v (.bool false))) [(h,b)] []
   | .neq,some (.ptr _),some b=>K (.tr (.v (.bool true))) [(h,b)] []
   |_,_,_=>False
  |some (.tr (.lst _ _ rows)),some (.tr (.v (.slice none 0 0)))=>match op,dOf T t with
   | .eql,some (.slice _)=>0<rows.length/\K (.tr (.v (.bool false))) [] []
   | .neq,some (.slice _)=>0<rows.length/\K (.tr (.v (.bool true))) [] []
   |_,_=>False
  |some (.agg l),some (.agg l')=>match op,EY T t l l' with
   | .eql,some b=>K (.tr (.v (.bool b))) [] []
   | .neq,some b=>K (.tr (.v (.bool !b))) [] []
   |_,_=>False
  |some (.ifc t' _),some (.tr (.v .nilIface))=>bif Nat.blt t' HMod then(match op,dOf T t with
   | .eql,some .iface=>K (.tr (.v (.bool false))) [] []
   | .neq,some .iface=>K (.tr (.v (.bool true))) [] []
   |_,_=>False) else False
  |some (.fn _ _),some (.tr (.v .nilFunc))=>match op,dOf T t with
   | .eql,some .func=>K (.tr (.v (.bool false))) [] []
   | .neq,some .func=>K (.tr (.v (.bool true))) [] []
   |_,_=>False
  |_,_=>False
 | .typeAssert x _ t false=>match ev x,dOf T t with
  |some (.ifc t' a),some d=>bif Nat.beq t' t && !d.isIface&&Nat.blt t HMod then K a [] [] else False
  |_,_=>False
 | .makeMap t none=>match lk T t with
  |some ⟨.map k e,_,_,_,_⟩=>match BD T k with|some kd=>(match Gj T e with|true=>K (.mp nh) [] [(nh,some (.mpa kd []))]|false=>K (.mp nh) [] [(nh,some (.map kd []))])|none=>False
  |_=>False
 | .lookup t x i ok=>match ev x,ev i with
  |some a,some kv=>pA T m t kv ok K a
  |_,_=>False
 | .mapUpdate t x i y=>match ev x,ev i,ev y with
  |some a,some kv,some b=>fb T m t kv b K a
  |_,_,_=>False
 | .insert t x i y=>match ev x,ev i,ev y with
  |some a,some kv,some b=>fb T m t kv b K a
  |_,_,_=>False
 | .makeSlice t l c=>match ev l,ev c with
  |some a,some b=>match mQ a,mQ b with|some l,some c=>ii T nh t l c K|_,_=>False
  |_,_=>False
 | .unOp op _ x=>match ev x with
  |some (.tr (.v a))=>match aun op a with|some v=>K (.tr (.v v)) [] []|none=>False
  |_=>False
 | .convert s d x=>match lk T s,lk T d,ev x with
  |some _,some ⟨.int k,_,_,_,_⟩,some (.tr (.v (.int _ n)))=>K (.tr (.v (.int k (k.wrap n)))) [] []
  |some _,some ⟨.string,_,_,_,_⟩,some (.tr (.v (.string s)))=>K (.tr (.v (.string s))) [] []
  |some ⟨.slice e,_,_,_,_⟩,some ⟨.string,_,_,_,_⟩,some a=>match lk T e,dP 1 m a with
   |some te,some (rows,rd)=>False
   |_,_=>False
  |_,_,_=>False
 | .extract x i=>match ev x with
  |some (.tup l)=>match l[i]? with|some a=>K a [] []|none=>False
  |_=>False
 | .makeInterface t x=>match ev x,lk T t with
  |some _,some ⟨.iface,_,_,_,_⟩=>False
  |some a,some _=>bif Nat.blt t HMod then K (.ifc t a) [] [] else False
  |_,_=>False
 | .makeFunc (.func f) fs cs=>bif Nat.beq fs.size 0 then
   (match evs ev cs.toList with|some l=>K (.fn f l) [] []|none=>False) else
   (match fs,cs with
   |⟨[x]⟩,⟨[]⟩=>match ev x with|some a=>bif Nat.blt f HMod then K (.ifc (HMod+f) a) [] [] else False|none=>False
   |_,_=>False)
 | .slice t x lo hi none=>match ev x,CP (lo.map ev),CP (hi.map ev) with
  |some a,some l,some h=>v8 T m t l h K a
  |_,_,_=>False
 | .slice t x none (some hi) (some mx)=>match ev x,ev hi,ev mx with
  |some a,some h,some z=>match mQ h,mQ z with|some h,some z=>t8 T t h z K a|_,_=>False
  |_,_,_=>False
 | .nilCheck x=>match ev x with
  |some (.ptr h o)=>match m h with|some b=>K (.ptr h o) [(h,b)] []|none=>False
  |some (.vpt h n i o)=>match m h with|some b=>K (.vpt h n i o) [(h,b)] []|none=>False
  |some (.ept cs)=>K (.ept cs) [] []
  |some (.fn f l)=>K (.fn f l) [] []
  |_=>False
 | .call { callee:=.builtin .len,args:=⟨[x]⟩,argTypes:=⟨[t]⟩ }=>match ev x with|some a=>Fd T m t K a|none=>False
 | .call { callee:=.builtin .append,args:=⟨[x,y]⟩,argTypes:=⟨[t,t']⟩ }=>bif Nat.beq t t' then(match ev x,ev y with
  |some a,some b=>lE T m nh t a b K
  |_,_=>False) else(match ev x,ev y with
  |some a,some (.tr (.v (.string s)))=>rK T m nh t t' a s K
  |some (.tr (.v (.slice none 0 0))),some (.tr (.v (.int _ z)))=>rp T nh t t' z K
  |_,_=>False)
 | .call { callee:=.builtin .copy,args:=⟨[x,y]⟩,argTypes:=⟨[t,_]⟩ }=>match ev x,ev y with
  |some a,some b=>DW T m t a b K
  |_,_=>False
 | .call { callee:=.builtin .min,args:=⟨[x,y]⟩,argTypes:=_ }=>match ev x,ev y with
  |some (.tr (.v (.int k a))),some (.tr (.v (.int k' b)))=>if k=k' then K (.tr (.v (.int k (min a b)))) [] [] else False
  |_,_=>False
 | .call { callee:=.builtin .max,args:=⟨[x,y]⟩,argTypes:=_ }=>match ev x,ev y with
  |some (.tr (.v (.int k a))),some (.tr (.v (.int k' b)))=>if k=k' then K (.tr (.v (.int k (max a b)))) [] [] else False
  |_,_=>False
 | .call { callee:=.builtin .cap,args:=⟨[x]⟩,argTypes:=⟨[t]⟩ }=>match ev x,lk T t with
  |some (.tr (.v (.slice none 0 0))),some ⟨.slice _,_,_,_,_⟩=>K (.tr (.v (.int .i64 0))) [] []
  |_,_=>False
 | .range t x=>match ev x,lk T t with
  |some (.mp h),some ⟨.map _ _,_,_,_,_⟩=>match m h with
   |some (.map kd es)=>K (.ptr nh 0) [(h,.map kd es)] [(nh,some (.itr h es.length []))]
   |_=>False
  |_,_=>False
 | .entry x=>match ev x with
  |some (.ptr hi 0)=>match m hi with
   |some (.itr h n seen)=>match m h with
    |some (.map kd es)=>n=es.length/\∃s i,seen=s++[i]/\∃k t,es[i]?=some (k,t)/\oy k.val/\K (.tup [.tr (.v k.val),.tr t]) [(hi,.itr h n seen),(h,.map kd es)] []
    |_=>False
   |_=>False
  |_=>False
 |_=>False
set_option linter.unusedSimpArgs false
section
variable {P:Program} {T:Ty}
theorem TOk.small(hT:TOk P T){t:TypeId}{i:TyI}(h:lk T t=some i):i.bytes<=4096:=(hT t i h).2
theorem TOk.info(hT:TOk P T){t:TypeId}{i:TyI}(h:lk T t=some i):∃ti u z,P.info? t=some ti/\P.underlying t=some u/\D.of u=i.d/\ti.size=i.size/\ti.bytes=i.bytes/\ti.zero=some z /\
  kD z i.d=some i.zero/\i.zero.length=i.size:=by
 have e:=(hT t i h).1;unfold E1 at e;split at e;case h_2=>cases e
 rename_i ti u e1 e2;split at e;case h_2=>cases e
 rename_i z e3;split at e;case h_2=>cases e
 rename_i zs e4;by_cases hl:zs.length=ti.size
 ·rw[Gw hl] at e;cases e;exact⟨ti,u,z,e1,e2,rfl,rfl,rfl,e3,e4,hl⟩
 ·rw[GN hl] at e;cases e
theorem Aw:∀ {cs:List Value} {zs:List Z},cs.mapM Z.of=some zs->cs=zs.map Z.val
 |[],zs,h=>by simp at h;subst h;rfl
 |c::cs,zs,h=>by simp only[JH,Option.bind_eq_bind,Option.bind_eq_some_iff,Option.pure_def,HG] at h;obtain⟨z,h1,l,h2,rfl⟩:=h;rw[GO,<-Z.of_val h1,<-Aw h2]
theorem bd{z:Value}{d:D}{zs:List Z}(h:kD z d=some zs):z.cells=(zs.map Z.val).toArray/\(d.agg=true->z=.agg (zs.map Z.val).toArray):=by
 unfold kD at h;split at h
 ·split at h
  ·rename_i cs;have:=Aw h;have e:cs=(zs.map Z.val).toArray:=by rw[<-this]
   subst e;exact⟨rfl,fun _=>rfl⟩
  ·cases h
 ·rename_i hd;split at h;·cases h
  ·rename_i x hx;simp only[z9] at h;obtain⟨q,h1,rfl⟩:=h;have:=Z.of_val h1;refine⟨?_,fun h=>absurd h hd⟩;subst this;cases q<;>rfl
theorem aI(hT:TOk P T){t:TypeId}{i:TyI}(h:lk T t=some i)(w:World):∃u,(underlying t).run P w=.ok u w/\D.of u=i.d/\P.underlying t=some u:=by obtain⟨ti,u,z,_,e2,e3,_⟩:=hT.info h;exact⟨u,GP e2 w,e3,e2⟩
theorem dy(hT:TOk P T){t:TypeId}{i:TyI}(h:lk T t=some i)(w:World):(isAgg t).run P w=.ok i.d.agg w:=by obtain⟨u,h1,h2,_⟩:=aI hT h w;unfold isAgg;simp only[E9,h1,De,<-h2];cases u<;>rfl
theorem aW(hT:TOk P T){t:TypeId}{i:TyI}(h:lk T t=some i)(w:World):(sizeOf t).run P w=.ok i.size w:=by obtain⟨ti,u,z,e1,_,_,e4,_⟩:=hT.info h;simp[sizeOf,typeInfo,e1,e4]
theorem fg(hT:TOk P T){t:TypeId}{i:TyI}(h:lk T t=some i)(w:World):∃z,(zeroValue t).run P w=.ok z w/\z.cells=(i.zero.map Z.val).toArray/\i.zero.length=i.size/\(i.d.agg=true->z=.agg (i.zero.map Z.val).toArray):=by obtain⟨ti,u,z,e1,_,_,_,_,e6,e7,e8⟩:=hT.info h;exact⟨z,by simp[zeroValue,typeInfo,e1,e6],(bd e7).1,e8,(bd e7).2⟩
theorem cG(b o n:Nat):(⟨b,o,none⟩:Addr).add n=⟨b,o+n,none⟩:=by unfold Addr.add;split<;>simp_all
theorem dI(hT:TOk P T){t:TypeId}{i:TyI}(h:lk T t=some i)(ha:i.d.agg=true){w:World}{b o:Nat}(cs:List Value)(hl:cs.length=i.size)(hc:∀(j:Nat)(v:Value),cs[j]?=some v->w.cell? ⟨b,o+j,none⟩=some v):
  (Instr.loadAt t (.pointer (some ⟨b,o,none⟩))).run P w=.ok (.agg cs.toArray) w:=by
 have e:=run_loadCells_list (P:=P) w ⟨b,o,none⟩ cs (fun j v hv=>by rw[cG];exact hc j v hv);rw[hl] at e;simp[Instr.loadAt,Instr.sureAddr,loadVar,dy hT h,aW hT h,ha,e]
theorem de(hT:TOk P T){t:TypeId}{i:TyI}(h:lk T t=some i)(ha:i.d.agg=false){w:World}{b o:Nat}{v:Value}(hc:w.cell? ⟨b,o,none⟩=some v):
  (Instr.loadAt t (.pointer (some ⟨b,o,none⟩))).run P w=.ok v w:=by
 simp[Instr.loadAt,Instr.sureAddr,loadVar,dy hT h,ha,hc]
theorem gV(hT:TOk P T){t:TypeId}{i:TyI}(h:lk T t=some i){w:World}{b o:Nat}{cur:Array Value}{e:TypeId}(hb:w.heap[b]?=some (.cells cur e (0,0))){x:Value}(hl:x.cells.size=i.size)
  (h1:∀v∈x.cells.toList,v.oneCell'=true) (hs:o+x.cells.size<=cur.size) :
  (Instr.storeAt t (.pointer (some ⟨b,o,none⟩)) x).run P w=.ok () (w.setRow b (cur.toList.take o++x.cells.toList++cur.toList.drop (o+x.cells.size)).toArray):=by
 have e:=run_storeCells_at (P:=P) b o e x.cells.toList 0 cur w hb (by simpa using hs) h1;simp only[HR,BQ] at e;rw[hl] at e |-
 simp[Instr.storeAt,Instr.sureAddr,storeVar,aW hT h,hl,e]
end
theorem vE(w:World)(o:Obj)(i:Nat)(h:i<w.heap.size):(w.alloc o).heap[i]?=w.heap[i]? :=by show(w.heap.push o)[i]?=w.heap[i]?;rw[HK,GN (Nat.ne_of_lt h)]
theorem bA{a b:Nat}(h:a≠b):Nat.beq a b=false:=by
 cases hb:Nat.beq a b with
 |true=>exact absurd (xx hb) h
 |false=>rfl
def gset(g:Gh)(h:Nat)(s:HS):Gh:=⟨fun k=>if k=h then s else g k,g.X,[],fun k b=>k≠h/\g.F k b⟩
theorem A6(g:Gh){h k:Nat}(s:HS)(hk:k≠h):(gset g h s).F k=g.F k:=by funext b;simp[gset,hk]
theorem Cr(g:Gh){h b:Nat}(s:HS):¬ (gset g h s).F h b:=fun h1=>h1.1 rfl
theorem be(g:Gh)(h:Nat)(s:HS):gset g h s h=s:=by simp[gset]
theorem iU(g:Gh){h k:Nat}(s:HS)(hk:k≠h):gset g h s k=g k:=by simp[gset,hk]
theorem gset_owns{g:Gh}{h k b:Nat}{s:HS}(h1:cd (gset g h s) k b):(k=h/\∃l,s=.live l/\l.b=some b)\/(k≠h/\cd g k b):=by
 obtain⟨l,e1,e2⟩:=h1;by_cases e:k=h
 ·subst e;rw[be] at e1;exact .inl ⟨rfl,l,e1,e2.elim id fun h=>absurd h (Cr g s)⟩
 ·rw[iU _ _ e] at e1;rw[A6 _ _ e] at e2;exact .inr ⟨e,l,e1,e2⟩
theorem bS{g:Gh}{w:World}(hx:∀b,g.X b->b<w.heap.size){nh:Nat}(hn:g nh=.un)(o:Obj){l:Loc}(hl:∀b,l.b=some b->b=w.heap.size):Grow g w (gset g nh (.live l)) (w.alloc o):=by
 refine⟨rfl,rfl,rfl,JX,fun b hb=>vE w o b hb.1,fun b hb=>vE w o b (hx b hb),rfl,fun h hh=>?_,fun h l' hh=>?_,fun h b e1=>?_⟩
 ·by_cases e:h=nh;·subst e;exact absurd hn hh
  ·rw[iU _ _ e];exact hh
 ·by_cases e:h=nh;·subst e;exact .inr hn
  ·rw[iU _ _ e] at hh;exact .inl hh
 ·rcases gset_owns e1 with⟨rfl,l1,e2,e3⟩|⟨_,e2⟩
  ·cases e2;exact .inr (by rw[hl b e3];exact t9 _)
  ·exact .inl ⟨h,e2⟩
theorem wE{g:Gh}{w:World}{m:Mem}(hm:MSt g w m){nh:Nat}(hn:g nh=.un)(o:Obj){l:Loc}(hl:∀b,l.b=some b->b=w.heap.size){b:Blk}(hb:∀F,fE (gset g nh (.live l)) (w.alloc o) l F b):
  MSt (gset g nh (.live l)) (w.alloc o) (bL m [(nh,some b)]):=by
 have hg:=bS hm.xlt hn o hl;refine⟨fun h b' hh=>?_,fun h h' k e1 e2=>?_,fun h k e1=>?_,fun b hb=>Hb (hm.xlt b hb) JX,fun h k e1 hx=>?_,hm.gl.grow hg⟩
 ·by_cases e:h=nh
  ·subst e;have:b'=b:=by simpa[bL,lk] using hh.symm
   subst this;exact⟨l,be ..,hb _⟩
  ·have hh':m h=some b':=by
    have e':Nat.beq nh h=false:=bA fun e1=>e e1.symm;simpa[bL,lk,e'] using hh
   obtain⟨l1,e1,e2⟩:=hm.blk h b' hh';rw[A6 _ _ e];exact⟨l1,by rw[iU _ _ e];exact e1,e2.grow hg fun k hk=>vE w o k (hm.lt h k ⟨l1,e1,hk⟩)⟩
 ·rcases gset_owns e1 with⟨rfl,l1,e3,e4⟩|⟨e,e3⟩<;>rcases gset_owns e2 with⟨rfl,l2,e5,e6⟩|⟨e',e5⟩
  ·rfl
  ·cases e3;have:=hl k e4;have:=hm.lt h' k e5;omega
  ·cases e5;have:=hl k e6;have:=hm.lt h k e3;omega
  ·exact hm.inj h h' k e3 e5
 ·rcases gset_owns e1 with⟨rfl,l1,e3,e4⟩|⟨e,e3⟩
  ·cases e3;rw[hl k e4];simp
  ·have:=hm.lt h k e3;simp;omega
 ·rcases gset_owns e1 with⟨rfl,l1,e3,e4⟩|⟨e,e3⟩
  ·cases e3;have:=hl k e4;have:=hm.xlt k hx;omega
  ·exact hm.xl h k e3 hx
theorem cq{g:Gh}{w w':World}{h:Nat}{b:Nat}(hx:¬ g.X b)(hh:cd g h b)(hos:w'.os=w.os)(htp:w'.tape=w.tape)(hou:w'.output=w.output)(hsz:w'.heap.size=w.heap.size)
  (hk:∀k,k≠b->w'.heap[k]?=w.heap[k]?):Grow g w g w':=
 ⟨hos,htp,hou,Ee hsz.symm,fun k h1=>hk k (fun e=>h1.2.2 h (by rw[e];exact hh)),fun k h1=>hk k (fun e=>hx (e ▸ h1)),rfl,fun _ h=>h,fun _ _ h=>.inl h,fun k b' e=>.inl ⟨k,e⟩⟩
theorem dD{g:Gh}{w w':World}{m:Mem}(hm:MSt g w m){h:Nat}{l:Loc}{b:Nat}(hh:g h=.live l)(hl:l.b=some b\/g.F h b)(hg:Grow g w g w')(hsz:w'.heap.size=w.heap.size)
  (hk:∀k,k≠b->w'.heap[k]?=w.heap[k]?) {bl:Blk} (hb:fE g w' l (g.F h) bl):MSt g w' (bL m [(h,some bl)]):=by
 refine⟨fun h' b' hh'=>?_,hm.inj,fun h' k e1=>by rw[hsz];exact hm.lt h' k e1,fun k hk=>by rw[hsz];exact hm.xlt k hk,hm.xl,hm.gl.grow hg⟩;by_cases e:h'=h
 ·subst e;have:b'=bl:=by simpa[bL,lk] using hh'.symm
  subst this;exact⟨l,hh,hb⟩
 ·have hh'':m h'=some b':=by
   have e':Nat.beq h h'=false:=bA fun e1=>e e1.symm;simpa[bL,lk,e'] using hh'
  obtain⟨l1,e1,e2⟩:=hm.blk h' b' hh'';refine⟨l1,e1,e2.grow hg fun k hk'=>hk k fun ek=>e ?_⟩;subst ek;exact hm.inj h' h k ⟨l1,e1,hk'⟩ ⟨l,hh,hl⟩
theorem ca.drop_take{g:Gh}{w:World}{cs:Array Value}{l:List AV}(h:ca g w cs l)(o n:Nat):ca g w (cs.extract o (o+n)) ((l.drop o).take n):=by
 refine⟨by simp[h.1];omega,fun a ha=>h.2.1 a (JI (G2 ha)),fun i c a h1 h2=>?_⟩;rw[Ba] at h2;split at h2
 ·rename_i hi;rw[GA] at h2;refine h.2.2 (o+i) c a ?_ h2;rw[Hc] at h1;split at h1;·exact h1
  ·cases h1
 ·cases h2
theorem ca.put{g:Gh}{w:World}{cs xs:Array Value}{l as:List AV}(h:ca g w cs l)(hx:ca g w xs as)(o:Nat)(ho:o+as.length<=l.length):
  ca g w (cs.toList.take o++xs.toList++cs.toList.drop (o+xs.size)).toArray (l.take o++as++l.drop (o+as.length)):=by
 have e1:=h.1;have e2:=hx.1;refine⟨by simp;omega,fun a ha=>?_,fun i c a h1 h2=>?_⟩
 ·simp only[FK] at ha;rcases ha with(ha|ha)|ha
  ·exact h.2.1 a (G2 ha)
  ·exact hx.2.1 a ha
  ·exact h.2.1 a (JI ha)
 ·simp only[He,GH] at h1 h2;by_cases c1:i<o
  ·rw[v9 (by simp;omega),Ba,Gw c1] at h1 h2;exact h.2.2 i c a (by simpa using h1) h2
  ·rw[wS (by simp;omega)] at h1 h2;have q1:(cs.toList.take o).length=o:=by simp;omega
   have q2:(l.take o).length=o:=by simp;omega
   rw[q1] at h1;rw[q2] at h2;by_cases c2:i-o<as.length
   ·rw[v9 (by rw[BQ];omega)] at h1;rw[v9 c2] at h2;exact hx.2.2 (i-o) c a (by simpa using h1) h2
   ·rw[wS (by rw[BQ];omega)] at h1;rw[wS JQ] at h2;rw[GA] at h1 h2;refine h.2.2 i c a ?_ ?_
    ·have e5:o+xs.size+(i-o-xs.toList.length)=i:=by rw[BQ];omega
     rw[e5,Gx] at h1;exact h1
    ·rw[<-h2];congr 1;omega
theorem Rep.cells{g:Gh}{w:World}{x:Value}{a:AV}(h:Rep g w x a){l:List AV}(hl:a.cells=some l)(h1:l.all AV.one=true):ca g w x.cells l:=by
 have one:∀(hx:x.oneCell'=true),l=[a]->ca g w x.cells l:=by
  rintro hx rfl;have e:x.cells = #[x]:=by cases x<;>first|rfl|cases hx
  rw[e];refine⟨rfl,fun b hb=>GQ.1 h1 b hb,fun i c b e1 e2=>?_⟩;cases i with
  |zero=>simp at e1 e2;subst e1;subst e2;exact h
  |succ i=>simp at e2
 cases a with
 |und=>cases hl
 |tup=>cases hl
 |agg l'=>
  cases hl;cases h with
  |agg e1 e2 e3=>exact⟨e1,e2,e3⟩
 |_=>cases hl;exact one (h.one (by simpa[AV.one] using h1)) rfl
theorem ca.agg{g:Gh}{w:World}{cs:Array Value}{l:List AV}(h:ca g w cs l):Rep g w (.agg cs) (.agg l):=.agg h.1 h.2.1 h.2.2
theorem d5(g:Gh)(w:World)(zs:List Z):ca g w (zs.map Z.val).toArray (gJ zs):=by
 refine⟨by simp[gJ],fun a ha=>?_,fun i c a h1 h2=>?_⟩
 ·simp only[gJ,GM] at ha;obtain⟨z,_,rfl⟩:=ha;rfl
 ·simp only[He,z5,gJ,z9] at h1 h2;obtain⟨z,e1,rfl⟩:=h1;obtain⟨z',e2,rfl⟩:=h2;rw[e1] at e2;cases e2;exact .tr (.v (eE z))
theorem trs_some:∀ {l:List AV} {ts:List Tr},trs l=some ts->l=ts.map .tr
 |[],ts,h=>by cases h;rfl
 | .tr t::r,ts,h=>by
  unfold trs at h;split at h;·rename_i l e;cases h;rw[trs_some e];rfl
  ·cases h
 | .und::_,_,h=>by cases h
 | .agg _::_,_,h=>by cases h
 | .tup _::_,_,h=>by cases h
 | .ptr .. :: _,_,h=>by cases h
 | .vpt .. :: _,_,h=>by cases h
 | .sl .. :: _,_,h=>by cases h
 | .ept .. :: _,_,h=>by cases h
 | .fn .. :: _,_,h=>by cases h
 | .ifc .. :: _,_,h=>by cases h
 | .mp .. :: _,_,h=>by cases h
 | .ful .. :: _,_,h=>by cases h
theorem Rep.trCells{g:Gh}{w:World}{x:Value}{a:AV}(h:Rep g w x a){ts:List Tr}(ht:a.trCells=some ts):x.cells.size=ts.length/\∀(i:Nat)(t:Tr),ts[i]?=some t->∃c,x.cells[i]?=some c/\RepT (okB g w) w c t:=by
 unfold AV.trCells at ht;split at ht;case h_2=>cases ht
 rename_i l hl;have e:=trs_some ht;subst e;have hc:=h.cells hl (by simp[AV.one]);refine⟨by simpa using hc.1,fun i t hi=>?_⟩;have hlt:i<x.cells.size:=by rw[hc.1];simp;exact(a9.1 hi).1
 refine⟨x.cells[i],by simp[hlt],?_⟩;have:=hc.2.2 i x.cells[i] (.tr t) (by simp[hlt]) (by simp[hi]);generalize x.cells[i]=c at this;cases this
 assumption
def kC(P:Program)(run:Sem Next)(g:Gh)(w:World)(m:Mem)(nh:Nat)(up:List (Nat×Option Blk))(a:AV):Prop:=
 ∃g' w',((∃v,run.run P w=.ok (.value v) w'/\Rep g' w' v a)\/(run.run P w=.ok .skip w'/\a=.und))/\MSt g' w' (bL m up)/\Grow g w g' w'/\∀h,h≠nh->g h=.un->g' h=.un
def FF(P:Program)(o:Oper)(nh:Nat)(ev:Operand->Option AV)(rd:List (Nat×Blk))(up:List (Nat×Option Blk))(a:AV):Prop:=
 ∀(g:Gh)(w:World)(m:Mem)(ρ:Operand->Value),MSt g w m->g nh=.un->(∀p∈rd,m p.1=some p.2)->(∀x b,ev x=some b->Rep g w (ρ x) b)->kC P (execOp ρ o) g w m nh up a
def LOk(P:Program)(o:Oper)(m:Mem)(nh:Nat)(ev:Operand->Option AV)(K:KK):Prop:=
 ∃a rd up,K a rd up/\(∀p∈rd,m p.1=some p.2)/\(∀p∈up,p.1=nh\/∃q∈rd,q.1=p.1)/\FF P o nh ev rd up a
section
variable {P:Program} {T:Ty} {o:Oper} {m:Mem} {nh:Nat} {ev:Operand->Option AV} {K:KK}
theorem kC.pure{run:Sem Next}{g:Gh}{w:World}{v:Value}{a:AV}(hm:MSt g w m)(hr:run.run P w=.ok (.value v) w)(ha:Rep g w v a):kC P run g w m nh [] a:=
 ⟨g,w,.inl ⟨v,hr,ha⟩,hm,Grow.refl _ _,fun _ _ h=>h⟩
theorem kC.new{run:Sem Next}{g:Gh}{w:World}{a:AV}(hm:MSt g w m)(hn:g nh=.un)(ob:Obj)(l:Loc)(hl:∀b,l.b=some b->b=w.heap.size)(b:Blk)(v:Value)
  (hr:run.run P w=.ok (.value v) (w.alloc ob)) (hb:∀F,fE (gset g nh (.live l)) (w.alloc ob) l F b) (ha:Rep (gset g nh (.live l)) (w.alloc ob) v a):kC P run g w m nh [(nh,some b)] a:=
 ⟨_,_,.inl ⟨v,hr,ha⟩,wE hm hn ob hl hb,bS hm.xlt hn ob hl,fun h e e'=>by rw[iU _ _ e];exact e'⟩
theorem LOk.pure(a:AV)(rd:List (Nat×Blk))(hK:K a rd [])(hrd:∀p∈rd,m p.1=some p.2)
  (h:∀(g:Gh)(w:World)(m:Mem)(ρ:Operand->Value),MSt g w m->(∀p∈rd,m p.1=some p.2)->(∀x b,ev x=some b->Rep g w (ρ x) b)->∃v,(execOp ρ o).run P w=.ok (.value v) w/\Rep g w v a):LOk P o m nh ev K:=
 ⟨a,rd,[],hK,hrd,fun p hp=>by simp at hp,fun g w m ρ hm _ hrd hev=>by obtain⟨v,h1,h2⟩:=h g w m ρ hm hrd hev;exact kC.pure hm h1 h2⟩
theorem cW{g:Gh}{w:World}{cs:Array Value}{l:List AV}(h:ca g w cs l){i:Nat}{a:AV}(hi:l[i]?=some a):∃c,cs[i]?=some c/\Rep g w c a:=by
 have hlt:i<cs.size:=by rw[h.1];exact(a9.1 hi).1
 exact⟨cs[i],by simp[hlt],h.2.2 i cs[i] a (by simp[hlt]) hi⟩
theorem pm{g:Gh}{w:World}{cs:List Value}{ts:List Tr}(hl:cs.length=ts.length)(h:∀(i:Nat)(c:Value)(t:Tr),cs[i]?=some c->ts[i]?=some t->RepT (okB g w) w c t):ca g w cs.toArray (ts.map .tr):=by
 refine⟨by simpa using hl,fun a ha=>?_,fun i c a h1 h2=>?_⟩;·simp only[GM] at ha;obtain⟨t,_,rfl⟩:=ha;rfl
 ·simp only[He,z5,z9] at h1 h2;obtain⟨t,e,rfl⟩:=h2;exact .tr (h i c t h1 e)
theorem fP{g:Gh}{w:World}{n:Nat}{rows:List (List Tr)}{cur:Array Value}(hr:∀row∈rows,row.length=n)(h:∀(i:Nat)(t:Tr),rows.flatten[i]?=some t->∃c,cur[i]?=some c/\RepT (okB g w) w c t)
  {i:Nat} {row:List Tr} (hi:rows[i]?=some row) {j:Nat} {t:Tr} (hj:row[j]?=some t):∃c,cur[i*n+j]?=some c/\RepT (okB g w) w c t:=by
 refine h _ _ ?_;induction rows generalizing i cur with
 |nil=>simp at hi
 |cons r rs ih=>
  have hr0:=hr r JX;cases i with
  |zero=>
   simp at hi;subst hi;rw[Hw,JB,E7,v9 (a9.1 hj).1];exact hj
  |succ i=>
   rw[Hw,wS (by rw[hr0,G4];omega),hr0,show(i+1)*n+j-n=i*n+j by rw[G4];omega];exact ih (cur:=(cur.toList.drop n).toArray) (fun r h=>hr r (by simp[h])) (fun k t hk=>by obtain⟨c,c1,c2⟩:=h (n+k) t (by rw[Hw,wS JQ,hr0,(JQ:n+k-n=k)];exact hk);exact⟨c,by simpa using c1,c2⟩) (by simpa using hi)
theorem Rep.tr_inv{g:Gh}{w:World}{v:Value}{t:Tr}(h:Rep g w v (.tr t)):RepT (okB g w) w v t:=by cases h;assumption
theorem Rep.ptr_inv{g:Gh}{w:World}{v:Value}{hd off b:Nat}(h:Rep g w v (.ptr hd off))(g1:g hd=.live (.blk b)):v=.pointer (some ⟨b,off,none⟩):=by
 cases h with
 |ptrD e=>rw[g1] at e;cases e
 |ptr e=>rw[g1] at e;cases e;rfl
theorem Rep.vpt_inv{g:Gh}{w:World}{v:Value}{hd n i off:Nat}{l:Loc}(h:Rep g w v (.vpt hd n i off))(g1:g hd=.live l):∃b cap,l=.row b cap/\v=.pointer (some ⟨b,i*n+off,none⟩):=by
 cases h with
 |vptD e=>rw[g1] at e;cases e
 |vpt e=>rw[g1] at e;cases e;exact⟨_,_,rfl,rfl⟩
theorem Rep.sl_inv{g:Gh}{w:World}{v:Value}{hd len:Nat}{l:Loc}(h:Rep g w v (.sl hd len))(g1:g hd=.live l):(∃b cap,l=.row b cap/\len<=cap/\v=.slice (some ⟨b,0,none⟩) len cap)\/(l=.nil/\len=0/\v=.slice none 0 0):=by
 cases h with
 |slD e=>rw[g1] at e;cases e
 |sl e h=>rw[g1] at e;cases e;exact .inl ⟨_,_,rfl,h,rfl⟩
 |slN e=>rw[g1] at e;cases e;exact .inr ⟨rfl,rfl,rfl⟩
theorem Rep.ept_inv{g:Gh}{w:World}{v:Value}{cs:List Tr}(h:Rep g w v (.ept cs)):∃(b o:Nat)(f:Nat->Value),v=.pointer (some ⟨b,o,none⟩)/\okB g w b/\(∀j,j<cs.length->w.cell? ⟨b,o+j,none⟩=some (f j))/\∀j t,cs[j]?=some t->RepT (okB g w) w (f j) t:=by
 cases h with
 |ept f h1 h2 h3=>exact⟨_,_,f,rfl,h1,h2,h3⟩
theorem aD{w:World}{b o:Nat}{cs:Array Value}{t:TypeId}{fr:Nat×Nat}(h:w.heap[b]?=some (.cells cs t fr)):w.cell? ⟨b,o,none⟩=cs[o]? :=by simp[World.cell?,h]
theorem tU{g:Gh}{w:World}{l:Loc}{F:Nat->Prop}{e n B:Nat}{rows:List (List Tr)}(h:fE g w l F (.vec e n B rows)){i:Nat}(hi:i<rows.length):∃b cap cur,l=.row b cap/\w.heap[b]?=some (.cells cur e (0,0))/\rows.length<=cap/\cur.size=cap*n /\
  (∀row∈rows,row.length=n)/\∀(i:Nat)(t:Tr),rows.flatten[i]?=some t->∃c,cur[i]?=some c/\RepT (okB g w) w c t:=by
 obtain⟨_,_,h|⟨b,cap,cur,e0,e1,e2,e3,e4,e5,e6⟩⟩:=h;·rw[h.2] at hi;simp at hi
 ·exact⟨b,cap,cur,e0,e1,e2,e4,e5,e6⟩
theorem vh(hT:TOk P T){ty:TypeId}{x:Operand}{a:AV}(ho:o.op=.load ty x)(hx:ev x=some a)(h:vR T m ty K a):LOk P o m nh ev K:=by
 have hrun:∀(ρ:Operand->Value)(w:World)(v u:Value),ρ x=u->(Instr.loadAt ty u).run P w=.ok v w->(execOp ρ o).run P w=.ok (.value v) w:=fun ρ w v u hu e=>by subst hu;simp[execOp,ho,e]
 unfold vR at h;split at h
 ·
  rename_i hd off;split at h;case h_2=>exact h.elim
  rename_i i t l e1 e2;have rdok:∀p∈[(hd,Blk.cells t l)],m p.1=some p.2:=fun p hp=>by simp at hp;subst hp;exact e2
  cases hag:i.d.agg with
  |true=>
   rw[hag,r7] at h;cases hle:Nat.ble (off+i.size) l.length with
   |false=>rw[hle] at h;exact h.elim
   |true=>
    rw[hle] at h;have hle:=oo hle;refine LOk.pure _ _ h rdok fun g w m' ρ hm hrd hev=>?_;obtain⟨lc,g1,b,cs,rfl,g2,g3⟩:=hm.blk hd _ (hrd (hd,.cells t l) JX);have hc:=g3.drop_take off i.size;refine⟨_,hrun ρ w _ _ ((hev _ _ hx).ptr_inv g1) (dI hT e1 hag (cs.extract off (off+i.size)).toList ?_ fun j v hj=>?_),?_⟩;·have:=g3.1;simp;omega
    ·rw[aD g2];simp only[Gx,Hc] at hj;split at hj;·exact hj
     ·cases hj
    ·rw[I8];exact hc.agg
  |false=>
   rw[hag,lh] at h;split at h;case h_2=>exact h.elim
   rename_i a' ha;refine LOk.pure _ _ h rdok fun g w m' ρ hm hrd hev=>?_;obtain⟨lc,g1,b,cs,rfl,g2,g3⟩:=hm.blk hd _ (hrd (hd,.cells t l) JX);obtain⟨c,c1,c2⟩:=cW g3 ha;exact⟨c,hrun ρ w _ _ ((hev _ _ hx).ptr_inv g1) (de hT e1 hag (by rw[aD g2];exact c1)),c2⟩
 ·
  rename_i hd n i off;split at h;case h_2=>exact h.elim
  rename_i ti e n' B rows e1 e2;obtain⟨rfl,hi,h⟩:=h;have rdok:∀p∈[(hd,Blk.vec e n B rows)],m p.1=some p.2:=fun p hp=>by simp at hp;subst hp;exact e2
  obtain⟨row,hrow⟩:∃row,rows[i]?=some row:=⟨rows[i],by simp[hi]⟩;have h:=h row hrow;cases hag:ti.d.agg with
  |true=>
   rw[hag,r7] at h;obtain⟨hs,h⟩:=h;refine LOk.pure _ _ h rdok fun g w m' ρ hm hrd hev=>?_;obtain⟨lc,g1,g2⟩:=hm.blk hd _ (hrd (hd,.vec e n B rows) JX);obtain⟨b,cap,cur,rfl,g3,g4,g5,g6,g7⟩:=tU g2 hi;obtain⟨b',cap',e3,e4⟩:=(hev _ _ hx).vpt_inv g1;cases e3;have hl:=g6 row (i3 hrow);have hsz:i*n+n<=cur.size:=by have:(i+1)*n<=cap*n:=Eb _ JQ;rw[G4] at this;omega
   have hcs:ca g w (cur.extract (i*n+off) (i*n+off+ti.size)).toList.toArray (((row.drop off).take ti.size).map .tr):=by
    refine pm (by simp;omega) fun k c t h1 h2=>?_;simp only[Gx,Hc] at h1;rw[Ba] at h2;split at h2
    ·rename_i hk;rw[GA] at h2;obtain⟨c',c1,c2⟩:=fP g6 g7 hrow h2;split at h1;·rw[<-Hn,h1] at c1;cases c1;exact c2
     ·cases h1
    ·cases h2
   refine⟨_,hrun ρ w _ _ e4 (dI hT e1 hag (cur.extract (i*n+off) (i*n+off+ti.size)).toList (by simp;omega) fun j v hj=>?_),hcs.agg⟩;rw[aD g3];simp only[Gx,Hc] at hj;split at hj;·exact hj
   ·cases hj
  |false=>
   rw[hag,lh] at h;obtain⟨hl,h⟩:=h;have h:=h row[off] (by simp[hl]);refine LOk.pure _ _ h rdok fun g w m' ρ hm hrd hev=>?_;obtain⟨lc,g1,g2⟩:=hm.blk hd _ (hrd (hd,.vec e n B rows) JX);obtain⟨b,cap,cur,rfl,g3,g4,g5,g6,g7⟩:=tU g2 hi;obtain⟨b',cap',e3,e4⟩:=(hev _ _ hx).vpt_inv g1;cases e3;obtain⟨c,c1,c2⟩:=fP g6 g7 hrow (show row[off]?=some row[off] by simp[hl]);exact⟨c,hrun ρ w _ _ e4 (de hT e1 hag (by rw[aD g3];exact c1)),.tr c2⟩
 ·
  rename_i cs;split at h;case h_2=>exact h.elim
  rename_i i e1;cases hag:i.d.agg with
  |true=>
   rw[hag,r7] at h;cases hle:Nat.ble i.size cs.length with
   |false=>rw[hle] at h;exact h.elim
   |true=>
    rw[hle] at h;have hle:=oo hle;refine LOk.pure _ _ h JX fun g w m' ρ hm hrd hev=>?_;obtain⟨b,of,f,e2,e3,e4,e5⟩:=(hev _ _ hx).ept_inv;have hcs:ca g w ((List.range i.size).map f).toArray ((cs.take i.size).map .tr):=by
     refine pm (by simp;omega) fun k c t h1 h2=>?_;rw[Ba] at h2;split at h2
     ·rename_i hk;simp only[z5,GZ hk,G5,HG] at h1;subst h1;exact e5 k t h2
     ·cases h2
    refine⟨_,hrun ρ w _ _ e2 (dI hT e1 hag ((List.range i.size).map f) JX fun j v hj=>?_),hcs.agg⟩;have hj':j<i.size:=by have:=(a9.1 hj).1;simpa using this
    simp only[z5,GZ hj',G5,HG] at hj;subst hj;exact e4 j JQ
  |false=>
   rw[hag,lh] at h;split at h;case h_2=>exact h.elim
   rename_i t r;refine LOk.pure _ _ h JX fun g w m' ρ hm hrd hev=>?_;obtain⟨b,of,f,e2,e3,e4,e5⟩:=(hev _ _ hx).ept_inv;exact⟨f 0,hrun ρ w _ _ e2 (de hT e1 hag (e4 0 JX)),.tr (e5 0 t rfl)⟩
 ·exact h.elim
end
section
variable {P:Program} {T:Ty} {o:Oper} {m:Mem} {nh:Nat} {ev:Operand->Option AV} {K:KK}
theorem qs{α:Type}:∀(rows:List α)(i:Nat)(row:α),rows[i]?=some row->rows=rows.take i++row::rows.drop (i+1)
 |[],i,_,h=>by simp at h
 |r::rs,0,row,h=>by simp at h;subst h;rfl
 |r::rs,i+1,row,h=>by have:=qs rs i row (by simpa using h);simp only[IA,List.drop_succ_cons,H8];rw[<-this]
theorem bC{α:Type}{n:Nat}:∀(rows:List (List α)),(∀r∈rows,r.length=n)->rows.flatten.length=rows.length*n
 |[],_=>JX
 |r::rs,h=>by rw[Hw,uR,h r JX,bC rs (fun r hr=>h r (by simp[hr])),E0,G4];omega
theorem zi{α:Type}{n:Nat}{rows:List (List α)}(hr:∀r∈rows,r.length=n){i:Nat}{row:List α}(hi:rows[i]?=some row)(off:Nat)(cs:List α)(ho:off+cs.length<=row.length):
  (rows.set i (row.take off++cs++row.drop (off+cs.length))).flatten=rows.flatten.take (i*n+off)++cs++rows.flatten.drop (i*n+off+cs.length):=by
 have hlt:=(a9.1 hi).1;have e:=qs rows i row hi;have e1:(rows.take i).flatten.length=i*n:=by rw[bC _ (fun r h=>hr r (G2 h)),DK,Hf JQ]
 have hset:rows.set i (row.take off++cs++row.drop (off+cs.length))=rows.take i++(row.take off++cs++row.drop (off+cs.length))::rows.drop (i+1):=by rw[List.set_eq_take_append_cons_drop,Gw hlt]
 have hfl:rows.flatten=(rows.take i).flatten++(row++(rows.drop (i+1)).flatten):=by
  conv=>lhs;rw[e]
  simp
 rw[hset,hfl,IB,Hw];generalize (rows.take i).flatten=A at *
 generalize (rows.drop (i+1)).flatten=C at *
 clear hset hfl e;rw[List.take_append,vG (l:=A) JQ,e1,(JQ:i*n+off-i*n=off),HU JQ];rw[List.drop_append,Hg (l:=A) JQ,e1,(JQ:i*n+off+cs.length-i*n=off+cs.length),List.drop_append_of_le_length JQ];simp
theorem vl(hT:TOk P T){ty:TypeId}{x y:Operand}{a b:AV}(ho:o.op=.store ty x y)(hx:ev x=some a)(hy:ev y=some b)(h:qH T m ty b K a):LOk P o m nh ev K:=by
 have hrun:∀(ρ:Operand->Value)(w w':World)(u:Value),ρ x=u->(Instr.storeAt ty u (ρ y)).run P w=.ok () w'->(execOp ρ o).run P w=.ok .skip w':=fun ρ w w' u hu e=>by subst hu;simp[execOp,ho,e]
 unfold qH at h;split at h
 ·rename_i hd off;split at h;case h_2=>exact h.elim
  rename_i i t l cs e1 e2 e3;cases hc:(Nat.beq cs.length i.size&&cs.all AV.one&&Nat.ble (off+cs.length) l.length) with
  |false=>rw[hc] at h;exact h.elim
  |true=>
   rw[hc] at h;simp only[t4] at hc;obtain⟨⟨c1,c2⟩,c3⟩:=hc;have c1:=xx c1;have c3:=oo c3;refine⟨_,_,_,h,fun p hp=>by simp at hp;subst hp;exact e2,fun p hp=>.inr ⟨(hd,.cells t l),JX,by simp at hp;rw[hp]⟩,fun g w m' ρ hm hn hrd hev=>?_⟩;obtain⟨lc,g1,k,cur,rfl,g2,g3⟩:=hm.blk hd _ (hrd (hd,.cells t l) JX);have hcs:=(hev _ _ hy).cells e3 c2;have hsz:=hcs.1;have hsz2:=g3.1;have hput:=g3.put hcs off c3;have hr:=gV (P:=P) hT e1 g2 (x:=ρ y) (o:=off) JQ (fun v hv=>by
    obtain⟨j,hj⟩:=Gv.1 hv;have hj':j<cs.length:=by have:=(a9.1 hj).1;simp at this;omega
    exact(hcs.2.2 j v cs[j] (by simpa using hj) (by simp[hj'])).one (hcs.2.1 _ JX)) JQ
   refine⟨g,_,.inr ⟨hrun ρ w _ _ ((hev _ _ hx).ptr_inv g1) hr,rfl⟩,?_,?_,fun _ _ h=>h⟩
   ·have hg:=cq (b:=k) (hm.xl hd k (.root g1 rfl)) (.root g1 rfl) (w:=w) (w':=w.setRow k (cur.toList.take off++(ρ y).cells.toList++cur.toList.drop (off+(ρ y).cells.size)).toArray) rfl rfl rfl JX (fun j hj=>Iw w k j _ hj);exact dD hm g1 JZ hg JX (fun j hj=>Iw w k j _ hj) ⟨k,_,rfl,Jr w k cur _ t _ g2,hput.grow hg⟩
   ·exact cq (b:=k) (hm.xl hd k (.root g1 rfl)) (.root g1 rfl) rfl rfl rfl JX (fun j hj=>Iw w k j _ hj)
 ·rename_i hd n i off;split at h;case h_2=>exact h.elim
  rename_i ti e n' B rows cs e1 e2 e3;obtain⟨rfl,c1,c2,h⟩:=h;obtain⟨row,hrow⟩:∃row,rows[i]?=some row:=⟨rows[i],by simp[c2]⟩;obtain⟨c3,h⟩:=h row hrow;refine⟨_,_,_,h,fun p hp=>by simp at hp;subst hp;exact e2,fun p hp=>.inr ⟨(hd,.vec e n B rows),JX,by simp at hp;rw[hp]⟩,fun g w m' ρ hm hn hrd hev=>?_⟩;obtain⟨lc,g1,g2⟩:=hm.blk hd _ (hrd (hd,.vec e n B rows) JX);have g2':=g2;obtain⟨hB,hn0,_⟩:=g2';have g2':=g2;obtain⟨_,_,hv|⟨k,cap,cur,rfl,g3,g4,g4',g5,g6,g7⟩⟩:=g2';·rw[hv.2] at c2;simp at c2
  obtain⟨b',cap',q1,q2⟩:=(hev _ _ hx).vpt_inv g1;cases q1;obtain⟨hcs,hcr⟩:=(hev _ _ hy).trCells e3;have hrl:=g6 row (i3 hrow);have hsz:i*n+n<=cur.size:=by have:(i+1)*n<=cap*n:=Eb _ JQ;rw[G4] at this;omega
  have hr:=gV (P:=P) hT e1 g3 (x:=ρ y) (o:=i*n+off) JQ (fun v hv=>by
    obtain⟨j,hj⟩:=Gv.1 hv;have hj':j<cs.length:=by have:=(a9.1 hj).1;simp at this;omega
    obtain⟨c,w1,w2⟩:=hcr j cs[j] (by simp[hj']);rw[<-Gx,hj] at w1;cases w1;exact w2.one) JQ
  have hk2:=Jr w k cur (cur.toList.take (i*n+off)++(ρ y).cells.toList++cur.toList.drop (i*n+off+(ρ y).cells.size)).toArray e _ g3;have hko:=fun j hj=>Iw w k j (cur.toList.take (i*n+off)++(ρ y).cells.toList++cur.toList.drop (i*n+off+(ρ y).cells.size)).toArray hj;have hg:=cq (b:=k) (hm.xl hd k (.root g1 rfl)) (.root g1 rfl) (w:=w) (w':=w.setRow k (cur.toList.take (i*n+off)++(ρ y).cells.toList++cur.toList.drop (i*n+off+(ρ y).cells.size)).toArray) rfl rfl rfl JX hko;have hsz2:(w.setRow k (cur.toList.take (i*n+off)++(ρ y).cells.toList++cur.toList.drop (i*n+off+(ρ y).cells.size)).toArray).heap.size=w.heap.size:=JX;generalize w.setRow k (cur.toList.take (i*n+off)++(ρ y).cells.toList++cur.toList.drop (i*n+off+(ρ y).cells.size)).toArray=w2 at *
  refine⟨g,_,.inr ⟨hrun ρ w _ _ q2 hr,rfl⟩,?_,hg,fun _ _ h=>h⟩;have hfl:=zi g6 hrow off cs c3;have hfn:rows.flatten.length=rows.length*n:=bC rows g6;have hrc:rows.length*n<=cap*n:=Eb _ g4;refine dD hm g1 JZ hg hsz2 hko ⟨by simpa using hB,hn0,.inr ⟨k,cap,_,rfl,hk2,by simpa using g4,g4',by simp;omega,fun r hr=>?_,fun j t hj=>?_⟩⟩
  ·rcases HM hr with hr|rfl
   ·exact g6 r hr
   ·simp;omega
  ·rw[hfl] at hj;have hin:i*n+n<=rows.flatten.length:=by
    rw[hfn];have:(i+1)*n<=rows.length*n:=Eb _ JQ;rw[G4] at this;omega
   rw[GH] at hj;simp only[He,GH];by_cases k1:j<i*n+off
   ·rw[v9 (by rw[DK];omega),Ba,Gw k1] at hj;rw[v9 (by rw[DK,BQ];omega),Ba,Gw k1];obtain⟨c,w1,w2⟩:=g7 j t hj;exact⟨c,by simpa using w1,w2.grow hg⟩
   ·rw[wS (by rw[DK];omega),DK,Hf JQ] at hj;rw[wS (by rw[DK,BQ];omega),DK,BQ,Hf JQ];by_cases k2:j-(i*n+off)<cs.length
    ·rw[v9 k2] at hj;rw[v9 (by rw[BQ];omega)];obtain⟨c,w1,w2⟩:=hcr _ t hj;exact⟨c,by simpa using w1,w2.grow hg⟩
    ·rw[wS JQ,GA] at hj;rw[wS (by rw[BQ];omega),GA,BQ];obtain⟨c,w1,w2⟩:=g7 _ t hj;refine⟨c,?_,w2.grow hg⟩;rw[Gx,<-w1];congr 1;omega
 ·exact h.elim
theorem db{g:Gh}{w:World}{v:Value}{k:IntKind}{z:Int}(h:Rep g w v (.tr (.v (.int k z)))):v=.int k z/\k.min<=z/\z<=k.max:=by cases h.tr_inv with|v hg=>exact⟨rfl,hg⟩
theorem al{g:Gh}{w:World}{v x:Value}(h:Rep g w v (.tr (.v x))):v=x/\oy x:=by cases h.tr_inv with|v hg=>exact⟨rfl,hg⟩
theorem iR{u:TypeDesc}{fs:List (Nat×Nat)}(h:D.of u=.struct fs):∃fds:Array Field,u=.struct fds/\fs=fds.toList.map fun f=>(f.type,f.offset):=by cases u<;>first|(cases h;done)|(cases h;exact⟨_,rfl,rfl⟩)
theorem aR{u:TypeDesc}{e:Nat}(h:D.of u=.slice e):u=.slice e:=by cases u<;>first|(cases h;done)|(cases h;rfl)
theorem jR{u:TypeDesc}{n e:Nat}(h:D.of u=.array n e):u=.array n e:=by cases u<;>first|(cases h;done)|(cases h;rfl)
theorem cR{u:TypeDesc}(h:D.of u=.string):u=.string:=by cases u<;>first|(cases h;done)|rfl
theorem yc{u:TypeDesc}{k:IntKind}(h:D.of u=.int k):u=.int k:=by cases u<;>first|(cases h;done)|(cases h;rfl)
theorem mr{fds:Array Field}{f ft off:Nat}(h:(fds.toList.map fun f=>(f.type,f.offset))[f]?=some (ft,off)):∃fd,fds[f]?=some fd/\fd.type=ft/\fd.offset=off:=by simp only[z5,z9,Il] at h;obtain⟨fd,h1,h2,h3⟩:=h;exact⟨fd,by simpa using h1,h2,h3⟩
theorem l_fieldAddr(hT:TOk P T){ty f:Nat}{x:Operand}{a:AV}(ho:o.op=.fieldAddr ty x f)(hx:ev x=some a)(h:eV T m ty f K a):LOk P o m nh ev K:=by
 unfold eV at h;split at h;case h_2=>exact h.elim
 rename_i fs s1 s2 s3 s4 e1;split at h;case h_2=>exact h.elim
 rename_i ft off e2;split at h;case h_2=>exact h.elim
 rename_i ti e3;cases hz:Nat.beq ti.size 0 with
 |true=>rw[hz] at h;exact h.elim
 |false=>
 rw[hz,lh] at h;have hz:ti.size≠0:=fun e=>by rw[e] at hz;simp at hz
 have hrun:∀(ρ:Operand->Value)(w:World)(b of:Nat),ρ x=.pointer (some ⟨b,of,none⟩)->(execOp ρ o).run P w=.ok (.value (.pointer (some ⟨b,of+off,none⟩))) w:=fun ρ w b of hu=>by obtain⟨u,u1,u2,_⟩:=aI hT e1 w;obtain⟨fds,rfl,rfl⟩:=iR u2;obtain⟨fd,q1,q2,q3⟩:=mr e2;simp[execOp,ho,hu,Instr.fieldAt,u1,q1,Instr.sureAddr,fieldPlace,q2,aW hT e3,hz,q3,cG]
 split at h
 ·rename_i hd of;split at h;case h_2=>exact h.elim
  rename_i b eb;refine LOk.pure _ _ h (by simpa using eb) fun g w m' ρ hm hrd hev=>?_;obtain⟨l,g1,g2⟩:=hm.blk hd b (hrd (hd,b) JX);have hr:=hev _ _ hx;cases b with
  |cells t l'=>
   obtain⟨k,_,rfl,_⟩:=g2;exact⟨_,hrun ρ w _ _ (hr.ptr_inv g1),.ptr g1⟩
  |map kd es=>
   obtain⟨k,_,_,rfl,_⟩:=g2;exact⟨_,hrun ρ w _ _ (hr.ptr_inv g1),.ptr g1⟩
  |mpa kd es=>
   obtain⟨k,_,_,rfl,_⟩:=g2;exact⟨_,hrun ρ w _ _ (hr.ptr_inv g1),.ptr g1⟩
  |itr h0 n seen=>
   obtain⟨k,_,rfl,_⟩:=g2;exact⟨_,hrun ρ w _ _ (hr.ptr_inv g1),.ptr g1⟩
  |vec e n B rows=>
   generalize hv:ρ x=v at hr;cases hr with
   |ptrD e=>rw[g1] at e;cases e
   |ptr e=>exact⟨_,hrun ρ w _ _ hv,.ptr e⟩
  |own n B rows ln=>
   generalize hv:ρ x=v at hr;cases hr with
   |ptrD e=>rw[g1] at e;cases e
   |ptr e=>exact⟨_,hrun ρ w _ _ hv,.ptr e⟩
  |fns e B h0 fs=>
   generalize hv:ρ x=v at hr;cases hr with
   |ptrD e=>rw[g1] at e;cases e
   |ptr e=>exact⟨_,hrun ρ w _ _ hv,.ptr e⟩
 ·rename_i hd n i of;split at h;case h_2=>exact h.elim
  rename_i b eb;refine LOk.pure _ _ h (by simpa using eb) fun g w m' ρ hm hrd hev=>?_;obtain⟨l,g1,g2⟩:=hm.blk hd b (hrd (hd,b) JX);obtain⟨k,cap,rfl,e5⟩:=(hev _ _ hx).vpt_inv g1;exact⟨_,hrun ρ w _ _ e5,by rw[Hn];exact .vpt g1⟩
 ·rename_i cs;refine LOk.pure _ _ h JX fun g w m' ρ hm hrd hev=>?_;obtain⟨b,of,f',e5,e6,e7,e8⟩:=(hev _ _ hx).ept_inv;refine⟨_,hrun ρ w _ _ e5,.ept (fun j=>f' (off+j)) e6 (fun j hj=>?_) fun j t hj=>?_⟩;·rw[Hn];exact e7 (off+j) (by simp at hj;omega)
  ·rw[GA] at hj;exact e8 _ t hj
 ·exact h.elim
theorem l_field(hT:TOk P T){ty f:Nat}{x:Operand}{a:AV}(ho:o.op=.field ty x f)(hx:ev x=some a)(h:wA T ty f K a):LOk P o m nh ev K:=by
 unfold wA at h;split at h;case h_2=>exact h.elim
 rename_i fs s1 s2 s3 s4 l e1;split at h;case h_2=>exact h.elim
 rename_i ft off e2;split at h;case h_2=>exact h.elim
 rename_i ti e3;have hrun:∀(ρ:Operand->Value)(w:World)(cs:Array Value)(v:Value),ρ x=.agg cs->(part ft cs off).run P w=.ok v w->(execOp ρ o).run P w=.ok (.value v) w:=fun ρ w cs v hu hp=>by obtain⟨u,u1,u2,_⟩:=aI hT e1 w;obtain⟨fds,rfl,rfl⟩:=iR u2;obtain⟨fd,q1,q2,q3⟩:=mr e2;simp[execOp,ho,hu,Instr.field,u1,q1,asAgg,q2,q3,hp]
 have hcells:∀(g:Gh)(w:World)(v:Value),Rep g w v (.agg l)->∃cs,v=.agg cs/\ca g w cs l:=fun g w v hr=>by
  cases hr with
  |agg h1 h2 h3=>exact⟨_,rfl,h1,h2,h3⟩
 cases hag:ti.d.agg with
 |true=>
  rw[hag,r7] at h;cases hle:Nat.ble (off+ti.size) l.length with
  |false=>rw[hle] at h;exact h.elim
  |true=>
   rw[hle] at h;refine LOk.pure _ _ h JX fun g w m' ρ hm hrd hev=>?_;obtain⟨cs,e5,e6⟩:=hcells g w _ (hev _ _ hx);exact⟨_,hrun ρ w cs _ e5 (by simp[part,dy hT e3,hag,aW hT e3]),(e6.drop_take off ti.size).agg⟩
 |false=>
  rw[hag,lh] at h;split at h;case h_2=>exact h.elim
  rename_i a ha;refine LOk.pure _ _ h JX fun g w m' ρ hm hrd hev=>?_;obtain⟨cs,e5,e6⟩:=hcells g w _ (hev _ _ hx);obtain⟨c,c1,c2⟩:=cW e6 ha;exact⟨_,hrun ρ w cs _ e5 (by simp[part,dy hT e3,hag,c1]),c2⟩
end
section
variable {P:Program} {T:Ty} {o:Oper} {m:Mem} {nh:Nat} {ev:Operand->Option AV} {K:KK}
theorem dM{b:AV}{z:Int}(h:mQ b=some z):∃k,b=.tr (.v (.int k z)):=by
 unfold mQ at h;split at h;·cases h;exact⟨_,rfl⟩
 ·cases h
theorem eu{ok:Nat->Prop}{w:World}{v:Value}{n B:Nat}{rows:List (List Tr)}(h:RepT ok w v (.lst n B rows)):∃(ao:Option Addr)(cap:Nat)(f:Nat->Nat->Value),v=.slice ao rows.length cap/\rows.length<=cap/\cap<=9223372036854775807/\rows.length*B<=150000000000000/\(ao=none->cap=0) /\
   (∀(i:Nat)(row:List Tr),rows[i]?=some row->row.length=n/\∃b o:Nat,ao=some ⟨b,o,none⟩/\ok b/\∀j,j<n->w.cell? ⟨b,o+i*n+j,none⟩=some (f i j)) /\
   (∀(i:Nat)(row:List Tr)(j:Nat)(t:Tr),rows[i]?=some row->row[j]?=some t->RepT ok w (f i j) t):=by
 cases h with
 |lst f h1 h2 h3 h4 h5 h6 h7=>subst h1;exact⟨_,_,f,rfl,h2,h3,h4,h5,h6,h7⟩
theorem jr(hT:TOk P T){ty:Nat}{x i:Operand}{a:AV}{k:IntKind}{z:Int}(ho:o.op=.indexAddr ty x i)(hx:ev x=some a)(hi:ev i=some (.tr (.v (.int k z))))(h:eT T m ty z K a):LOk P o m nh ev K:=by
 unfold eT at h;split at h
 ·rename_i n B rows;split at h;case h_2=>exact h.elim
  rename_i e s1 s2 s3 s4 e1;split at h;case h_2=>exact h.elim
  rename_i te e2;obtain⟨hn,h0,h1,h⟩:=h;have hlt:z.toNat<rows.length:=JQ;obtain⟨row,hrow⟩:∃row,rows[z.toNat]?=some row:=⟨rows[z.toNat],by simp[hlt]⟩;refine LOk.pure _ _ (h row hrow) JX fun g w m' ρ hm hrd hev=>?_;obtain⟨u,u1,u2,_⟩:=aI hT e1 w;obtain rfl:=aR u2;obtain⟨hz,_⟩:=db (hev _ _ hi);obtain⟨ao,cap,f,hv,q1,q2,q3,q4,q5,q6⟩:=eu (hev _ _ hx).tr_inv;obtain⟨hl,b,of,rfl,hk,hc⟩:=q5 _ row hrow;refine⟨.pointer (some ⟨b,of+z.toNat*n,none⟩),?_,.ept (f z.toNat) hk (fun j hj=>hc j JQ) (fun j t hj=>q6 _ row j t hrow hj)⟩;simp[execOp,ho,hv,hz,Instr.indexAt,asIntOf,u1,h0,h1,aW hT e2,hn,cG]
 ·rename_i hd len;split at h;case h_2=>exact h.elim
  rename_i e s1 s2 s3 s4 e' n B rows e1 em;split at h;case h_2=>exact h.elim
  rename_i te e2;obtain⟨hn,h0,h1,h⟩:=h;refine LOk.pure _ _ h (by simpa using em) fun g w m' ρ hm hrd hev=>?_;obtain⟨u,u1,u2,_⟩:=aI hT e1 w;obtain rfl:=aR u2;obtain⟨hz,_⟩:=db (hev _ _ hi);obtain⟨l,g1,g2⟩:=hm.blk hd _ (hrd (hd,.vec e' n B rows) JX);rcases(hev _ _ hx).sl_inv g1 with⟨b,cap,rfl,hle,hv⟩|⟨rfl,rfl,hv⟩
  ·refine⟨.pointer (some ⟨b,z.toNat*n+0,none⟩),?_,.vpt g1⟩;simp[execOp,ho,hv,hz,Instr.indexAt,asIntOf,u1,h0,h1,aW hT e2,hn,cG]
  ·omega
 ·rename_i hd off;split at h;case h_2=>exact h.elim
  rename_i k' e s1 s2 s3 s4 b e1 em;split at h;case h_2=>exact h.elim
  rename_i te e2;obtain⟨h0,h1,h⟩:=h;refine LOk.pure _ _ h (by simpa using em) fun g w m' ρ hm hrd hev=>?_;obtain⟨u,u1,u2,_⟩:=aI hT e1 w;obtain rfl:=jR u2;obtain⟨hz,_⟩:=db (hev _ _ hi);obtain⟨l,g1,g2⟩:=hm.blk hd _ (hrd (hd,b) JX);have hr:=hev _ _ hx;generalize hv:ρ x=v at hr;cases hr with
  |ptrD e=>rw[g1] at e;cases e
  |ptr e=>
   refine⟨_,?_,.ptr e⟩;simp[execOp,ho,hv,hz,Instr.indexAt,asIntOf,u1,h0,h1,aW hT e2,cG,Instr.sureAddr]
 ·exact h.elim
theorem Cd(hT:TOk P T){ty:Nat}{x i:Operand}{a:AV}{k:IntKind}{z:Int}(ho:o.op=.index ty x i)(hx:ev x=some a)(hi:ev i=some (.tr (.v (.int k z))))(h:vT T ty z K a):LOk P o m nh ev K:=by
 unfold vT at h;split at h
 ·rename_i s;split at h;case h_2=>exact h.elim
  rename_i s1 s2 s3 s4 e1;obtain⟨h0,h1,h⟩:=h;have hlt:z.toNat<s.size:=JQ;obtain⟨c,hc⟩:∃c,s[z.toNat]?=some c:=⟨s[z.toNat],by simp[hlt]⟩;refine LOk.pure _ _ (h c hc) JX fun g w m' ρ hm hrd hev=>?_;obtain⟨u,u1,u2,_⟩:=aI hT e1 w;obtain rfl:=cR u2;obtain⟨hz,_⟩:=db (hev _ _ hi);obtain⟨hv,_⟩:=al (hev _ _ hx);refine⟨.int .u8 c.toNat,?_,.tr (.v ⟨by simp[IntKind.min,IntKind.signed],?_⟩)⟩;·simp[execOp,ho,hv,hz,Instr.index,asIntOf,u1,h0,hc]
  ·have:=c.toNat_lt;simp[IntKind.max,IntKind.signed,IntKind.bits];omega
 ·rename_i l;split at h;case h_2=>exact h.elim
  rename_i k' e s1 s2 s3 s4 e1;split at h;case h_2=>exact h.elim
  rename_i te e2;obtain⟨h0,h1,h⟩:=h;have hcells:∀(g:Gh)(w:World)(v:Value),Rep g w v (.agg l)->∃cs,v=.agg cs/\ca g w cs l:=fun g w v hr=>by
   cases hr with
   |agg h1 h2 h3=>exact⟨_,rfl,h1,h2,h3⟩
  have hrun:∀(ρ:Operand->Value)(w:World)(cs:Array Value)(v:Value),ρ x=.agg cs->ρ i=.int k z->(part e cs (z.toNat*te.size)).run P w=.ok v w->(execOp ρ o).run P w=.ok (.value v) w:=fun ρ w cs v hu hz hp=>by obtain⟨u,u1,u2,_⟩:=aI hT e1 w;obtain rfl:=jR u2;simp[execOp,ho,hu,hz,Instr.index,asIntOf,u1,h0,h1,aW hT e2,hp]
  cases hag:te.d.agg with
  |true=>
   rw[hag,r7] at h;obtain⟨hle,h⟩:=h;refine LOk.pure _ _ h JX fun g w m' ρ hm hrd hev=>?_;obtain⟨cs,e5,e6⟩:=hcells g w _ (hev _ _ hx);exact⟨_,hrun ρ w cs _ e5 (db (hev _ _ hi)).1 (by simp[part,dy hT e2,hag,aW hT e2]),(e6.drop_take _ te.size).agg⟩
  |false=>
   rw[hag,lh] at h;obtain⟨hs,hl,h⟩:=h;refine LOk.pure _ _ (h l[z.toNat] (by simp[hl])) JX fun g w m' ρ hm hrd hev=>?_;obtain⟨cs,e5,e6⟩:=hcells g w _ (hev _ _ hx);obtain⟨c,c1,c2⟩:=cW e6 (show l[z.toNat]?=some l[z.toNat] by simp[hl]);exact⟨_,hrun ρ w cs _ e5 (db (hev _ _ hi)).1 (by simp[part,dy hT e2,hag,hs,c1]),c2⟩
 ·exact h.elim
theorem wrap_in(k:IntKind)(n:Int):k.min<=k.wrap n/\k.wrap n<=k.max:=by
 cases k<;>simp only[IntKind.wrap,IntKind.min,IntKind.max,IntKind.signed,IntKind.bits,I6,GS,G9,IJ,I9,Nat.reduceSub,Int.reducePow]
 all_goals first
  |omega
  | (split
     ·rename_i h;have:=of_decide_eq_true h;omega
     ·rename_i h;have:¬ _:=fun e=>h (GC e);omega)
theorem CB{k:IntKind}{a b:Int}(ha:k.min<=a/\a<=k.max):k.min<=a.tmod b/\a.tmod b<=k.max:=by
 have h0:k.min<=0/\0<=k.max:=by cases k<;>decide
 rcases Int.le_total 0 a with h|h
 ·have h1:=Int.tmod_nonneg b h;have h2:a.tmod b<=a:=by
   have:=Int.natAbs_tmod a b;have:=Ir a.natAbs b.natAbs;omega
  omega
 ·have h1:a.tmod b<=0:=by
   have:=Int.tmod_nonneg b (a:=-a) JQ;rw[Int.neg_tmod] at this;omega
  have:=Int.natAbs_tmod a b;have:=Ir a.natAbs b.natAbs;omega
theorem Dj{k:IntKind}{a:Int}{n:Nat}(ha:k.min<=a/\a<=k.max):k.min<=a.fdiv (2^n)/\a.fdiv (2^n)<=k.max:=by
 have h0:k.min<=0/\0<=k.max:=by cases k<;>decide
 have hp:(1:Int)<=2^n:=by have:=Int.pow_pos (n:=2) (m:=n) JQ;omega
 have e:a.fdiv (2^n)=a / 2^n:=by rw[Int.fdiv_eq_ediv_of_nonneg _ JQ]
 rw[e];rcases Int.le_total 0 a with h|h
 ·have h1:0<=a / 2^n:=Int.ediv_nonneg h JQ;have h2:a / 2^n<=a:=Int.ediv_le_self _ h;omega
 ·have h1:a / 2^n<=0:=by
   have:=Int.ediv_le_ediv (a:=a) (b:=0) (c:=2^n) JQ h;simpa using this
  have h2:a<=a / 2^n:=by rw[Int.le_ediv_iff_mul_le JQ];have:a*2^n<=a*1:=Int.mul_le_mul_of_nonpos_left h hp;omega
  omega
theorem bu(hT:TOk P T){t:Nat}{d:D}(h:dOf T t=some d):∃u,P.underlying t=some u/\D.of u=d:=by
 unfold dOf at h;split at h
 ·rename_i i e;cases h;obtain⟨_,u,_,_,h2,h3,_⟩:=hT.info e;exact⟨u,h2,h3⟩
 ·cases h
theorem ny{u:TypeDesc}(h:D.of u=.bool):u=.bool:=by cases u<;>first|(cases h;done)|rfl
theorem zw(hT:TOk P T){op:BinOp}{x y v:Value}{c:Option Prop}{t:TypeId}(h:E4 (dOf T t) op x y=some (c,v))(hc:∀p,c=some p->p)(hx:oy x)(hy:oy y)(xo yo:Operand)(w:World):
  (do eqGuard op t xo yo x y;binOp op t x y:Sem Value).run P w=.ok v w/\oy v:=by
 unfold E4 at h;split at h
 ·rename_i k a k' b;split at h
  ·cases h;have:=hc _ rfl;refine⟨?_,wrap_in _ _⟩;simp[eqGuard,binOp,Op.shift,Int.not_lt.2 this]
  ·cases h;have:=hc _ rfl;refine⟨?_,Dj hx⟩;simp[eqGuard,binOp,Op.shift,Int.not_lt.2 this]
  ·rename_i op hn1 hn2;by_cases hk:k=k'
   ·subst hk;rw[Gw rfl] at h;split at h;case h_4=>cases h;have:=hc _ rfl;exact⟨by simp[eqGuard,binOp,Op.intDiv,this],wrap_in _ _⟩
    case h_5=>cases h;have:=hc _ rfl;exact⟨by simp[eqGuard,binOp,Op.intDiv,this],CB hx⟩
    all_goals first
     |(cases h;exact⟨by simp[eqGuard,binOp,Op.intArith,Op.intBits,Op.intCmp],by first|exact wrap_in _ _|trivial⟩)
     |cases h
   ·rw[GN hk] at h;cases h
 ·rename_i a b;split at h
  ·cases h;have hs:=hc _ rfl;refine⟨?_,by show(a++b).size<=_;rw[ByteArray.size_append];exact hs⟩;have:¬ ((a.size+b.size:Nat):Int) > IntKind.i64.max:=by
    simp only[IntKind.max,IntKind.signed,IntKind.bits,I6,Nat.reduceSub,Int.reducePow];omega
   simp only[eqGuard,binOp,Op.stringOp];rw[GN this];rfl
  ·cases h;exact⟨by simp[eqGuard,binOp,Op.stringOp],trivial⟩
  ·cases h;exact⟨by simp[eqGuard,binOp,Op.stringOp],trivial⟩
  ·cases h
 ·rename_i a b;split at h
  ·rename_i e;obtain⟨u,u1,u2⟩:=bu hT e;obtain rfl:=ny u2;cases h;exact⟨by simp[eqGuard,run_eql_bool w t a b u1],trivial⟩
  ·rename_i e;obtain⟨u,u1,u2⟩:=bu hT e;obtain rfl:=ny u2;cases h;exact⟨by simp[eqGuard,run_neq_bool w t a b u1],trivial⟩
  ·cases h
 ·cases h
theorem l_binOp(hT:TOk P T){op:BinOp}{ty ty2:Nat}{x y:Operand}{a b v:Value}{c:Option Prop}(ho:o.op=.binOp op ty x y ty2)(hx:ev x=some (.tr (.v a)))(hy:ev y=some (.tr (.v b)))
  (h:E4 (dOf T ty) op a b=some (c,v)) (hK:under c (K (.tr (.v v)) [] [])):LOk P o m nh ev K:=by
 have hc:∀p,c=some p->p:=fun p e=>by subst e;exact hK.1
 have hK:K (.tr (.v v)) [] []:=by cases c with|none=>exact hK|some p=>exact hK.2
 refine LOk.pure _ _ hK JX fun g w m' ρ hm hrd hev=>?_;obtain⟨e1,g1⟩:=al (hev _ _ hx);obtain⟨e2,g2⟩:=al (hev _ _ hy);obtain⟨h1,h2⟩:=zw hT h hc g1 g2 x y w;refine⟨v,?_,.tr (.v h2)⟩;simp only[E9] at h1;simp only[execOp,ho,e1,e2,E9,h1,De,Hj]
theorem l_unOp{op:UnOp}{ty:Nat}{x:Operand}{a v:Value}(ho:o.op=.unOp op ty x)(hx:ev x=some (.tr (.v a)))(h:aun op a=some v)(hK:K (.tr (.v v)) [] []):LOk P o m nh ev K:=by
 refine LOk.pure _ _ hK JX fun g w m' ρ hm hrd hev=>?_;obtain⟨e1,g1⟩:=al (hev _ _ hx);unfold aun at h;split at h
 ·split at h;·cases h;exact⟨_,by simp[execOp,ho,e1,Op.unary,Op.intArith],.tr (.v (wrap_in _ _))⟩
  ·cases h;exact⟨_,by simp[execOp,ho,e1,Op.unary,Op.intBits],.tr (.v (wrap_in _ _))⟩
  ·cases h
 ·split at h;·cases h;exact⟨_,by simp[execOp,ho,e1,Op.unary],.tr (.v trivial)⟩
  ·cases h
 ·cases h
theorem l_convI(hT:TOk P T){s d:Nat}{x:Operand}{k k':IntKind}{n:Int}{i:TyI}{a b:Nat}{z:List Z}{q:Bool}(ho:o.op=.convert s d x)(hs:lk T s=some i)(hd:lk T d=some ⟨.int k,a,b,z,q⟩)(hx:ev x=some (.tr (.v (.int k' n))))
  (hK:K (.tr (.v (.int k (k.wrap n)))) [] []):LOk P o m nh ev K:=by
 refine LOk.pure _ _ hK JX fun g w m' ρ hm hrd hev=>?_;obtain⟨e1,g1⟩:=al (hev _ _ hx);obtain⟨u,u1,u2,_⟩:=aI hT hs w;obtain⟨u',u1',u2',_⟩:=aI hT hd w;obtain rfl:=yc u2';exact⟨.int k (k.wrap n),by simp[execOp,ho,e1,convert,u1,u1',Conv.intToInt],.tr (.v (wrap_in _ _))⟩
theorem l_convS(hT:TOk P T){s d:Nat}{x:Operand}{st:ByteArray}{i:TyI}{a b:Nat}{z:List Z}{q:Bool}(ho:o.op=.convert s d x)(hs:lk T s=some i)(hd:lk T d=some ⟨.string,a,b,z,q⟩)(hx:ev x=some (.tr (.v (.string st))))
  (hK:K (.tr (.v (.string st))) [] []):LOk P o m nh ev K:=by
 refine LOk.pure _ _ hK JX fun g w m' ρ hm hrd hev=>?_;obtain⟨e1,g1⟩:=al (hev _ _ hx);obtain⟨u,u1,u2,_⟩:=aI hT hs w;obtain⟨u',u1',u2',_⟩:=aI hT hd w;obtain rfl:=cR u2';refine⟨.string st,?_,.tr (.v g1)⟩;simp only[execOp,ho,e1,convert,E9,u1,u1',De];cases u<;>simp
theorem l_extract{x:Operand}{i:Nat}{l:List AV}{a:AV}(ho:o.op=.extract x i)(hx:ev x=some (.tup l))(hi:l[i]?=some a)(hK:K a [] []):LOk P o m nh ev K:=by
 refine LOk.pure _ _ hK JX fun g w m' ρ hm hrd hev=>?_;have hr:=hev _ _ hx;generalize hv:ρ x=v at hr;cases hr with
 |tup h1 h2=>
  rename_i cs;have hlt:i<cs.size:=by rw[h1];exact(a9.1 hi).1
  exact⟨cs[i],by simp[execOp,ho,hv,Instr.extract,hlt],h2 i _ _ (by simp[hlt]) hi⟩
theorem jY(hT:TOk P T){t:Nat}(hlt:t<HMod){x:Operand}{a:AV}{i:TyI}(ht:lk T t=some i)(hi:i.d≠.iface)(ho:o.op=.makeInterface t x)(hx:ev x=some a)(hK:K (.ifc t a) [] []):LOk P o m nh ev K:=
 LOk.pure _ _ hK JX fun g w m' ρ hm hrd hev=>by
  obtain⟨u,u1,u2,_⟩:=aI hT ht w;refine⟨.iface t (ρ x),?_,.ifc hlt (hev _ _ hx)⟩;simp only[execOp,ho,Instr.makeInterface,E9,u1,De];cases u with
  |interface ms=>exact absurd u2.symm hi
  |_=>rfl
theorem l_move{x:Operand}{a:AV}(ho:o.op=.move x\/o.op=.assign x)(hx:ev x=some a)(hK:K a [] []):LOk P o m nh ev K:=
 LOk.pure _ _ hK JX fun g w m' ρ hm hrd hev=>⟨_,by rcases ho with ho|ho<;>simp[execOp,ho]<;>rfl,hev _ _ hx⟩
theorem dU(n:Nat)(h:n<=9223372036854775807):oy (.int .i64 n):=by simp[oy,IntKind.min,IntKind.max,IntKind.signed,IntKind.bits];omega
theorem l_len(hT:TOk P T){x:Operand}{t:Nat}{a:AV}(ho:o.op=.call { callee:=.builtin .len,args:=#[x],argTypes:=#[t] })(hx:ev x=some a)(h:Fd T m t K a):LOk P o m nh ev K:=by
 unfold Fd at h;have hrun:∀(ρ:Operand->Value)(w:World)(v:Value),(Builtin.len_ #[t] o.type #[ρ x]).run P w=.ok v w->(execOp ρ o).run P w=.ok (.value v) w:=fun ρ w v e=>by simp[execOp,ho,resolve,invoke,builtin,e]
 split at h
 ·rename_i s;split at h;case h_2=>exact h.elim
  rename_i s1 s2 s3 s4 e1;refine LOk.pure _ _ h JX fun g w m' ρ hm hrd hev=>?_;obtain⟨e2,g2⟩:=al (hev _ _ hx);obtain⟨u,u1,u2,_⟩:=aI hT e1 w;obtain rfl:=cR u2;exact⟨_,hrun ρ w _ (by simp[Builtin.len_,u1,e2];rfl),.tr (.v (dU _ g2))⟩
 ·rename_i q1 l q2;split at h;case h_2=>exact h.elim
  rename_i e s1 s2 s3 s4 e1;refine LOk.pure _ _ h JX fun g w m' ρ hm hrd hev=>?_;obtain⟨e2,g2⟩:=al (hev _ _ hx);obtain⟨u,u1,u2,_⟩:=aI hT e1 w;obtain rfl:=aR u2;obtain⟨rfl,rfl,rfl⟩:=g2;exact⟨_,hrun ρ w _ (by simp[Builtin.len_,u1,e2];rfl),.tr (.v (dU _ JQ))⟩
 ·rename_i n B rows;split at h;case h_2=>exact h.elim
  rename_i e s1 s2 s3 s4 e1;refine LOk.pure _ _ h JX fun g w m' ρ hm hrd hev=>?_;obtain⟨ao,cap,f,hv,q1,q2,q3,_⟩:=eu (hev _ _ hx).tr_inv;obtain⟨u,u1,u2,_⟩:=aI hT e1 w;obtain rfl:=aR u2;exact⟨_,hrun ρ w _ (by simp[Builtin.len_,u1,hv];rfl),.tr (.v (dU _ JQ))⟩
 ·rename_i hd len;split at h;case h_2=>exact h.elim
  rename_i e s1 s2 s3 s4 b e1 em;refine LOk.pure _ _ h (by simpa using em) fun g w m' ρ hm hrd hev=>?_;obtain⟨l,g1,g2⟩:=hm.blk hd b (hrd (hd,b) JX);obtain⟨u,u1,u2,_⟩:=aI hT e1 w;obtain rfl:=aR u2;rcases(hev _ _ hx).sl_inv g1 with⟨b',cap,rfl,hle,hv⟩|⟨rfl,rfl,hv⟩
  ·have hcap:cap<=9223372036854775807:=by
    cases b with
    |cells t l=>obtain⟨_,_,e,_⟩:=g2;cases e
    |map kd es=>obtain⟨_,_,_,e,_⟩:=g2;cases e
    |mpa kd es=>obtain⟨_,_,_,e,_⟩:=g2;cases e
    |itr h0 n seen=>obtain⟨_,_,e,_⟩:=g2;cases e
    |fns e' B h0 fs=>
     obtain⟨_,⟨e,_⟩|⟨b2,cap2,cur,e,_,_,q,_⟩⟩:=g2;·cases e
     ·cases e;exact q
    |vec e' n B rows=>
     obtain⟨_,_,⟨e,_⟩|⟨b2,cap2,cur,e,_,_,q,_⟩⟩:=g2;·cases e
     ·cases e;exact q
    |own n B rows ln=>
     obtain⟨_,_,⟨e,_⟩|⟨b2,cap2,cur,_,_,e,_,_,q,_⟩⟩:=g2;·cases e
     ·cases e;exact q
   exact⟨_,hrun ρ w _ (by simp[Builtin.len_,u1,hv];rfl),.tr (.v (dU _ JQ))⟩
  ·exact⟨_,hrun ρ w _ (by simp[Builtin.len_,u1,hv];rfl),.tr (.v (dU _ JQ))⟩
 ·split at h;case h_2=>exact h.elim
  rename_i n e s1 s2 s3 s4 e1;cases hle:Nat.ble n 9223372036854775807 with
  |false=>rw[hle] at h;exact h.elim
  |true=>
   rw[hle] at h;have hle:=oo hle;refine LOk.pure _ _ h JX fun g w m' ρ hm hrd hev=>?_;obtain⟨u,u1,u2,_⟩:=aI hT e1 w;obtain rfl:=jR u2;have hr:=hev _ _ hx;generalize hv:ρ x=v at hr;cases hr with
   |agg h1 h2 h3=>exact⟨_,hrun ρ w _ (by simp[Builtin.len_,u1,hv];rfl),.tr (.v (dU _ hle))⟩
 ·rename_i q a1 a2;split at h;case h_2=>exact h.elim
  rename_i e s1 s2 s3 s4 e1;cases hc:(Nat.ble (2*HMod) q&&Nat.ble (q-2*HMod) 9223372036854775807) with
  |false=>rw[hc] at h;exact h.elim
  |true=>
   rw[hc,r7] at h;rw[t4] at hc;have hq:=oo hc.1;have hq2:=oo hc.2;refine LOk.pure _ _ h JX fun g w m' ρ hm hrd hev=>?_;obtain⟨u,u1,u2,_⟩:=aI hT e1 w;obtain rfl:=aR u2;have hr:=hev _ _ hx;generalize hv:ρ x=v at hr;cases hr with
   |ifc h1 _=>omega
   |bnd h1 _=>omega
   |psl h1=>
    rename_i len b;have el:2*HMod+len-2*HMod=len:=JQ;rw[el] at hq2 |-
    exact⟨_,hrun ρ w _ (by simp[Builtin.len_,u1,hv];rfl),.tr (.v (dU _ hq2))⟩
 ·exact h.elim
end
section
variable {P:Program} {T:Ty} {o:Oper} {m:Mem} {nh:Nat} {ev:Operand->Option AV} {K:KK}
theorem w8(hT:TOk P T){t:Nat}{i:TyI}(ho:o.op=.alloc t)(ht:lk T t=some i)(hK:K (.ptr nh 0) [] [(nh,some (.cells t (gJ i.zero)))]):LOk P o m nh ev K:=by refine⟨_,_,_,hK,JX,JX,fun g w m' ρ hm hn hrd hev=>?_⟩;obtain⟨z,h1,h2,h3,h4⟩:=fg hT ht w;refine kC.new hm hn (.cells z.cells t) (.blk w.heap.size) (fun b e=>by cases e;rfl) _ (.pointer (some ⟨w.heap.size,0,none⟩)) ?_ (fun _=>⟨_,_,rfl,Hq w _,by rw[h2];exact d5 _ _ _⟩) (.ptr (be ..));simp[execOp,ho,Instr.alloc,h1,newVar,newRow]
theorem CL{t:Nat}{x:Operand}{a:AV}{cs:List AV}(ho:o.op=.box t x)(hx:ev x=some a)(hc:a.cells=some cs)(h1:cs.all AV.one=true)(hK:K (.ptr nh 0) [] [(nh,some (.cells t cs))]):LOk P o m nh ev K:=by refine⟨_,_,_,hK,JX,JX,fun g w m' ρ hm hn hrd hev=>?_⟩;have hg:=bS (w:=w) hm.xlt hn (.cells (ρ x).cells t) (l:=.blk w.heap.size) (fun b e=>by cases e;rfl);refine kC.new hm hn (.cells (ρ x).cells t) (.blk w.heap.size) (fun b e=>by cases e;rfl) _ (.pointer (some ⟨w.heap.size,0,none⟩)) ?_ (fun _=>⟨_,_,rfl,Hq w _,(Rep.cells ((hev _ _ hx).grow hg) hc h1)⟩) (.ptr (be ..));simp[execOp,ho,Instr.box,newVar,newRow]
theorem oi{place:Nat->Option (Nat×Nat)}{i off size:Nat}{v:Value}{cells:Array Value}{rest:List (Nat×Value)}(hp:place i=some (off,size))(hs:v.cells.size=size)(hb:off+size<=cells.size):
  Instr.fill place cells ((i,v)::rest)=Instr.fill place (cells.toList.take off++v.cells.toList++cells.toList.drop (off+v.cells.size)).toArray rest:=by
 obtain⟨g1,g2⟩:=Great.foldl_set off v.cells.toList 0 cells;have e:v.cells.zipIdx.foldl (fun cs (x:Value×Nat)=>cs.setIfInBounds (off+x.2) x.1) cells=(cells.toList.take off++v.cells.toList++cells.toList.drop (off+v.cells.size)).toArray:=by
  have e0:v.cells.zipIdx.foldl (fun cs (x:Value×Nat)=>cs.setIfInBounds (off+x.2) x.1) cells=(v.cells.toList.zipIdx 0).foldl (fun cs (x:Value×Nat)=>cs.setIfInBounds (off+x.2) x.1) cells:=by rw[<-Array.foldl_toList,Array.toList_zipIdx]
  rw[e0];apply Array.ext_getElem?;intro k;rw[g2 k];simp only[He,GH,HR,BQ];by_cases k1:k<off;·rw[GN JQ,v9 (by simp;omega),Ba,Gw k1];simp
  ·rw[wS (by simp;omega),DK,BQ,Hf JQ];by_cases k2:k-off<v.cells.size;·rw[Gw JQ,v9 (by rw[BQ];omega)]
   ·rw[GN JQ,wS (by rw[BQ];omega),GA,BQ,Gx];congr 1;omega
 conv=>lhs;unfold Instr.fill
 simp only[hp];rw[GN (by simp;omega)];rw[<-e]
def ly(ρ:Operand->Value)(ps:List (Nat×Operand)):List (Nat×Value):=ps.map fun p=>(p.1,ρ p.2)
theorem qN{g:Gh}{w:World}{ρ:Operand->Value}{fs:List (Nat×Nat)}{place:Nat->Option (Nat×Nat)}(hp:∀(i ft off:Nat)(ti:TyI),fs[i]?=some (ft,off)->lk T ft=some ti->place i=some (off,ti.size))(hev:∀x b,ev x=some b->Rep g w (ρ x) b):
  ∀(ps:List (Nat×Operand))(l l':List AV)(cells:Array Value),ca g w cells l->uX T fs l (ps.map fun p=>(p.1,ev p.2))=some l'->∃cells',Instr.fill place cells (ly ρ ps)=some cells'/\ca g w cells' l'
 |[],l,l',cells,hc,h=>by cases h;exact⟨cells,rfl,hc⟩
 |(i,x)::ps,l,l',cells,hc,h=>by
  simp only[GO] at h;unfold uX at h;split at h;case h_2=>cases h
  rename_i ft off a e1 e2;split at h;case h_2=>cases h
  rename_i ti cs e3 e4;cases hb:(Nat.beq cs.length ti.size&&cs.all AV.one&&Nat.ble (off+cs.length) l.length) with
  |false=>rw[hb] at h;cases h
  |true=>
   rw[hb,r7] at h;simp only[t4] at hb;obtain⟨⟨c1,c2⟩,c3⟩:=hb;have c1:=xx c1;have c3:=oo c3;have hcs:=(hev x a e2).cells e4 c2;have q1:=hcs.1;have q2:=hc.1;obtain⟨cells',w1,w2⟩:=qN hp hev ps _ l' _ (hc.put hcs off c3) h;refine⟨cells',?_,w2⟩;rw[show ly ρ ((i,x)::ps)=(i,ρ x)::ly ρ ps from rfl,oi (hp i ft off ti e1 e3) JQ JQ];exact w1
theorem qj{g:Gh}{w:World}{ρ:Operand->Value}{size:Nat}(hev:∀x b,ev x=some b->Rep g w (ρ x) b):
  ∀(ps:List (Nat×Operand))(l l':List AV)(cells:Array Value),ca g w cells l->vc size l (ps.map fun p=>(p.1,ev p.2))=some l'->∃cells',Instr.fill (fun i=>some (i*size,size)) cells (ly ρ ps)=some cells'/\ca g w cells' l'
 |[],l,l',cells,hc,h=>by cases h;exact⟨cells,rfl,hc⟩
 |(i,x)::ps,l,l',cells,hc,h=>by
  simp only[GO] at h;unfold vc at h;split at h;case h_2=>cases h
  rename_i a e2;split at h;case h_2=>cases h
  rename_i cs e4;cases hb:(Nat.beq cs.length size&&cs.all AV.one&&Nat.ble (i*size+cs.length) l.length) with
  |false=>rw[hb] at h;cases h
  |true=>
   rw[hb,r7] at h;simp only[t4] at hb;obtain⟨⟨c1,c2⟩,c3⟩:=hb;have c1:=xx c1;have c3:=oo c3;have hcs:=(hev x a e2).cells e4 c2;have q1:=hcs.1;have q2:=hc.1;obtain⟨cells',w1,w2⟩:=qj hev ps _ l' _ (hc.put hcs (i*size) c3) h;refine⟨cells',?_,w2⟩;rw[show ly ρ ((i,x)::ps)=(i,ρ x)::ly ρ ps from rfl,oi (off:=i*size) (size:=size) rfl JQ JQ];exact w1
theorem kQ(hT:TOk P T)(w:World):∀(fds:List Field),(∀f∈fds,(lk T f.type).isSome=true)->∃places:List (Nat×Nat),(fds.mapM fun(f:Field)=>(do pure (f.offset,<-sizeOf f.type):Sem (Nat×Nat))).run P w=.ok places w /\
  ∀(i:Nat)(f:Field)(ti:TyI),fds[i]?=some f->lk T f.type=some ti->places[i]?=some (f.offset,ti.size)
 |[],_=>⟨[],JX,fun i f ti h=>by simp at h⟩
 |f::fds,h=>by
  obtain⟨places,h1,h2⟩:=kQ hT w fds (fun f hf=>h f (by simp[hf]));obtain⟨ti,e⟩:=GV.1 (h f JX);refine⟨(f.offset,ti.size)::places,by simp only[JH,E9,aW hT e,De,Hj,h1],fun i f' ti' q1 q2=>?_⟩;cases i with
  |zero=>simp at q1;subst q1;rw[e] at q2;cases q2;rfl
  |succ i=>exact h2 i f' ti' (by simpa using q1) q2
theorem l_buildS(hT:TOk P T){t:Nat}{ps:Array (Nat×Operand)}{fs:List (Nat×Nat)}{a b:Nat}{z:List Z}{q:Bool}{l:List AV}(ho:o.op=.build t ps)(ht:lk T t=some ⟨.struct fs,a,b,z,q⟩)(hfs:fs.all (fun p=>(lk T p.1).isSome)=true)
  (hf:uX T fs (gJ z) (parts ev ps)=some l) (hK:K (.agg l) [] []):LOk P o m nh ev K:=by
 refine LOk.pure _ _ hK JX fun g w m' ρ hm hrd hev=>?_;obtain⟨u,u1,u2,_⟩:=aI hT ht w;obtain⟨fds,rfl,rfl⟩:=iR u2;obtain⟨zv,z1,z2,z3,z4⟩:=fg hT ht w;obtain⟨places,p1,p2⟩:=kQ hT w fds.toList (fun f hf=>by have:=GQ.1 hfs (f.type,f.offset) (GM.2 ⟨f,hf,rfl⟩);exact this)
 obtain⟨cells',c1,c2⟩:=qN (T:=T) (place:=(places.toArray[·]?)) (fun i ft off ti q1 q2=>by obtain⟨fd,r1,r2,r3⟩:=mr q1;have:=p2 i fd ti (by simpa using r1) (by rw[r2];exact q2);rw[r3] at this;simpa using this) hev ps.toList _ l _ (d5 g w z) hf
 refine⟨_,?_,c2.agg⟩;have e:(Array.map (fun x=>(x.fst,ρ x.snd)) ps).toList=ly ρ ps.toList:=by simp[ly]
 simp only[execOp,ho,Instr.build,E9,z1,De,u1,Jo,Sem.run_map,p1,Hj,z2];rw[e,c1];rfl
theorem l_buildA(hT:TOk P T){t n e:Nat}{te:TyI}{ps:Array (Nat×Operand)}{a b:Nat}{z:List Z}{q:Bool}{l:List AV}(ho:o.op=.build t ps)(ht:lk T t=some ⟨.array n e,a,b,z,q⟩)(he:lk T e=some te)
  (hf:vc te.size (gJ z) (parts ev ps)=some l) (hK:K (.agg l) [] []):LOk P o m nh ev K:=by
 refine LOk.pure _ _ hK JX fun g w m' ρ hm hrd hev=>?_;obtain⟨u,u1,u2,_⟩:=aI hT ht w;obtain rfl:=jR u2;obtain⟨zv,z1,z2,z3,z4⟩:=fg hT ht w;obtain⟨cells',c1,c2⟩:=qj hev ps.toList _ l _ (d5 g w z) hf;refine⟨_,?_,c2.agg⟩;have e:(Array.map (fun x=>(x.fst,ρ x.snd)) ps).toList=ly ρ ps.toList:=by simp[ly]
 simp only[execOp,ho,Instr.build,E9,z1,De,u1,Hj,z2,aW hT he];rw[e,c1];rfl
theorem nS{g:Gh}{w:World}{ρ:Operand->Value}{size:Nat}(hev:∀x b,ev x=some b->Rep g w (ρ x) b):∀(ps:List (Nat×Operand))(k:Nat)(rows:List (List Tr)),mY size k (ps.map fun p=>(p.1,ev p.2))=some rows ->
  ly ρ ps=((ps.map fun p=>ρ p.2).zipIdx k).map (fun x=>(x.2,x.1))/\rows.length=ps.length/\(∀v∈ps.map (fun p=>ρ p.2),v.cells.size=size)/\(∀r∈rows,r.length=size) /\
   ∀(i:Nat)(t:Tr),rows.flatten[i]?=some t->∃c,((ps.map fun p=>ρ p.2).flatMap fun v=>v.cells.toList)[i]?=some c/\RepT (okB g w) w c t
 |[],k,rows,h=>by cases h;exact⟨rfl,rfl,JX,JX,fun i t h=>by simp at h⟩
 |(i,x)::ps,k,rows,h=>by
  simp only[GO] at h;unfold mY at h;cases hb:Nat.beq i k with
  |false=>rw[hb] at h;cases h
  |true=>
   rw[hb,r7] at h;have hik:=xx hb;subst hik;split at h;case h_2=>cases h
   rename_i a e1;split at h;case h_2=>cases h
   rename_i cs e2;cases hb2:Nat.beq cs.length size with
   |false=>rw[hb2] at h;cases h
   |true=>
    rw[hb2,r7] at h;have hcs:=xx hb2;split at h;case h_2=>cases h
    rename_i l e3;cases h;obtain⟨h1,h2,h3,h4,h5⟩:=nS hev ps _ l e3;obtain⟨w1,w2⟩:=(hev x a e1).trCells e2;refine⟨?_,by simp[h2],fun v hv=>?_,fun r hr=>?_,fun j t hj=>?_⟩
    ·show(i,ρ x)::ly ρ ps=_;rw[h1];rfl
    ·simp only[GO,F5] at hv;rcases hv with rfl|hv
     ·omega
     ·exact h3 v hv
    ·simp only[F5] at hr;rcases hr with rfl|hr
     ·exact hcs
     ·exact h4 r hr
    ·simp only[GO,Js];rw[Hw] at hj;by_cases k1:j<cs.length
     ·rw[v9 k1] at hj;rw[v9 (by rw[BQ];omega),Gx];exact w2 j t hj
     ·rw[wS JQ] at hj;rw[wS (by rw[BQ];omega),BQ,w1];exact h5 _ t hj
theorem nv(hT:TOk P T){t e len:Nat}{te:TyI}{ps:Array (Nat×Operand)}{a b:Nat}{z:List Z}{q:Bool}{rows:List (List Tr)}(ho:o.op=.buildSlice t len ps)(ht:lk T t=some ⟨.slice e,a,b,z,q⟩)(he:lk T e=some te)
  (hr:mY te.size 0 (parts ev ps)=some rows) (hl:rows.length=len) (h1:1<=te.size) (h2:len*te.size<=16777216) (h3:len*te.bytes<=140737488351232) (hK:K (.sl nh len) [] [(nh,some (.vec e te.size te.bytes rows))]):LOk P o m nh ev K:=by
 refine⟨_,_,_,hK,JX,JX,fun g w m' ρ hm hn hrd hev=>?_⟩;obtain⟨ti,u,zt,_,u2,u3,_⟩:=hT.info ht;obtain rfl:=aR u3;obtain⟨ti',u',z',i1,_,_,i4,_,i6,i7,i8⟩:=hT.info he;obtain⟨q1,q2,q3,q4,q5⟩:=nS hev ps.toList 0 rows hr;have e1:(Array.map (fun x=>(x.fst,ρ x.snd)) ps).toList=ly ρ ps.toList:=by simp[ly]
 by_cases h00:len=0
 ·subst h00;obtain rfl:rows=[]:=GF hl;have hps:ps.toList=[]:=GF q2.symm;obtain rfl:ps = #[]:=Array.toList_inj.1 hps;have hrun0:(Instr.buildSlice t 0 #[]).run P w=.ok (.slice (some ⟨w.heap.size,0,none⟩) 0 0) (w.alloc (.cells #[] e)):=by
   simp[Instr.buildSlice,GP u2,sizeOf,typeInfo,i1,newRow,Instr.fill];rw[show Array.range 0 = #[] from I0 JX,Array.map_empty]
  refine kC.new hm hn (.cells #[] e) (.row w.heap.size 0) (fun b e=>by cases e;rfl) _ (.slice (some ⟨w.heap.size,0,none⟩) 0 0) ?_ (fun _=>⟨JX,JQ,.inr ⟨_,0,#[],rfl,Hq w _,JX,JQ,JX,JX,fun i t hi=>by simp at hi⟩⟩) (.sl (be ..) (t9 _));simp only[execOp,ho,List.map_toArray,Kg,Array.map_empty,E9,hrun0,De];rfl
 have h0:1<=len:=JQ;have hpos:0<len*te.size:=Nat.mul_pos JQ JQ;have hz:=(bd i7).1;have hfl:=Great.fill_whole (s:=te.size) JQ (ps.toList.map fun p=>ρ p.2) ((Array.range (len*te.size)).map (z'.cells[· % z'.cells.size]!)) q3 (by simp;rw[<-hl,q2];simp);have hrun:=run_buildSlice (P:=P) w t e len (Array.map (fun x=>(x.fst,ρ x.snd)) ps) _ ti' z' u2 i1 i6 (by rw[i4];omega) (by rw[i4];omega) (by rw[i4,e1,q1];exact hfl);have hloc:∀b,Loc.b (.row w.heap.size len)=some b->b=w.heap.size:=fun b e=>by cases e;rfl
 have hg:=bS (w:=w) hm.xlt hn (.cells ((ps.toList.map fun p=>ρ p.2).flatMap fun v=>v.cells.toList).toArray e) hloc;have hm63:len<=9223372036854775807:=by have:len*1<=len*te.size:=H4 _ h1;omega
 have hsz:((ps.toList.map fun p=>ρ p.2).flatMap fun v=>v.cells.toList).length=len*te.size:=by
  have:∀(l:List Value),(∀v∈l,v.cells.size=te.size)->(l.flatMap fun v=>v.cells.toList).length=l.length*te.size:=by
   intro l hl;induction l with
   |nil=>simp
   |cons v l ih=>rw[Js,uR,BQ,hl v JX,ih (fun v hv=>hl v (by simp[hv])),E0,G4];omega
  rw[this _ q3,<-hl,q2];simp
 generalize ((ps.toList.map fun p=>ρ p.2).flatMap fun v=>v.cells.toList)=cl at *
 refine kC.new hm hn (.cells cl.toArray e) (.row w.heap.size len) hloc _ (.slice (some ⟨w.heap.size,0,none⟩) len len) ?_ (fun _=>⟨by rw[hl];omega,JQ,.inr ⟨_,len,cl.toArray,rfl,Hq w _,JQ,hm63,by simpa using hsz,q4,fun i t hi=>?_⟩⟩) (.sl (be ..) (t9 _))
 ·simp only[execOp,ho,E9,hrun,De];rfl
 ·obtain⟨c,c1,c2⟩:=q5 i t hi;exact⟨c,by simpa using c1,c2.grow hg⟩
theorem l_nilCheckP{x:Operand}{hd off:Nat}{b:Blk}(ho:o.op=.nilCheck x)(hx:ev x=some (.ptr hd off))(hb:m hd=some b)(hK:K (.ptr hd off) [(hd,b)] []):LOk P o m nh ev K:=by
 refine LOk.pure _ _ hK (by simpa using hb) fun g w m' ρ hm hrd hev=>?_;obtain⟨l,g1,g2⟩:=hm.blk hd b (hrd (hd,b) JX);have hr:=hev _ _ hx;generalize hv:ρ x=v at hr;have hr':=hr;cases hr with
 |ptrD e=>rw[g1] at e;cases e
 |ptr e=>exact⟨_,by simp[execOp,ho,hv],hr'⟩
theorem l_nilCheckV{x:Operand}{hd n i off:Nat}{b:Blk}(ho:o.op=.nilCheck x)(hx:ev x=some (.vpt hd n i off))(hb:m hd=some b)(hK:K (.vpt hd n i off) [(hd,b)] []):LOk P o m nh ev K:=by refine LOk.pure _ _ hK (by simpa using hb) fun g w m' ρ hm hrd hev=>?_;obtain⟨l,g1,g2⟩:=hm.blk hd b (hrd (hd,b) JX);have hr:=hev _ _ hx;obtain⟨b',cap,_,e⟩:=hr.vpt_inv g1;exact⟨_,by simp[execOp,ho,e],e ▸ hr⟩
theorem l_nilCheckE{x:Operand}{cs:List Tr}(ho:o.op=.nilCheck x)(hx:ev x=some (.ept cs))(hK:K (.ept cs) [] []):LOk P o m nh ev K:=by refine LOk.pure _ _ hK JX fun g w m' ρ hm hrd hev=>?_;have hr:=hev _ _ hx;obtain⟨b,of,f,e,_⟩:=hr.ept_inv;exact⟨ρ x,by simp[execOp,ho,e],hr⟩
theorem l_nilCheckF{x:Operand}{f:Nat}{l:List AV}(ho:o.op=.nilCheck x)(hx:ev x=some (.fn f l))(hK:K (.fn f l) [] []):LOk P o m nh ev K:=by
 refine LOk.pure _ _ hK JX fun g w m' ρ hm hrd hev=>?_;have hr:=hev _ _ hx;generalize hv:ρ x=v at hr;have hr':=hr;cases hr with
 |fn h1 h2=>exact⟨_,by simp[execOp,ho,hv],hr'⟩
theorem kW{g:Gh}{w:World}{ρ:Operand->Value}(hev:∀x b,ev x=some b->Rep g w (ρ x) b):∀(xs:List Operand)(l:List AV),evs ev xs=some l->(xs.map ρ).length=l.length/\∀(i:Nat)(c:Value)(a:AV),(xs.map ρ)[i]?=some c->l[i]?=some a->Rep g w c a
 |[],l,h=>by cases h;exact⟨rfl,fun i c a h=>by simp at h⟩
 |x::r,l,h=>by
  unfold evs at h;split at h
  ·rename_i a l' e1 e2;cases h;obtain⟨h1,h2⟩:=kW hev r l' e2;refine⟨by simpa using h1,fun i c b q1 q2=>?_⟩;cases i with
   |zero=>simp at q1 q2;subst q1;subst q2;exact hev _ _ e1
   |succ i=>exact h2 i c b (by simpa using q1) (by simpa using q2)
  ·cases h
theorem l_makeFunc{f:Nat}{fs cs:Array Operand}{l:List AV}(ho:o.op=.makeFunc (.func f) fs cs)(hf:fs.size=0)(hl:evs ev cs.toList=some l)(hK:K (.fn f l) [] []):LOk P o m nh ev K:=by refine LOk.pure _ _ hK JX fun g w m' ρ hm hrd hev=>?_;obtain⟨h1,h2⟩:=kW hev _ _ hl;have:fs = #[]:=I0 hf;subst this;refine⟨.func (.func f) #[] (cs.map ρ),?_,.fn (by simpa using h1) fun i c a q1 q2=>h2 i c a (by simpa using q1) q2⟩;simp[execOp,ho,Instr.makeFunc]
theorem pQ{f:Nat}(hf:f<HMod){x:Operand}{a:AV}(ho:o.op=.makeFunc (.func f) #[x] #[])(hx:ev x=some a)(hK:K (.ifc (HMod+f) a) [] []):LOk P o m nh ev K:=
 LOk.pure _ _ hK JX fun g w m' ρ hm hrd hev=>⟨.func (.func f) #[ρ x] #[],by simp[execOp,ho,Instr.makeFunc],.bnd hf (hev _ _ hx)⟩
theorem gP{g:Gh}{w:World}{m m':Mem}(hm:MSt g w m'){n:Nat}(hn:0<n){y:AV}{v:Value}{news:List (List Tr)}{rd:List (Nat×Blk)}(h:dP n m y=some (news,rd))(hrd:∀p∈rd,m' p.1=some p.2)(hv:Rep g w v y):
  (∀r∈news,r.length=n)/\∃(ao:Option Addr)(c:Nat)(cl:List Value),v=.slice ao news.length c/\cl.length=news.length*n/\(∀(j:Nat)(u:Value),cl[j]?=some u->∃b o,ao=some ⟨b,o,none⟩/\w.cell? ⟨b,o+j,none⟩=some u) /\
   ∀(j:Nat)(t:Tr),news.flatten[j]?=some t->∃u,cl[j]?=some u/\RepT (okB g w) w u t:=by
 unfold dP at h;split at h
 ·cases h;obtain⟨rfl,_⟩:=al hv;exact⟨JX,none,0,[],rfl,JX,JX,JX⟩
 ·rename_i n' B rows;cases hb:Nat.beq n n' with
  |false=>rw[hb] at h;cases h
  |true=>
   rw[hb,r7] at h;cases h;have:=xx hb;subst this;obtain⟨ao,cap,f,rfl,q1,q2,q3,q4,q5,q6⟩:=eu hv.tr_inv;have hrl:∀r∈news,r.length=n:=fun r hr=>by obtain⟨i,hi⟩:=Gv.1 hr;exact(q5 i r hi).1
   refine⟨hrl,ao,cap,((List.range (news.length*n)).map fun k=>f (k / n) (k % n)),rfl,JX,fun j u hj=>?_,fun j t hj=>?_⟩
   ·simp only[z5,z9] at hj;obtain⟨k,hk,rfl⟩:=hj;have hlt:j<news.length*n:=by have:=(a9.1 hk).1;simpa using this
    rw[GZ hlt] at hk;cases hk;have hd:j / n<news.length:=Ja (by rw[Jf];exact hlt);obtain⟨_,b,o,e,_,hc⟩:=q5 (j / n) news[j / n] (by simp[hd]);refine⟨b,o,e,?_⟩;rw[<-hc (j % n) (Nat.mod_lt _ hn)];congr 2;have:=Nat.div_add_mod j n;rw[Jf] at this;omega
   ·have hlt:j<news.length*n:=by have:=(a9.1 hj).1;rwa [bC news hrl] at this
    have hd:j / n<news.length:=Ja (by rw[Jf];exact hlt);refine⟨f (j / n) (j % n),by simp[GZ hlt],q6 (j / n) news[j / n] _ t (by simp[hd]) ?_⟩;have hfl:∀(rows:List (List Tr))(j:Nat),(∀r∈rows,r.length=n)->rows.flatten[j]?=(rows[j / n]?).bind fun r=>r[j % n]? :=by
     intro rows;induction rows with
     |nil=>intro j _;simp
     |cons r rs ih=>
      intro j hr;have hr0:=hr r JX;rw[Hw];by_cases k1:j<n;·rw[v9 JQ,Nat.div_eq_of_lt k1,Ht k1];rfl
      ·rw[wS JQ,hr0,ih (j-n) (fun r h=>hr r (by simp[h]))];have e1:j / n=(j-n) / n+1:=by
        rw[<-Nat.sub_add_cancel (JQ:n<=j),Nat.add_div_right _ hn];simp
       have e2:j % n=(j-n) % n:=by rw[Nat.mod_eq_sub_mod JQ]
       rw[e1,e2];rfl
    rw[hfl news j hrl] at hj;simpa[hd] using hj
 ·rename_i hd len;split at h;case h_2=>cases h
  rename_i e n' B rows em;cases hb:(Nat.beq n n'&&Nat.ble len rows.length) with
  |false=>rw[hb] at h;cases h
  |true=>
   rw[hb,r7] at h;cases h;simp only[t4] at hb;have:=xx hb.1;have hle:=oo hb.2;subst this;obtain⟨l,g1,g2⟩:=hm.blk hd _ (hrd (hd,.vec e n B rows) JX);have g2':=g2;obtain⟨_,_,⟨rfl,rfl⟩|⟨b,cap,cur,rfl,e1,e2,e3,e4,e5,e6⟩⟩:=g2'
   ·rcases hv.sl_inv g1 with⟨b,cap,e0,_,_⟩|⟨_,rfl,rfl⟩
    ·cases e0
    ·exact⟨JX,none,0,[],rfl,JX,JX,JX⟩
   ·rcases hv.sl_inv g1 with⟨b',cap',e0,e7,rfl⟩|⟨e0,_,_⟩
    ·cases e0;have hlt:(rows.take len).length=len:=by rw[DK];omega
     have hcs:len*n<=cur.size:=by rw[e4];exact Eb _ JQ
     have hpre:∀j,j<len*n->rows.flatten[j]?=(rows.take len).flatten[j]? :=fun j hj=>by
      conv=>lhs;rw[<-IX len rows,IB]
      rw[v9];rw[bC _ (fun r hr=>e5 r (G2 hr)),hlt];exact hj
     refine⟨fun r hr=>e5 r (G2 hr),some ⟨b,0,none⟩,cap,cur.toList.take (len*n),by rw[hlt],by rw[hlt,DK,BQ];omega,fun j u hj=>⟨b,0,rfl,?_⟩,fun j t hj=>?_⟩
     ·rw[aD e1,E7];rw[Ba] at hj;split at hj;·simpa using hj
      ·cases hj
     ·have hj':j<len*n:=by
       have:=(a9.1 hj).1
       rwa [bC _ (fun r hr=>e5 r (G2 hr)),hlt] at this
      obtain⟨c,c1,c2⟩:=e6 j t (by rw[hpre j hj'];exact hj);exact⟨c,by rw[Ba,Gw hj'];simpa using c1,c2⟩
    ·cases e0
 ·cases h
theorem FA{need old bytes:Nat}(h:old<need)(hb:need*bytes<=150000000000000)(h4:bytes<=4096):Builtin.nextslicecap need old*bytes<=281474976710656:=by
 refine growslice_fits_wide h ?_;have h1:need / 4*bytes*4<=need*bytes:=by rw[Nat.mul_right_comm];exact Eb _ (Nat.div_mul_le_self _ _)
 rw[Id,Id];omega
theorem jF(hT:TOk P T){w:World}{t e ty:Nat}{te:TyI}{a b:Nat}{z:List Z}{q:Bool}(ht:lk T t=some ⟨.slice e,a,b,z,q⟩)(he:lk T e=some te)(hn:1<=te.size)
  {k n cap e0:Nat} {cur:Array Value} (hk:w.heap[k]?=some (.cells cur e0 (0,0))) (hnc:n<=cap) (hcm:cap<=9223372036854775807) (hcs:cur.size=cap*te.size) {b2 o2 mm c:Nat} {cl:List Value} (hl:cl.length=mm*te.size)
  (hc:∀(j:Nat)(u:Value),cl[j]?=some u->w.cell? ⟨b2,o2+j,none⟩=some u) (h1:∀u∈cl,u.oneCell'=true) (h63:n+mm<=9223372036854775807) (hB:(n+mm)*te.bytes<=150000000000000) :
  ∃w' k' cap' cur' e',(Builtin.append_ #[t,t] ty #[.slice (some ⟨k,0,none⟩) n cap,.slice (some ⟨b2,o2,none⟩) mm c]).run P w=.ok (.slice (some ⟨k',0,none⟩) (n+mm) cap') w'/\w.grownBy w' (some k) /\
   w'.heap[k']?=some (.cells cur' e' (0,0))/\n+mm<=cap'/\cap'<=9223372036854775807/\cur'.size=cap'*te.size/\(∀i,i<n*te.size->cur'[i]?=cur[i]?)/\(∀(j:Nat)(u:Value),cl[j]?=some u->cur'[n*te.size+j]?=some u)/\(k'=k\/k'=w.heap.size)/\(e'=e0\/e'=e):=by
 obtain⟨ti,u,zt,_,u2,u3,_⟩:=hT.info ht;obtain rfl:=aR u3;obtain⟨ti',u',z',i1,_,_,i4,i5,i6,i7,i8⟩:=hT.info he;have hzs:z'.cells.size=te.size:=by rw[(bd i7).1];simpa using i8
 have hnews:∀j u,cl[j]?=some u->w.cell? ((⟨b2,o2,none⟩:Addr).add j)=some u:=fun j u hj=>by rw[cG];exact hc j u hj
 have htk:(cur.toList.take (n*te.size)).length=n*te.size:=by have:n*te.size<=cap*te.size:=Eb _ hnc;simp;omega
 by_cases hroom:n+mm<=cap
 ·have hfit:n*te.size+cl.length<=cur.size:=by rw[hl,hcs,<-Id];exact Eb _ hroom
  have hf:=run_firstCells_some (P:=P) w te.size mm ⟨b2,o2,none⟩ mm c cl hl hnews;have hst:=run_storeCells_at P k (n*te.size) e0 cl 0 cur w hk (by simpa using hfit) h1;simp only[HR] at hst;refine⟨w.setRow k (cur.toList.take (n*te.size)++cl++cur.toList.drop (n*te.size+cl.length)).toArray,k,cap,(cur.toList.take (n*te.size)++cl++cur.toList.drop (n*te.size+cl.length)).toArray,e0,?_,⟨rfl,rfl,rfl,JX,fun i _ hi=>Iw w k i _ (fun q=>hi (by rw[q]))⟩,Jr w k cur _ e0 _ hk,hroom,hcm,?_,fun i hi=>?_,fun j u hj=>?_,JZ,JZ⟩
  ·rw[<-i4] at hf hst;rw[<-i4];simp[Builtin.append_,GP u2,sizeOf,typeInfo,i1,Builtin.lenOf,hroom,hf,Addr.add_lit,hst]
  ·simp only[HV,uR,DK,Hu,BQ];omega
  ·simp only[He,GH];rw[v9 JQ,Ba,Gw hi,Gx]
  ·have hjl:=(a9.1 hj).1;simp only[He,GH];rw[wS JQ,htk,Hy,v9 hjl,hj]
 ·have hxs:∀j u,(cur.toList.take (n*te.size))[j]?=some u->w.cell? ((⟨k,0,none⟩:Addr).add j)=some u:=fun j u hj=>by
   rw[cG,E7,cell_of_row w k j cur e0 (0,0) hk];rw[Ba] at hj;split at hj;·simpa using hj
   ·cases hj
  have hr:=run_append_grow (P:=P) w t ty e ti' z' u2 i1 i6 ⟨k,0,none⟩ n cap (cur.toList.take (n*te.size)) (by rw[i4];exact htk) hxs ⟨b2,o2,none⟩ mm c cl (by rw[i4];exact hl) hnews JQ JQ (by rw[i5];exact FA JQ hB (hT.small he));have hge:=grownCap_ge w (n+mm) cap e;have hcm':grownCap w (n+mm) cap e<=maxLen:=grownCap_le_maxLen w (n+mm) cap e (by simpa[maxLen] using h63);refine⟨_,w.heap.size,_,_,e,hr,⟨rfl,rfl,rfl,JX,fun i hi _=>heap_alloc_old w.drew _ (by exact hi)⟩,Hq w.drew _,hge,by simpa[maxLen] using hcm',?_,fun i hi=>?_,fun j u hj=>?_,.inr rfl,.inr rfl⟩
  ·simp only[Ip,HV,size_zeroCells,hzs,htk,hl,<-Id];congr 1;omega
  ·rw[Array.append_assoc,Hz (by simp only[HV];omega)];simp only[He];rw[Ba,Gw hi,Gx]
  ·have hjl:=(a9.1 hj).1;rw[Array.append_assoc,H6 (by simp only[HV];omega),HV,htk,Hy,Hz (by simpa using hjl)];simpa using hj
theorem sm(hT:TOk P T){w:World}{t e ty:Nat}{te:TyI}{a b:Nat}{z:List Z}{q:Bool}(ht:lk T t=some ⟨.slice e,a,b,z,q⟩)(he:lk T e=some te)(hn:1<=te.size)
  {k n cap e0:Nat} {cur:Array Value} (hk:w.heap[k]?=some (.cells cur e0 (0,0))) (hnc:n<=cap) (hcm:cap<=9223372036854775807) (hcs:cur.size=cap*te.size) {b2 o2 mm c:Nat} {cl:List Value} (hl:cl.length=mm*te.size)
  (hc:∀(j:Nat)(u:Value),cl[j]?=some u->w.cell? ⟨b2,o2+j,none⟩=some u) (h1:∀u∈cl,u.oneCell'=true) (h63:n+mm<=9223372036854775807) (hB:(n+mm)*te.bytes<=150000000000000) :
  ∃w' k' cap' cur' e',(Builtin.append_ #[t,t] ty #[.slice (some ⟨k,0,none⟩) n cap,.slice (some ⟨b2,o2,none⟩) mm c]).run P w=.ok (.slice (some ⟨k',0,none⟩) (n+mm) cap') w'/\w.grownBy w' (some k) /\
   w'.heap[k']?=some (.cells cur' e' (0,0))/\n+mm<=cap'/\cap'<=9223372036854775807/\cur'.size=cap'*te.size/\(∀i,i<n*te.size->cur'[i]?=cur[i]?)/\(∀(j:Nat)(u:Value),cl[j]?=some u->cur'[n*te.size+j]?=some u)/\(k'=k\/k'=w.heap.size):=by
 obtain⟨w',k',cap',cur',e',s1,s2,s3,s4,s5,s6,s7,s8,s9,_⟩:=jF (ty:=ty) (c:=c) hT ht he hn hk hnc hcm hcs hl hc h1 h63 hB;exact⟨w',k',cap',cur',e',s1,s2,s3,s4,s5,s6,s7,s8,s9⟩
theorem fm(hT:TOk P T){g:Gh}{w:World}{t e ty:Nat}{te:TyI}{a b:Nat}{z:List Z}{q:Bool}(ht:lk T t=some ⟨.slice e,a,b,z,q⟩)(he:lk T e=some te)(hn:1<=te.size)
  {v:Value} {n:Nat} {xs:List Value} (hown:w.ownsRow 0 e te.size v n xs) {ao:Option Addr} {mm c:Nat} {cl:List Value} (hl:cl.length=mm*te.size)
  (hc:∀(j:Nat)(u:Value),cl[j]?=some u->∃b o,ao=some ⟨b,o,none⟩/\w.cell? ⟨b,o+j,none⟩=some u) (h1:∀u∈cl,u.oneCell'=true) (h63:n+mm<=9223372036854775807) (hB:(n+mm)*te.bytes<=150000000000000) :
  ∃v' w',(Builtin.append_ #[t,t] ty #[v,.slice ao mm c]).run P w=.ok v' w'/\w'.ownsRow 0 e te.size v' (n+mm) (xs++cl)/\w.grownBy w' v.ownBlock/\(v'.ownBlock=v.ownBlock\/v'.ownBlock=some w.heap.size):=by
 obtain⟨ti,u,zt,_,u2,u3,_⟩:=hT.info ht;obtain rfl:=aR u3;obtain⟨ti',u',z',i1,_,_,i4,i5,i6,i7,i8⟩:=hT.info he;have hzs:z'.cells.size=te.size:=by rw[(bd i7).1];simpa using i8
 by_cases hm:mm=0
 ·subst hm;have:cl=[]:=GF (by simpa using hl);subst this;refine⟨v,w,?_,by simpa using hown,⟨rfl,rfl,rfl,t9 _,fun _ _ _=>rfl⟩,JZ⟩;obtain⟨_,⟨rfl,rfl⟩|⟨k,cap,cur,rfl,_,e1,e2,_⟩⟩:=hown;·cases ao<;>simp[Builtin.append_,GP u2,sizeOf,typeInfo,i1,Builtin.lenOf,Builtin.firstCells,loadCells,loadCellsFrom]
  ·cases ao<;>simp[Builtin.append_,GP u2,sizeOf,typeInfo,i1,Builtin.lenOf,Builtin.firstCells,loadCells,loadCellsFrom,e2,storeCells]
 ·have hpos:0<cl.length:=by rw[hl];exact Nat.mul_pos JQ JQ
  obtain⟨bk,of,rfl,_⟩:=hc 0 cl[0] JX;have hnews:∀j u,cl[j]?=some u->w.cell? ((⟨bk,of,none⟩:Addr).add j)=some u:=fun j u hj=>by obtain⟨b2,o2,q1,q2⟩:=hc j u hj;cases q1;rw[cG];exact q2
  obtain⟨hxl,⟨rfl,rfl⟩|⟨k,cap,cur,rfl,_,k1,k2,k3,k4,k5⟩⟩:=hown
  ·have hx:xs=[]:=GF (by simpa using hxl);subst hx;rw[E7] at hB h63;have hr:=run_append_nil (P:=P) w t ty e ti' z' u2 i1 i6 ⟨bk,of,none⟩ mm c cl (by rw[i4];exact hl) hnews JQ JQ (by rw[i5];omega);have hge:=grownCap_ge w mm 0 e;have hcm:grownCap w mm 0 e<=maxLen:=grownCap_le_maxLen w mm 0 e (by simpa[maxLen] using h63);refine⟨_,_,hr,⟨by simp[hl],.inr ⟨w.heap.size,_,_,by rw[E7],x5 _,Hq w.drew _,by rw[E7];exact hge,hcm,?_,?_⟩⟩,⟨rfl,rfl,rfl,JX,fun k hk _=>heap_alloc_old w.drew _ (by exact hk)⟩,.inr rfl⟩
   ·simp only[Ip,HV,size_zeroCells,hzs,hl,<-Id];congr 1;omega
   ·rw[HA];simp only[Array.toList_append];rw[E7,<-hl];exact List.take_left
  ·obtain⟨w',k',cap',cur',e',s1,s2,s3,s4,s5,s6,s7,s8,s9,s10⟩:=jF (P:=P) (ty:=ty) (c:=c) hT ht he hn k1 k2 (by simpa[maxLen] using k3) k4 hl (fun j u hj=>by have:=hnews j u hj;rwa [cG] at this) h1 h63 hB;obtain rfl:e'=e:=s10.elim id id;have hxs:xs.length<=cur.size:=by rw[hxl,k4];exact Eb _ k2
   refine⟨_,w',s1,⟨by rw[uR,hxl,hl,Id],.inr ⟨k',cap',cur',rfl,x5 _,s3,s4,by simpa[maxLen] using s5,s6,?_⟩⟩,s2,?_⟩
   ·refine GT fun i=>?_;rw[show(n+mm)*te.size=xs.length+cl.length by rw[hxl,hl,Id],Ba];by_cases hi:i<xs.length;·rw[Gw JQ,v9 hi,Gx,s7 i JQ,<-k5,Ba,Gw JQ,Gx]
    ·rw[wS JQ];by_cases hj:i-xs.length<cl.length
     ·rw[Gw JQ,ab hj,Gx];have:=s8 (i-xs.length) _ (ab hj)
      rwa [<-hxl,(JQ:xs.length+(i-xs.length)=i)] at this
     ·rw[GN JQ,yB JQ]
   ·rcases s9 with rfl|rfl
    ·exact .inl rfl
    ·exact .inr rfl
def gapp(g:Gh)(nh:Nat)(l':Loc)(hd:Option Nat):Gh:=⟨fun h=>if h=nh then .live l' else if hd=some h then .dead else g h,g.X,[],fun k b=>(k=nh/\∃h,hd=some h/\g.F h b)\/(k≠nh/\g.F k b)⟩
theorem bK(g:Gh)(nh:Nat)(l':Loc)(hd:Option Nat):gapp g nh l' hd nh=.live l':=by simp[gapp]
theorem b7{g:Gh}{nh:Nat}{l':Loc}{hd:Option Nat}{h:Nat}(h1:h≠nh)(h2:hd≠some h):gapp g nh l' hd h=g h:=by simp[gapp,h1,h2]
theorem D6{g:Gh}{nh:Nat}{l':Loc}{hd:Option Nat}{k:Nat}(h1:k≠nh):(gapp g nh l' hd).F k=g.F k:=by funext b;simp[gapp,h1]
theorem gapp_owns{g:Gh}{nh:Nat}{l':Loc}{hd:Option Nat}{k b:Nat}(h:cd (gapp g nh l' hd) k b):(k=nh/\(l'.b=some b\/∃h,hd=some h/\g.F h b))\/(k≠nh/\hd≠some k/\cd g k b):=by
 obtain⟨l,e1,e2⟩:=h;change(if k=nh then HS.live l' else if hd=some k then HS.dead else g k)=.live l at e1;change l.b=some b\/((k=nh/\∃h,hd=some h/\g.F h b)\/(k≠nh/\g.F k b)) at e2;split at e1
 ·rename_i q;cases e1;refine .inl ⟨q,?_⟩;rcases e2 with e2|⟨_,e2⟩|⟨e2,_⟩
  ·exact .inl e2
  ·exact .inr e2
  ·exact absurd q e2
 ·rename_i q;split at e1;·cases e1
  ·rename_i q2;refine .inr ⟨q,q2,l,e1,?_⟩;rcases e2 with e2|⟨e2,_⟩|⟨_,e2⟩
   ·exact .inl e2
   ·exact absurd e2 q
   ·exact .inr e2
theorem rh{g:Gh}{w:World}{l l':Loc}{hd:Option Nat}(hh:∀h,hd=some h->g h=.live l)(hd0:hd=none->l.b=none)(hl':∀b,l'.b=some b->l.b=some b\/w.heap.size<=b){b:Nat}(h:l'.b=some b\/∃h,hd=some h/\g.F h b):
  (∃h,hd=some h/\cd g h b)\/w.heap.size<=b:=by
 rcases h with h|⟨h,e,h1⟩
 ·rcases hl' b h with e3|e3
  ·cases hd with
   |none=>rw[hd0 rfl] at e3;cases e3
   |some h=>exact .inl ⟨h,rfl,l,hh h rfl,.inl e3⟩
  ·exact .inr e3
 ·exact .inl ⟨h,e,l,hh h e,.inr h1⟩
theorem aM{g:Gh}{w w':World}{m:Mem}(hm:MSt g w m){nh:Nat}(hn:g nh=.un){l l':Loc}{hd:Option Nat}(hh:∀h,hd=some h->g h=.live l)(hw:w.grownBy w' l.b)(hd0:hd=none->l.b=none)(hl':∀b,l'.b=some b->l.b=some b\/w.heap.size<=b):
  Grow g w (gapp g nh l' hd) w':=by
 refine⟨hw.os,hw.tape,hw.output,hw.size,fun b hb=>hw.block b hb.1 fun e=>?_,fun b hb=>hw.block b (hm.xlt b hb) fun e=>?_,rfl,fun h h1=>?_,fun h lx h1=>?_,fun h b e1=>?_⟩
 ·cases hd with
  |none=>rw[hd0 rfl] at e;cases e
  |some h=>exact hb.2.2 h (.root (hh h rfl) e.symm)
 ·cases hd with
  |none=>rw[hd0 rfl] at e;cases e
  |some h=>exact hm.xl h b (.root (hh h rfl) e.symm) hb
 ·show(if h=nh then HS.live l' else if hd=some h then HS.dead else g h)≠.un;split;·simp
  ·split;·simp
   ·exact h1
 ·change(if h=nh then HS.live l' else if hd=some h then HS.dead else g h)=.live lx at h1;split at h1;·rename_i e;subst e;exact .inr hn
  ·split at h1;·cases h1
   ·exact .inl h1
 ·rcases gapp_owns e1 with⟨_,e2⟩|⟨_,_,e2⟩
  ·exact(rh hh hd0 hl' e2).imp (fun⟨h,_,e⟩=>⟨h,e⟩) id
  ·exact .inl ⟨h,e2⟩
theorem aY{g:Gh}{w w':World}{m:Mem}(hm:MSt g w m){nh:Nat}(hn:g nh=.un){l l':Loc}{hd:Option Nat}(hh:∀h,hd=some h->g h=.live l)(hw:w.grownBy w' l.b)(hd0:hd=none->l.b=none)(hl':∀b,l'.b=some b->l.b=some b\/w.heap.size<=b)
  (hlt:∀b,l'.b=some b->b<w'.heap.size) {bl:Blk} (hb:fE (gapp g nh l' hd) w' l' ((gapp g nh l' hd).F nh) bl) :
  MSt (gapp g nh l' hd) w' (bL m ((nh,some bl)::(hd.toList.map fun h=>(h,none)))):=by
 have hg:=aM hm hn hh hw hd0 hl';have hdn:hd≠some nh:=fun e=>by have:=hh nh e;rw[hn] at this;cases this
 have was:=fun{b}=>rh (b:=b) hh hd0 hl';refine⟨fun h b' hb'=>?_,fun h h' b e1 e2=>?_,fun h b e1=>?_,fun b hb=>Hb (hm.xlt b hb) hw.size,fun h b e1 hx=>?_,hm.gl.grow hg⟩
 ·by_cases e:h=nh
  ·subst e;have:b'=bl:=by simpa[bL,lk] using hb'.symm
   subst this;exact⟨l',bK ..,hb⟩
  ·have e':Nat.beq nh h=false:=bA fun q=>e q.symm;rw[D6 e];cases hd with
   |none=>
    have hb'':m h=some b':=by simpa[bL,lk,e'] using hb'
    obtain⟨l1,e1,e2⟩:=hm.blk h b' hb'';refine⟨l1,by rw[b7 e JX,e1],e2.grow hg fun k hk=>hw.block k (hm.lt h k ⟨l1,e1,hk⟩) fun q=>?_⟩;rw[hd0 rfl] at q;cases q
   |some hx=>
    by_cases e3:hx=h
    ·subst e3;simp[bL,lk,e'] at hb'
    ·have e3':Nat.beq hx h=false:=bA e3;have hb'':m h=some b':=by simpa[bL,lk,e',e3'] using hb'
     obtain⟨l1,e1,e2⟩:=hm.blk h b' hb'';refine⟨l1,by rw[b7 e (by simp[e3]),e1],e2.grow hg fun k hk=>hw.block k (hm.lt h k ⟨l1,e1,hk⟩) fun q=>e3 ?_⟩;exact hm.inj hx h k (.root (hh hx rfl) q.symm) ⟨l1,e1,hk⟩
 ·rcases gapp_owns e1 with⟨q1,e3⟩|⟨q1,q2,e3⟩<;>rcases gapp_owns e2 with⟨q3,e4⟩|⟨q3,q4,e4⟩
  ·rw[q1,q3]
  ·rcases was e3 with⟨hx,q5,e5⟩|e5
   ·exact absurd (by rw[q5,hm.inj hx h' b e5 e4]) q4
   ·have:=hm.lt h' b e4;omega
  ·rcases was e4 with⟨hx,q5,e5⟩|e5
   ·exact absurd (by rw[q5,hm.inj hx h b e5 e3]) q2
   ·have:=hm.lt h b e3;omega
  ·exact hm.inj h h' b e3 e4
 ·rcases gapp_owns e1 with⟨_,e3⟩|⟨_,_,e3⟩
  ·rcases e3 with e3|⟨hx,q,e3⟩
   ·exact hlt b e3
   ·exact Hb (hm.lt hx b ⟨l,hh hx q,.inr e3⟩) hw.size
  ·exact Hb (hm.lt h b e3) hw.size
 ·rcases gapp_owns e1 with⟨_,e3⟩|⟨_,_,e3⟩
  ·rcases was e3 with⟨hx',q,e4⟩|e4
   ·exact hm.xl hx' b e4 hx
   ·have:=hm.xlt b hx;omega
  ·exact hm.xl h b e3 hx
theorem AM(hT:TOk P T){t e:Nat}{te:TyI}{a0 b0:Nat}{z0:List Z}{q0:Bool}{x y:Operand}{ax ay:AV}{news:List (List Tr)}{rd:List (Nat×Blk)}(ho:o.op=.call { callee:=.builtin .append,args:=#[x,y],argTypes:=#[t,t] })(hx:ev x=some ax)(hy:ev y=some ay)
  (e1:lk T t=some ⟨.slice e,a0,b0,z0,q0⟩) (e2:lk T e=some te) (hs1:1<=te.size) (hb1:1<=te.bytes) (rdm:∀p∈rd,m p.1=some p.2)
  (hsrc:∀(g:Gh)(w:World)(m':Mem)(v:Value),MSt g w m'->(∀p∈rd,m' p.1=some p.2)->Rep g w v ay->(∀r∈news,r.length=te.size)/\∃(ao:Option Addr)(c:Nat)(cl:List Value),v=.slice ao news.length c/\cl.length=news.length*te.size/\(∀(j:Nat)(u:Value),cl[j]?=some u->∃b o,ao=some ⟨b,o,none⟩/\w.cell? ⟨b,o+j,none⟩=some u) /\
   ∀(j:Nat)(t:Tr),news.flatten[j]?=some t->∃u,cl[j]?=some u/\RepT (okB g w) w u t) (h:FR m nh e te news rd K ax):LOk P o m nh ev K:=by
 have hrun:∀(ρ:Operand->Value)(w w':World)(v:Value),(Builtin.append_ #[t,t] o.type #[ρ x,ρ y]).run P w=.ok v w'->(execOp ρ o).run P w=.ok (.value v) w':=fun ρ w w' v e=>by simp[execOp,ho,resolve,invoke,builtin,e]
 have one:∀ {g:Gh} {w:World} {cl:List Value},cl.length=news.length*te.size->(∀r∈news,r.length=te.size)->(∀(j:Nat)(t:Tr),news.flatten[j]?=some t->∃u,cl[j]?=some u/\RepT (okB g w) w u t)->∀u∈cl,u.oneCell'=true:=by
  intro g w cl h1 h2 h3 u hu;obtain⟨j,hj⟩:=Gv.1 hu;have hlt:j<news.flatten.length:=by rw[bC news h2,<-h1];exact(a9.1 hj).1
  obtain⟨u',c1,c2⟩:=h3 j news.flatten[j] (by simp[hlt]);rw[hj] at c1;cases c1;exact c2.one
 unfold FR at h;split at h
 ·
  obtain⟨hB,hK⟩:=h;refine⟨_,_,_,hK,rdm,JX,fun g w m' ρ hm hn hrd hev=>?_⟩;obtain⟨hr,ao,c,cl,q1,q2,q3,q4⟩:=hsrc g w m' _ hm hrd (hev _ _ hy);obtain⟨hv,_⟩:=al (hev _ _ hx);have h63:0+news.length<=9223372036854775807:=by have:news.length*1<=news.length*te.bytes:=H4 _ hb1;omega
  obtain⟨v',w',r1,r2,r3,r4⟩:=fm (ty:=o.type) hT (g:=g) e1 e2 hs1 (IP w 0 e te.size) q2 q3 (one q2 hr q4) h63 (by rw[E7];omega);rw[E7,HA] at r2;rw[<-hv,<-q1] at r1;obtain⟨_,⟨rfl,rn⟩|⟨k,cap,cur,rfl,_,k1,k2,k3,k4,k5⟩⟩:=r2
  ·have hnil:news=[]:=GF rn;subst hnil;refine⟨_,w',.inl ⟨_,hrun ρ w w' _ r1,.slN (bK ..)⟩,aY (l:=.nil) (l':=.nil) (hd:=none) hm hn JX r3 (by simp[Loc.b]) (by simp[Loc.b]) (by simp[Loc.b]) ⟨JX,JQ,.inl JY⟩,aM hm (l:=.nil) (l':=.nil) (hd:=none) hn JX r3 (by simp[Loc.b]) (by simp[Loc.b]),fun h h1 h2=>by rw[b7 h1 JX,h2]⟩
  ·have hnew:k=w.heap.size:=by
    rcases r4 with r4|r4<;>simp[Value.ownBlock] at r4
    exact r4
   have hG:=aM hm (l:=.nil) (l':=.row k cap) (hd:=none) hn JX r3 (by simp[Loc.b]) (fun b eb=>.inr (by cases eb;omega));refine⟨_,w',.inl ⟨_,hrun ρ w w' _ r1,.sl (b:=k) (cap:=cap) (bK ..) k2⟩,aY (l:=.nil) (l':=.row k cap) (hd:=none) hm hn JX r3 (by simp[Loc.b]) (fun b eb=>.inr (by cases eb;omega)) (fun b eb=>by cases eb;exact(GI.1 k1).1)
    ⟨hB,JQ,.inr ⟨k,cap,cur,rfl,k1,k2,by simpa[maxLen] using k3,k4,hr,fun i t hi=>?_⟩⟩,hG,fun h h1 h2=>by rw[b7 h1 JX,h2]⟩
   obtain⟨u,c1,c2⟩:=q4 i t hi;refine⟨u,?_,c2.grow hG⟩;rw[<-k5,Ba] at c1;split at c1;·simpa using c1
   ·cases c1
 ·
  rename_i hd len;split at h;case h_2=>exact h.elim
  rename_i e' n B rows em;obtain⟨rfl,rfl,rfl,hle,hB,hne,hK⟩:=h;refine⟨_,_,_,hK,fun p hp=>?_,fun p hp=>?_,fun g w m' ρ hm hn hrd hev=>?_⟩
  ·simp only[F5] at hp;rcases hp with rfl|hp
   ·exact em
   ·exact rdm p hp
  ·simp only[F5,Hr,Is] at hp;rcases hp with rfl|rfl
   ·exact .inl rfl
   ·exact .inr ⟨(hd,.vec e' te.size te.bytes rows),JX,rfl⟩
  obtain⟨hr,ao,c,cl,q1,q2,q3,q4⟩:=hsrc g w m' _ hm (fun p hp=>hrd p (by simp[hp])) (hev _ _ hy);obtain⟨l,g1,g2⟩:=hm.blk hd _ (hrd (hd,.vec e' te.size te.bytes rows) JX);have h63:len+news.length<=9223372036854775807:=by have:(len+news.length)*1<=(len+news.length)*te.bytes:=H4 _ hb1;omega
  obtain⟨xs,hown,hlb,hxr,hxs⟩:∃xs,w.ownsRow 0 e' te.size (ρ x) len xs/\(ρ x).ownBlock=l.b/\(∀r∈rows,r.length=te.size)/\∀(j:Nat)(t:Tr),(rows.take len).flatten[j]?=some t->∃u,xs[j]?=some u/\RepT (okB g w) w u t:=by
   obtain⟨_,_,⟨rfl,rfl⟩|⟨k,cap,cur,rfl,k1,k2,k3,k4,k5,k6⟩⟩:=g2
   ·rcases(hev _ _ hx).sl_inv g1 with⟨b,cap,e0,_,_⟩|⟨_,rfl,e5⟩
    ·cases e0
    ·rw[e5];exact⟨[],IP _ _ _ _,rfl,JX,JX⟩
   ·rcases(hev _ _ hx).sl_inv g1 with⟨b,cap',e0,e4,e5⟩|⟨e0,_⟩
    ·cases e0;rw[e5];have hcs:len*te.size<=cur.size:=by rw[k4];exact Eb _ JQ
     refine⟨cur.toList.take (len*te.size),⟨by simp;omega,.inr ⟨k,cap,cur,rfl,x5 _,k1,e4,by simpa[maxLen] using k3,k4,rfl⟩⟩,rfl,k5,fun j t hj=>?_⟩;have hlt:(rows.take len).length=len:=by rw[DK];omega
     have hj':j<len*te.size:=by
      have:=(a9.1 hj).1
      rwa [bC _ (fun r hr=>k5 r (G2 hr)),hlt] at this
     obtain⟨u,c1,c2⟩:=k6 j t (by
      rw[<-hj];conv=>lhs;rw[<-IX len rows,IB]
      rw[v9];rw[bC _ (fun r hr=>k5 r (G2 hr)),hlt];exact hj')
     exact⟨u,by rw[Ba,Gw hj'];simpa using c1,c2⟩
    ·cases e0
  obtain⟨v',w',r1,r2,r3,r4⟩:=fm (ty:=o.type) hT (g:=g) e1 e2 hs1 hown q2 q3 (one q2 hr q4) h63 JQ;rw[<-q1] at r1;rw[hlb] at r3 r4;have hxl:=hown.1;have hrows:∀r∈rows.take len++news,r.length=te.size:=fun r h'=>by
   simp only[FK] at h';rcases h' with h'|h'
   ·exact hxr r (G2 h')
   ·exact hr r h'
  obtain⟨_,⟨rfl,rn⟩|⟨k,cap,cur,rfl,_,k1,k2,k3,k4,k5⟩⟩:=r2
  ·have hnil:news=[]:=GF JQ;subst hnil;have hl0:len=0:=by simpa using rn
   subst hl0;exact⟨_,w',.inl ⟨_,hrun ρ w w' _ r1,.slN (bK ..)⟩,aY (l:=l) (l':=.nil) (hd:=some hd) hm hn (fun h e=>by cases e;exact g1) r3 JX (by simp[Loc.b]) (by simp[Loc.b]) ⟨JX,JQ,.inl ⟨rfl,JX⟩⟩,aM hm (l:=l) (l':=.nil) (hd:=some hd) hn (fun h e=>by cases e;exact g1) r3 JX (by simp[Loc.b]),fun h h1 h2=>by
    have:hd≠h:=fun e=>by rw[e] at g1;rw[h2] at g1;cases g1
    rw[b7 h1 (by simp[this]),h2]⟩
  ·have hnew:∀b,(Loc.row k cap).b=some b->l.b=some b\/w.heap.size<=b:=fun b eb=>by
    cases eb;rcases r4 with r4|r4
    ·exact .inl (by rw[<-r4];rfl)
    ·simp[Value.ownBlock] at r4;exact .inr JQ
   have hG:=aM hm (l:=l) (l':=.row k cap) (hd:=some hd) hn (fun h e=>by cases e;exact g1) r3 JX hnew;refine⟨_,w',.inl ⟨_,hrun ρ w w' _ r1,.sl (b:=k) (cap:=cap) (bK ..) k2⟩,aY (l:=l) (l':=.row k cap) (hd:=some hd) hm hn (fun h e=>by cases e;exact g1) r3 JX hnew (fun b eb=>by cases eb;exact(GI.1 k1).1)
    ⟨by rw[uR,DK,Hf hle];exact hB,JQ,.inr ⟨k,cap,cur,rfl,k1,by rw[uR,DK,Hf hle];exact k2,by simpa[maxLen] using k3,k4,hrows,fun i t hi=>?_⟩⟩,hG,fun h h1 h2=>by
     have:hd≠h:=fun e=>by rw[e] at g1;rw[h2] at g1;cases g1
     rw[b7 h1 (by simp[this]),h2]⟩
   have hfl:(rows.take len).flatten.length=len*te.size:=by rw[bC _ (fun r h'=>hxr r (G2 h')),DK,Hf hle]
   rw[IB] at hi;have:∃u,(xs++cl)[i]?=some u/\RepT (okB g w) w u t:=by
    by_cases c1:i<len*te.size
    ·rw[v9 JQ] at hi;rw[v9 JQ];exact hxs i t hi
    ·rw[wS JQ,hfl] at hi;rw[wS JQ,hxl];exact q4 _ t hi
   obtain⟨u,c1,c2⟩:=this;refine⟨u,?_,c2.grow hG⟩;rw[<-k5,Ba] at c1;split at c1;·simpa using c1
   ·cases c1
 ·exact h.elim
theorem zM(hT:TOk P T){t:Nat}{x y:Operand}{ax ay:AV}(ho:o.op=.call { callee:=.builtin .append,args:=#[x,y],argTypes:=#[t,t] })(hx:ev x=some ax)(hy:ev y=some ay)(h:p9 T m nh t ax ay K):LOk P o m nh ev K:=by
 have hrun:∀(ρ:Operand->Value)(w w':World)(v:Value),(Builtin.append_ #[t,t] o.type #[ρ x,ρ y]).run P w=.ok v w'->(execOp ρ o).run P w=.ok (.value v) w':=fun ρ w w' v e=>by simp[execOp,ho,resolve,invoke,builtin,e]
 unfold p9 at h;split at h;case h_2=>exact h.elim
 rename_i e s1 s2 s3 s4 e1;split at h;case h_2=>exact h.elim
 rename_i te e2;split at h;case h_2=>exact h.elim
 rename_i news rd e3;cases hb:(Nat.ble 1 te.size&&Nat.ble 1 te.bytes) with
 |false=>rw[hb] at e3;cases e3
 |true=>
 rw[hb,r7] at e3;simp only[t4] at hb;have hs1:=oo hb.1;have hb1:=oo hb.2;have rdm:∀p∈rd,m p.1=some p.2:=by
  unfold dP at e3;split at e3;·cases e3;simp
  ·rename_i n' B rows;cases hbb:Nat.beq te.size n' with
   |true=>rw[hbb] at e3;cases e3;simp
   |false=>rw[hbb] at e3;cases e3
  ·rename_i hd len;split at e3
   ·rename_i e' n' B rows em;cases hbb:(Nat.beq te.size n'&&Nat.ble len rows.length) with
    |true=>rw[hbb] at e3;cases e3;simpa using em
    |false=>rw[hbb] at e3;cases e3
   ·cases e3
  ·cases e3
 exact AM hT ho hx hy e1 e2 hs1 hb1 rdm (fun g w m' v hm hrd hv=>gP hm JQ e3 hrd hv) h
end
end Go.Proofs.YtapmdfcmpglieaaGreatDoor.am
