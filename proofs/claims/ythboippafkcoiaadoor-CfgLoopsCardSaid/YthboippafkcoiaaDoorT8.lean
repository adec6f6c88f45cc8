/- The types of the translation, as the abstract machine has them (printed by gen_ty.py). Contracts of target: the kinds and fields of instructions. -/
import Derived.Test.YthboippafkcoiaaDoorT4
import Derived.Test.YthboippafkcoiaaDoorProg
import Derived.KernelRfl
import Derived.Test.YthboippafkcoiaaDoorT5
set_option linter.all false
namespace Go.Proofs.YthboippafkcoiaaDoor.am
open Go
set_option maxRecDepth 100000 in
def T:Ty:=[
 (1,⟨.func,1,8,[.f],false⟩),
 (2,⟨.int .i64,1,8,[.i .i64],false⟩),
 (3,⟨.int .i64,1,8,[.i .i64],false⟩),
 (4,⟨.bool,1,1,[.b],false⟩),
 (5,⟨.int .u8,1,1,[.i .u8],false⟩),
 (9,⟨.string,1,16,[.s],false⟩),
 (12,⟨.int .u64,1,8,[.i .u64],false⟩),
 (15,⟨.ptr 179,1,8,[.p],false⟩),
 (16,⟨.ptr 182,1,8,[.p],false⟩),
 (20,⟨.iface,1,16,[.n],false⟩),
 (21,⟨.int .i32,1,4,[.i .i32],false⟩),
 (22,⟨.slice 91,1,24,[.sl],false⟩),
 (23,⟨.slice 37,1,24,[.sl],false⟩),
 (24,⟨.struct [(22,0),(22,1),(23,2)],3,72,[.sl,.sl,.sl],true⟩),
 (25,⟨.struct [(22,0),(22,1),(23,2)],3,72,[.sl,.sl,.sl],true⟩),
 (26,⟨.func,1,8,[.f],false⟩),
 (27,⟨.slice 42,1,24,[.sl],false⟩),
 (28,⟨.struct [(22,0),(22,1),(27,2)],3,72,[.sl,.sl,.sl],true⟩),
 (29,⟨.struct [(22,0),(22,1),(27,2)],3,72,[.sl,.sl,.sl],true⟩),
 (30,⟨.int .i64,1,8,[.i .i64],false⟩),
 (32,⟨.func,1,8,[.f],false⟩),
 (33,⟨.slice 3,1,24,[.sl],false⟩),
 (34,⟨.func,1,8,[.f],false⟩),
 (35,⟨.slice 77,1,24,[.sl],false⟩),
 (36,⟨.struct [(9,0),(22,1),(35,2),(3,3)],4,72,[.s,.sl,.sl,.i .i64],true⟩),
 (37,⟨.struct [(9,0),(22,1),(35,2),(3,3)],4,72,[.s,.sl,.sl,.i .i64],true⟩),
 (38,⟨.func,1,8,[.f],false⟩),
 (39,⟨.func,1,8,[.f],false⟩),
 (40,⟨.slice 54,1,24,[.sl],false⟩),
 (41,⟨.struct [(9,0),(3,1),(3,2),(40,3)],4,56,[.s,.i .i64,.i .i64,.sl],true⟩),
 (42,⟨.struct [(9,0),(3,1),(3,2),(40,3)],4,56,[.s,.i .i64,.i .i64,.sl],true⟩),
 (43,⟨.func,1,8,[.f],false⟩),
 (45,⟨.func,1,8,[.f],false⟩),
 (46,⟨.func,1,8,[.f],false⟩),
 (47,⟨.slice 4,1,24,[.sl],false⟩),
 (48,⟨.func,1,8,[.f],false⟩),
 (49,⟨.int .u8,1,1,[.i .u8],false⟩),
 (50,⟨.int .u8,1,1,[.i .u8],false⟩),
 (51,⟨.struct [(4,0),(3,1),(2,2)],3,24,[.b,.i .i64,.i .i64],true⟩),
 (52,⟨.struct [(4,0),(3,1),(2,2)],3,24,[.b,.i .i64,.i .i64],true⟩),
 (53,⟨.struct [(49,0),(50,1),(3,2),(3,3),(52,4),(52,7),(3,10),(3,11),(3,12)],13,96,[.i .u8,.i .u8,.i .i64,.i .i64,.b,.i .i64,.i .i64,.b,.i .i64,.i .i64,.i .i64,.i .i64,.i .i64],true⟩),
 (54,⟨.struct [(49,0),(50,1),(3,2),(3,3),(52,4),(52,7),(3,10),(3,11),(3,12)],13,96,[.i .u8,.i .u8,.i .i64,.i .i64,.b,.i .i64,.i .i64,.b,.i .i64,.i .i64,.i .i64,.i .i64,.i .i64],true⟩),
 (55,⟨.func,1,8,[.f],false⟩),
 (56,⟨.func,1,8,[.f],false⟩),
 (57,⟨.slice 33,1,24,[.sl],false⟩),
 (58,⟨.func,1,8,[.f],false⟩),
 (59,⟨.func,1,8,[.f],false⟩),
 (60,⟨.func,1,8,[.f],false⟩),
 (61,⟨.func,1,8,[.f],false⟩),
 (63,⟨.func,1,8,[.f],false⟩),
 (64,⟨.struct [(3,0),(3,1)],2,16,[.i .i64,.i .i64],true⟩),
 (65,⟨.struct [(3,0),(3,1)],2,16,[.i .i64,.i .i64],true⟩),
 (67,⟨.func,1,8,[.f],false⟩),
 (68,⟨.ptr 71,1,8,[.p],false⟩),
 (69,⟨.slice 103,1,24,[.sl],false⟩),
 (70,⟨.struct [(25,0),(3,3),(42,4),(69,8),(4,9)],10,168,[.sl,.sl,.sl,.i .i64,.s,.i .i64,.i .i64,.sl,.sl,.b],true⟩),
 (71,⟨.struct [(25,0),(3,3),(42,4),(69,8),(4,9)],10,168,[.sl,.sl,.sl,.i .i64,.s,.i .i64,.i .i64,.sl,.sl,.b],true⟩),
 (72,⟨.func,1,8,[.f],false⟩),
 (73,⟨.func,1,8,[.f],false⟩),
 (74,⟨.int .u8,1,1,[.i .u8],false⟩),
 (75,⟨.slice 81,1,24,[.sl],false⟩),
 (76,⟨.struct [(74,0),(9,1),(9,2),(75,3),(35,4),(35,5),(3,6)],7,120,[.i .u8,.s,.s,.sl,.sl,.sl,.i .i64],true⟩),
 (77,⟨.struct [(74,0),(9,1),(9,2),(75,3),(35,4),(35,5),(3,6)],7,120,[.i .u8,.s,.s,.sl,.sl,.sl,.i .i64],true⟩),
 (78,⟨.func,1,8,[.f],false⟩),
 (79,⟨.int .u8,1,1,[.i .u8],false⟩),
 (80,⟨.struct [(79,0),(50,1),(2,2),(9,3),(75,4),(3,5)],6,64,[.i .u8,.i .u8,.i .i64,.s,.sl,.i .i64],true⟩),
 (81,⟨.struct [(79,0),(50,1),(2,2),(9,3),(75,4),(3,5)],6,64,[.i .u8,.i .u8,.i .i64,.s,.sl,.i .i64],true⟩),
 (82,⟨.func,1,8,[.f],false⟩),
 (83,⟨.func,1,8,[.f],false⟩),
 (84,⟨.func,1,8,[.f],false⟩),
 (85,⟨.map 3 4,1,8,[.m],false⟩),
 (86,⟨.func,1,8,[.f],false⟩),
 (87,⟨.func,1,8,[.f],false⟩),
 (89,⟨.func,1,8,[.f],false⟩),
 (90,⟨.struct [(9,0),(2,1),(3,2)],3,32,[.s,.i .i64,.i .i64],true⟩),
 (91,⟨.struct [(9,0),(2,1),(3,2)],3,32,[.s,.i .i64,.i .i64],true⟩),
 (93,⟨.func,1,8,[.f],false⟩),
 (94,⟨.func,1,8,[.f],false⟩),
 (95,⟨.slice 5,1,24,[.sl],false⟩),
 (96,⟨.func,1,8,[.f],false⟩),
 (97,⟨.func,1,8,[.f],false⟩),
 (99,⟨.func,1,8,[.f],false⟩),
 (100,⟨.func,1,8,[.f],false⟩),
 (101,⟨.func,1,8,[.f],false⟩),
 (102,⟨.array 8 100,8,64,[.f,.f,.f,.f,.f,.f,.f,.f],false⟩),
 (103,⟨.func,1,8,[.f],false⟩),
 (104,⟨.func,1,8,[.f],false⟩),
 (105,⟨.func,1,8,[.f],false⟩),
 (106,⟨.map 9 4,1,8,[.m],false⟩),
 (107,⟨.func,1,8,[.f],false⟩),
 (108,⟨.int .u8,1,1,[.i .u8],false⟩),
 (109,⟨.func,1,8,[.f],false⟩),
 (110,⟨.func,1,8,[.f],false⟩),
 (111,⟨.func,1,8,[.f],false⟩),
 (112,⟨.func,1,8,[.f],false⟩),
 (113,⟨.struct [(3,0),(3,1)],2,16,[.i .i64,.i .i64],true⟩),
 (114,⟨.struct [(3,0),(3,1)],2,16,[.i .i64,.i .i64],true⟩),
 (115,⟨.slice 114,1,24,[.sl],false⟩),
 (116,⟨.ptr 114,1,8,[.p],false⟩),
 (117,⟨.func,1,8,[.f],false⟩),
 (118,⟨.struct [(65,0)],2,16,[.i .i64,.i .i64],true⟩),
 (119,⟨.struct [(65,0)],2,16,[.i .i64,.i .i64],true⟩),
 (120,⟨.ptr 125,1,8,[.p],false⟩),
 (121,⟨.map 9 141,1,8,[.m],false⟩),
 (122,⟨.func,1,8,[.f],false⟩),
 (123,⟨.map 9 3,1,8,[.m],false⟩),
 (124,⟨.struct [(25,0),(121,3),(123,4)],5,88,[.sl,.sl,.sl,.m,.m],true⟩),
 (125,⟨.struct [(25,0),(121,3),(123,4)],5,88,[.sl,.sl,.sl,.m,.m],true⟩),
 (126,⟨.func,1,8,[.f],false⟩),
 (127,⟨.func,1,8,[.f],false⟩),
 (128,⟨.func,1,8,[.f],false⟩),
 (129,⟨.func,1,8,[.f],false⟩),
 (130,⟨.func,1,8,[.f],false⟩),
 (131,⟨.func,1,8,[.f],false⟩),
 (132,⟨.func,1,8,[.f],false⟩),
 (133,⟨.func,1,8,[.f],false⟩),
 (134,⟨.func,1,8,[.f],false⟩),
 (135,⟨.array 10 108,10,10,[.i .u8,.i .u8,.i .u8,.i .u8,.i .u8,.i .u8,.i .u8,.i .u8,.i .u8,.i .u8],false⟩),
 (136,⟨.func,1,8,[.f],false⟩),
 (137,⟨.func,1,8,[.f],false⟩),
 (138,⟨.func,1,8,[.f],false⟩),
 (139,⟨.func,1,8,[.f],false⟩),
 (140,⟨.func,1,8,[.f],false⟩),
 (141,⟨.int .i64,1,8,[.i .i64],false⟩),
 (142,⟨.func,1,8,[.f],false⟩),
 (143,⟨.slice 22,1,24,[.sl],false⟩),
 (144,⟨.func,1,8,[.f],false⟩),
 (145,⟨.array 24 5,24,24,[.i .u8,.i .u8,.i .u8,.i .u8,.i .u8,.i .u8,.i .u8,.i .u8,.i .u8,.i .u8,.i .u8,.i .u8,.i .u8,.i .u8,.i .u8,.i .u8,.i .u8,.i .u8,.i .u8,.i .u8,.i .u8,.i .u8,.i .u8,.i .u8],false⟩),
 (146,⟨.int .u64,1,8,[.i .u64],false⟩),
 (147,⟨.func,1,8,[.f],false⟩),
 (148,⟨.func,1,8,[.f],false⟩),
 (150,⟨.func,1,8,[.f],false⟩),
 (151,⟨.func,1,8,[.f],false⟩),
 (152,⟨.struct [(9,0),(3,1)],2,24,[.s,.i .i64],true⟩),
 (153,⟨.array 19 152,38,456,[.s,.i .i64,.s,.i .i64,.s,.i .i64,.s,.i .i64,.s,.i .i64,.s,.i .i64,.s,.i .i64,.s,.i .i64,.s,.i .i64,.s,.i .i64,.s,.i .i64,.s,.i .i64,.s,.i .i64,.s,.i .i64,.s,.i .i64,.s,.i .i64,.s,.i .i64,.s,.i .i64,.s,.i .i64],false⟩),
 (154,⟨.func,1,8,[.f],false⟩),
 (155,⟨.func,1,8,[.f],false⟩),
 (156,⟨.func,1,8,[.f],false⟩),
 (157,⟨.func,1,8,[.f],false⟩),
 (158,⟨.func,1,8,[.f],false⟩),
 (159,⟨.array 20 146,20,160,[.i .u64,.i .u64,.i .u64,.i .u64,.i .u64,.i .u64,.i .u64,.i .u64,.i .u64,.i .u64,.i .u64,.i .u64,.i .u64,.i .u64,.i .u64,.i .u64,.i .u64,.i .u64,.i .u64,.i .u64],false⟩),
 (160,⟨.int .u32,1,4,[.i .u32],false⟩),
 (161,⟨.array 65 5,65,65,[.i .u8,.i .u8,.i .u8,.i .u8,.i .u8,.i .u8,.i .u8,.i .u8,.i .u8,.i .u8,.i .u8,.i .u8,.i .u8,.i .u8,.i .u8,.i .u8,.i .u8,.i .u8,.i .u8,.i .u8,.i .u8,.i .u8,.i .u8,.i .u8,.i .u8,.i .u8,.i .u8,.i .u8,.i .u8,.i .u8,.i .u8,.i .u8,.i .u8,.i .u8,.i .u8,.i .u8,.i .u8,.i .u8,.i .u8,.i .u8,.i .u8,.i .u8,.i .u8,.i .u8,.i .u8,.i .u8,.i .u8,.i .u8,.i .u8,.i .u8,.i .u8,.i .u8,.i .u8,.i .u8,.i .u8,.i .u8,.i .u8,.i .u8,.i .u8,.i .u8,.i .u8,.i .u8,.i .u8,.i .u8,.i .u8],false⟩),
 (162,⟨.func,1,8,[.f],false⟩),
 (163,⟨.int .u64,1,8,[.i .u64],false⟩),
 (164,⟨.func,1,8,[.f],false⟩),
 (165,⟨.array 20 5,20,20,[.i .u8,.i .u8,.i .u8,.i .u8,.i .u8,.i .u8,.i .u8,.i .u8,.i .u8,.i .u8,.i .u8,.i .u8,.i .u8,.i .u8,.i .u8,.i .u8,.i .u8,.i .u8,.i .u8,.i .u8],false⟩),
 (166,⟨.func,1,8,[.f],false⟩),
 (167,⟨.func,1,8,[.f],false⟩),
 (168,⟨.func,1,8,[.f],false⟩),
 (169,⟨.func,1,8,[.f],false⟩),
 (170,⟨.func,1,8,[.f],false⟩),
 (171,⟨.struct [(4,0),(4,1),(4,2),(4,3),(4,4)],5,5,[.b,.b,.b,.b,.b],true⟩),
 (172,⟨.struct [(4,0),(4,1),(4,2),(4,3),(4,4)],5,5,[.b,.b,.b,.b,.b],true⟩),
 (174,⟨.func,1,8,[.f],false⟩),
 (175,⟨.func,1,8,[.f],false⟩),
 (176,⟨.array 32 5,32,32,[.i .u8,.i .u8,.i .u8,.i .u8,.i .u8,.i .u8,.i .u8,.i .u8,.i .u8,.i .u8,.i .u8,.i .u8,.i .u8,.i .u8,.i .u8,.i .u8,.i .u8,.i .u8,.i .u8,.i .u8,.i .u8,.i .u8,.i .u8,.i .u8,.i .u8,.i .u8,.i .u8,.i .u8,.i .u8,.i .u8,.i .u8,.i .u8],false⟩),
 (177,⟨.array 64 5,64,64,[.i .u8,.i .u8,.i .u8,.i .u8,.i .u8,.i .u8,.i .u8,.i .u8,.i .u8,.i .u8,.i .u8,.i .u8,.i .u8,.i .u8,.i .u8,.i .u8,.i .u8,.i .u8,.i .u8,.i .u8,.i .u8,.i .u8,.i .u8,.i .u8,.i .u8,.i .u8,.i .u8,.i .u8,.i .u8,.i .u8,.i .u8,.i .u8,.i .u8,.i .u8,.i .u8,.i .u8,.i .u8,.i .u8,.i .u8,.i .u8,.i .u8,.i .u8,.i .u8,.i .u8,.i .u8,.i .u8,.i .u8,.i .u8,.i .u8,.i .u8,.i .u8,.i .u8,.i .u8,.i .u8,.i .u8,.i .u8,.i .u8,.i .u8,.i .u8,.i .u8,.i .u8,.i .u8,.i .u8,.i .u8],false⟩),
 (180,⟨.array 0 16,0,0,[],false⟩),
 (185,⟨.func,1,8,[.f],false⟩),
 (186,⟨.ptr 5,1,8,[.p],false⟩)]
set_option maxRecDepth 100000 in
theorem hT:TOk Tryd.prog T:=TOk.of_all (by kernel_rfl)
end Go.Proofs.YthboippafkcoiaaDoor.am
namespace Go.Proofs.YthboippafkcoiaaDoor.am
open Go Go.Proofs
theorem hmix : Tryd.prog.follows .mixedOrders=true:=by kernel_rfl
abbrev K (f:Nat) (args:List AV) (bin:List Blk) (res:AE) (bout:List (Option Blk)):Prop:=Ctr Tryd.prog f args bin res bout
structure Ins where
 kind:Int
 op:Int
 d:Int
 a:Int
 b:Int
 addr:Int
 to_:Int
 word:Int
 from_:Int
 deriving DecidableEq
structure Cor where
 name:ByteArray
 code:List Ins
structure Ob where
 memory:List Int
 shared:Int
 locks:Int
 buffer:Int
 cores:List Cor
def Ins.cells (i:Ins):List Tr:=[tu i.kind,tu i.op,ti i.d,ti i.a,ti i.b,ti i.addr,ti i.to_,ti i.word,ti i.from_]
def Ins.av (i:Ins):AV := .agg (i.cells.map .tr)
abbrev codeT (l:List Ins):Tr := .lst 9 64 (l.map Ins.cells)
def Cor.cells (c:Cor):List Tr:=[ts c.name,codeT c.code]
def Cor.av (c:Cor):AV := .agg (c.cells.map .tr)
abbrev coresT (l:List Cor):Tr := .lst 2 40 (l.map Cor.cells)
def irow (x:Int):List Tr:=[ti x]
abbrev intsT (l:List Int):Tr := .lst 1 8 (l.map irow)
def Ob.cells (o:Ob):List Tr:=[intsT o.memory,ti o.shared,ti o.locks,ti o.buffer,coresT o.cores]
def Ob.av (o:Ob):AV := .agg (o.cells.map .tr)
def knownB (op:Int):Bool:=decide (op > 0) && decide (op<19)
def two2 (op:Int):Bool:=knownB op && op != 17 && op != 18
theorem two2_eq (op:Int):two2 op=two op:=by
 unfold two2 two knownB
 rw [Bool.eq_iff_iff]
 simp
 omega
theorem k_known (op:Int):K 86 [.tr (tu op)] [] (.ret (.tr (tb (knownB op)))) []:=by
 refine Ctr.of hT hmix Tryd.func86 rfl (fun _ _=>by kernel_rfl) rfl fun hok => ?_
 conv=>whnf
 (repeat' (refine csplit (fun _ => ?_) (fun _ => ?_) <;> conv=>whnf)) <;> exact ⟨Or.inl (congrArg tb (by simp only [knownB, *] <;> rfl)),trivial⟩
theorem k_two (op:Int):K 76 [.tr (tu op)] [] (.ret (.tr (tb (two op)))) []:=by
 refine Ctr.of hT hmix Tryd.func76 rfl (fun _ _=>by kernel_rfl) rfl fun hok => ?_
 conv=>whnf
 refine acall.pure _ (k_known op) rfl rfl fun _ => ?_
 conv=>whnf
 (repeat' (refine csplit (fun _ => ?_) (fun _ => ?_) <;> conv=>whnf)) <;> exact ⟨Or.inl (congrArg tb (by rw [← two2_eq]; simp only [two2, *] <;> rfl)),trivial⟩
end Go.Proofs.YthboippafkcoiaaDoor.am
namespace Go.Proofs.YthboippafkcoiaaDoor.am
open Go Go.Proofs
theorem findI_at {l:List Decl} {s:ByteArray} {i:Nat} {d:Decl} (h:l[i]? = some d):findI (l.drop i) s i=if seq d.name s then (i:Int) else findI (l.drop (i+1)) s (i+1):=by
 rw [drop_cons h]; rfl
theorem k39 (l:List Decl) (name:ByteArray):K 48 [.tr (declsT l),.tr (ts name)] [] (.ret (.tr (ti (findI l name 0)))) []:=by
 refine Ctr.of hT hmix Tryd.func48 rfl (fun _ _=>by kernel_rfl) rfl fun hok => ?_
 obtain ⟨_,hl,_⟩:=(hok.slot 0 rfl).tr.lst
 rw [List.length_map] at hl
 conv=>whnf
 refine LoopL.by (fun i:Nat=>⟨[(1,.tr (ts name)),(7,.tr (declsT l)),(8,.tr (ti l.length)),(9,.tr (ti i))],[],10⟩)
  (fun i=>i≤l.length∧findI l name 0=findI (l.drop i) name i) (fun i=>l.length - i) 0 [] [] (Sub.mk' rfl ⟨.inl rfl,.inl rfl,.inl (by simp),.inl rfl,trivial⟩ trivial rfl rfl) ⟨Nat.zero_le _,rfl⟩ ?_
 rintro i ⟨hi,hf⟩ -
 conv=>whnf
 refine csplit (fun hlt => ?_) (fun hge => ?_)
 ·have hlt:i<l.length:=by simpa using hlt
  conv=>whnf
  refine ⟨rfl,by omega,by simpa using hlt,fun row hrow => ?_⟩
  obtain ⟨d,hd,rfl⟩:=map_get hrow
  replace hd:l[i]? = some d:=hd
  rw [findI_at hd] at hf
  conv=>whnf
  refine csplit (fun he:seq d.name name=true => ?_) (fun he:seq d.name name=false => ?_)
  ·conv=>whnf
   exact ⟨Or.inl (congrArg ti (by rw [hf,he]; rfl)),trivial⟩
  ·conv=>whnf
   refine ⟨i+1,[],[],Sub.mk' rfl ⟨Or.inl rfl,Or.inl rfl,Or.inl rfl,Or.inl (ti_succ hlt hl),trivial⟩ trivial rfl rfl,⟨by omega,?_⟩,by omega⟩
   rw [hf,he]; rfl
 ·have hge:l.length≤i:=by simpa using hge
  conv=>whnf
  refine ⟨fun _ => ?_,fun h=>absurd rfl h⟩
  conv=>whnf
  exact ⟨Or.inl (congrArg ti (show (-1:Int)=findI l name 0 by rw [hf,List.drop_eq_nil_of_le hge]; rfl)),trivial⟩
theorem k21 (p:Prg) (t:Int) (name:ByteArray):K 25 [p.av,.tr (ti t),.tr (ts name)] [] (.ret (.tr (ti (localI p t name)))) []:=by
 refine Ctr.of hT hmix Tryd.func25 rfl (fun _ _=>by kernel_rfl) rfl fun hok => ?_
 obtain ⟨_,hl,_⟩:=((hok.slot 0 rfl).agg _ (.tail _ (.tail _ (.head _)))).tr.lst
 rw [List.length_map] at hl
 have ht:=(hok.slot 1 rfl).tr.i64
 conv=>whnf
 refine csplit (fun h1 => ?_) (fun h1 => ?_)
 ·conv=>whnf
  replace h1:=of_decide_eq_true h1
  exact ⟨Or.inl (congrArg ti (by unfold localI; rw [if_pos h1])),trivial⟩
 ·conv=>whnf
  replace h1:=of_decide_eq_false h1
  refine csplit (fun h2 => ?_) (fun h2 => ?_)
  ·conv=>whnf
   replace h2:p.threads.length≤t.toNat:=by have:=of_decide_eq_true h2; rw [List.length_map] at this; omega
   exact ⟨Or.inl (congrArg ti (by unfold localI; rw [if_neg h1,List.getElem?_eq_none h2])),trivial⟩
  ·conv=>whnf
   replace h2:t.toNat<p.threads.length:=by have:=of_decide_eq_false h2; rw [List.length_map] at this; omega
   refine ⟨rfl,by omega,by rw [List.length_map]; omega,fun row hrow => ?_⟩
   obtain ⟨d,hd,rfl⟩:=map_get hrow
   conv=>whnf
   refine acall.pure _ (k39 d.locals name) rfl rfl fun _ => ?_
   conv=>whnf
   exact ⟨Or.inl (congrArg ti (by unfold localI; rw [if_neg h1,hd])),trivial⟩
end Go.Proofs.YthboippafkcoiaaDoor.am
namespace Go.Proofs.YthboippafkcoiaaDoor.am
open Go Go.Proofs
end Go.Proofs.YthboippafkcoiaaDoor.am
namespace Go.Proofs.YthboippafkcoiaaDoor.am
open Go Go.Proofs
theorem size_kid {l:List Expr} {i:Nat} {d:Expr} (h:l[i]? = some d):SizeOf.sizeOf d<SizeOf.sizeOf l:=List.sizeOf_lt_of_mem (List.mem_of_getElem? h)
theorem size_kid2 {l:List Stmt} {i:Nat} {d:Stmt} (h:l[i]? = some d):SizeOf.sizeOf d<SizeOf.sizeOf l:=List.sizeOf_lt_of_mem (List.mem_of_getElem? h)
end Go.Proofs.YthboippafkcoiaaDoor.am
namespace Go.Proofs.YthboippafkcoiaaDoor.am
open Go Go.Proofs
end Go.Proofs.YthboippafkcoiaaDoor.am
namespace Go.Proofs.YthboippafkcoiaaDoor.am
open Go Go.Proofs
theorem k69 (c:Int):K 73 [.tr (tu c)] [] (.ret (.tr (tb (digB c)))) []:=by
 refine Ctr.of hT hmix Tryd.func73 rfl (fun _ _=>by kernel_rfl) rfl fun hok => ?_
 conv=>whnf
 (repeat' (refine csplit (fun _ => ?_) (fun _ => ?_) <;> conv=>whnf)) <;> refine ⟨Or.inl (congrArg tb ?_),trivial⟩ <;> (simp only [digB, *] <;> rfl)
theorem k71 (c:Int):K 75 [.tr (tu c)] [] (.ret (.tr (tb (letB c)))) []:=by
 refine Ctr.of hT hmix Tryd.func75 rfl (fun _ _=>by kernel_rfl) rfl fun hok => ?_
 conv=>whnf
 (repeat' (refine csplit (fun _ => ?_) (fun _ => ?_) <;> conv=>whnf)) <;> refine ⟨Or.inl (congrArg tb ?_),trivial⟩ <;> (simp only [letB, *] <;> rfl)
theorem k70 (s:ByteArray):K 74 [.tr (ts s)] [] (.ret (.tr (tb (wordB s)))) []:=by
 refine Ctr.of hT hmix Tryd.func74 rfl (fun _ _=>by kernel_rfl) rfl fun hok => ?_
 conv=>whnf
 (repeat' (refine csplit (fun _ => ?_) (fun _ => ?_) <;> conv=>whnf)) <;> refine ⟨Or.inl (congrArg tb ?_),trivial⟩ <;> first | (simp only [wordB,seq, *] <;> rfl) | simp_all
theorem k41 (s:ByteArray):K 50 [.tr (ts s)] [] (.ret (.tr (tb (nameB s)))) []:=by
 refine Ctr.of hT hmix Tryd.func50 rfl (fun _ _=>by kernel_rfl) rfl fun hok => ?_
 have hsz:=(hok.slot 0 rfl).tr.str
 clear hok
 conv=>whnf
 refine csplit (fun h1 => ?_) (fun h1 => ?_)
 ·have h1:=(noS_size s).symm.trans h1
  conv=>whnf
  exact ⟨Or.inl (congrArg tb (by simp only [nameB,h1] <;> rfl)),trivial⟩
 have h1:=(noS_size s).symm.trans h1
 conv=>whnf
 refine csplit (fun h2 => ?_) (fun h2 => ?_)
 ·conv=>whnf
  exact ⟨Or.inl (congrArg tb (by simp only [nameB,h1,h2] <;> rfl)),trivial⟩
 have hs0:0<s.size:=by have:=of_decide_eq_false h1; omega
 conv=>whnf
 refine ⟨by omega,by omega,fun b hb => ?_⟩
 have hc0:chI s 0=b.toNat:=by unfold chI; rw [show s[0]? = some b from hb]
 conv=>whnf
 refine acall.pure _ (k69 b.toNat) rfl rfl fun _ => ?_
 conv=>whnf
 refine csplit (fun h3 => ?_) (fun h3 => ?_)
 ·conv=>whnf
  exact ⟨Or.inl (congrArg tb (by rw [← hc0] at h3; simp only [nameB,h1,h2,h3] <;> rfl)),trivial⟩
 rw [← hc0] at h3
 conv=>whnf
 refine acall.pure _ (k70 s) rfl rfl fun _ => ?_
 conv=>whnf
 refine csplit (fun h4 => ?_) (fun h4 => ?_)
 ·conv=>whnf
  exact ⟨Or.inl (congrArg tb (by simp only [nameB,h1,h2,h3,h4] <;> rfl)),trivial⟩
 conv=>whnf
 have hE:nameB s=charsB s s.size:=by simp only [nameB,h1,h2,h3,h4] <;> rfl
 refine LoopL.by (fun i:Nat=>⟨[(0,.tr (ts s)),(21,.tr (ti s.size)),(22,.tr (ti i))],[],38⟩)
  (fun i=>i≤s.size∧nameB s=charsB s (s.size - i)) (fun i=>s.size - i) 0 [] [] (Sub.mk' rfl ⟨.inl rfl,.inl rfl,.inl rfl,trivial⟩ trivial rfl rfl) ⟨Nat.zero_le _,hE⟩ ?_
 rintro i ⟨hi,hf⟩ -
 conv=>whnf
 refine csplit (fun hlt => ?_) (fun hge => ?_)
 ·have hlt:i<s.size:=by simpa using hlt
  conv=>whnf
  refine ⟨by omega,by omega,fun b hb => ?_⟩
  rw [charsB_at (show s[i]? = some b from hb) hlt] at hf
  conv=>whnf
  refine acall.pure _ (k71 b.toNat) rfl rfl fun _ => ?_
  conv=>whnf
  refine csplit (fun h5 => ?_) (fun h5 => ?_)
  ·conv=>whnf
   refine ⟨by omega,by omega,fun b' hb' => ?_⟩
   have hbb:b'=b:=Option.some.inj ((show s[i]? = some b' from hb').symm.trans hb)
   subst hbb
   conv=>whnf
   refine acall.pure _ (k69 b'.toNat) rfl rfl fun _ => ?_
   conv=>whnf
   refine csplit (fun h6 => ?_) (fun h6 => ?_)
   ·rw [h5,h6] at hf
    conv=>whnf
    exact ⟨Or.inl (congrArg tb hf.symm),trivial⟩
   ·rw [h5,h6] at hf
    conv=>whnf
    exact ⟨i+1,[],[],Sub.mk' rfl ⟨.inl rfl,.inl rfl,.inl (ti_succ hlt hsz),trivial⟩ trivial rfl rfl,⟨by omega,hf⟩,by omega⟩
  ·rw [h5] at hf
   conv=>whnf
   exact ⟨i+1,[],[],Sub.mk' rfl ⟨.inl rfl,.inl rfl,.inl (ti_succ hlt hsz),trivial⟩ trivial rfl rfl,⟨by omega,hf⟩,by omega⟩
 ·have hge:s.size≤i:=by simpa using hge
  rw [show s.size - i=0 by omega] at hf
  conv=>whnf
  refine ⟨fun _ => ?_,fun h=>absurd rfl h⟩
  conv=>whnf
  exact ⟨Or.inl (congrArg tb hf.symm),trivial⟩
end Go.Proofs.YthboippafkcoiaaDoor.am
namespace Go.Proofs.YthboippafkcoiaaDoor.am
open Go Go.Proofs
def checkF (p:Prg):Int × Flt:=bif (firstF p).rule != 0 then (50,firstF p) else (0,⟨0,0⟩)
end Go.Proofs.YthboippafkcoiaaDoor.am
namespace Go.Proofs.YthboippafkcoiaaDoor.am
open Go Go.Proofs
def whenI (rule:Int) (is:Bool):Int:=bif is then rule else 0
theorem k57 (rule:Int) (is:Bool):K 62 [.tr (ti rule),.tr (tb is)] [] (.ret (.tr (ti (whenI rule is)))) []:=by
 refine Ctr.of hT hmix Tryd.func62 rfl (fun _ _=>by kernel_rfl) rfl fun hok => ?_
 conv=>whnf
 (repeat' (refine csplit (fun _ => ?_) (fun _ => ?_) <;> conv=>whnf)) <;> exact ⟨Or.inl (congrArg ti (by simp only [whenI, *] <;> rfl)),trivial⟩
theorem k108 (op:Int):K 86 [.tr (tu op)] [] (.ret (.tr (tb (knownB op)))) []:=by
 refine Ctr.of hT hmix Tryd.func86 rfl (fun _ _=>by kernel_rfl) rfl fun hok => ?_
 conv=>whnf
 (repeat' (refine csplit (fun _ => ?_) (fun _ => ?_) <;> conv=>whnf)) <;> exact ⟨Or.inl (congrArg tb (by simp only [knownB, *] <;> rfl)),trivial⟩
theorem k106 (op:Int):K 76 [.tr (tu op)] [] (.ret (.tr (tb (two op)))) []:=by
 refine Ctr.of hT hmix Tryd.func76 rfl (fun _ _=>by kernel_rfl) rfl fun hok => ?_
 conv=>whnf
 refine acall.pure _ (k108 op) rfl rfl fun _ => ?_
 conv=>whnf
 (repeat' (refine csplit (fun _ => ?_) (fun _ => ?_) <;> conv=>whnf)) <;> exact ⟨Or.inl (congrArg tb (by rw [← two2_eq]; simp only [two2, *] <;> rfl)),trivial⟩
theorem k104 (e:Expr):K 107 [e.av] [] (.ret (.tr (tb (partsB e)))) []:=by
 refine Ctr.of hT hmix Tryd.func107 rfl (fun _ _=>by kernel_rfl) rfl fun hok => ?_
 clear hok
 obtain ⟨kind,op,word,name,kids,at_⟩:=e
 conv=>whnf
 (repeat' (first | (refine csplit (fun _ => ?_) (fun _ => ?_) <;> conv=>whnf) | (refine acall.pure _ (k106 op) rfl rfl fun _ => ?_; conv=>whnf))) <;>
  exact ⟨Or.inl (congrArg tb (by simp only [partsB,noS,seq, *,Bool.and_false,Bool.false_and,Bool.true_and,Bool.and_true,cond_true,cond_false,Bool.or_true,Bool.true_or,Bool.or_false,Bool.false_or] <;> rfl)),trivial⟩
def usesB (k:Int):Bool × Bool × Bool × Bool × Bool × Bool :=
 bif k == 1 then (true,false,true,false,false,true)
 else bif k == 2 then (true,true,true,false,false,true)
 else bif k == 3 then (false,false,true,true,true,true)
 else bif k == 4 then (false,false,true,true,false,true)
 else bif k == 5 then (true,false,false,true,false,true)
 else bif k == 6 then (false,false,true,false,false,true)
 else bif k == 7 then (false,false,false,false,false,true)
 else (false,false,false,false,false,false)
theorem k103 (k:Int):K 106 [.tr (tu k)] [] (.ret (.tup [.agg [.tr (tb (usesB k).1),.tr (tb (usesB k).2.1),.tr (tb (usesB k).2.2.1),.tr (tb (usesB k).2.2.2.1),.tr (tb (usesB k).2.2.2.2.1)],.tr (tb (usesB k).2.2.2.2.2)])) []:=by
 refine Ctr.of hT hmix Tryd.func106 rfl (fun _ _=>by kernel_rfl) rfl fun hok => ?_
 clear hok
 conv=>whnf
 (repeat' (first | (refine csplit (fun _ => ?_) (fun _ => ?_) <;> conv=>whnf) | (refine ⟨by kernel_rfl,fun _ => ?_⟩; conv=>whnf))) <;> first
  | exact ⟨⟨⟨Or.inl (congrArg tb (by simp only [usesB, *] <;> rfl)),Or.inl (congrArg tb (by simp only [usesB, *] <;> rfl)),Or.inl (congrArg tb (by simp only [usesB, *] <;> rfl)),Or.inl (congrArg tb (by simp only [usesB, *] <;> rfl)),Or.inl (congrArg tb (by simp only [usesB, *] <;> rfl)),trivial⟩,
   Or.inl (congrArg tb (by simp only [usesB, *] <;> rfl)),trivial⟩,trivial⟩
  | simp_all
def shapeB:Stmt→Bool
 | .mk kind name other e body els _=>(usesB kind).2.2.2.2.2 && ((Expr.rows e).length:Int) == (bif (usesB kind).2.2.1 then 1 else 0) && ((usesB kind).1 || noS name) && ((usesB kind).2.1 || noS other)
  && ((usesB kind).2.2.2.1 || ((Stmt.rows body).length:Int) == 0) && ((usesB kind).2.2.2.2.1 || ((Stmt.rows els).length:Int) == 0)
theorem uses_cases (k:Int):usesB k=(true,false,true,false,false,true)∧(k == 1)=true∨usesB k=(true,true,true,false,false,true)∧(k == 1)=false∧(k == 2)=true
  ∨ usesB k=(false,false,true,true,true,true)∧(k == 1)=false∧(k == 2)=false∧(k == 3)=true∨usesB k=(false,false,true,true,false,true)∧(k == 1)=false∧(k == 2)=false∧(k == 3)=false∧(k == 4)=true
  ∨ usesB k=(true,false,false,true,false,true)∧(k == 1)=false∧(k == 2)=false∧(k == 3)=false∧(k == 4)=false∧(k == 5)=true
  ∨ usesB k=(false,false,true,false,false,true)∧(k == 1)=false∧(k == 2)=false∧(k == 3)=false∧(k == 4)=false∧(k == 5)=false∧(k == 6)=true
  ∨ usesB k=(false,false,false,false,false,true)∧(k == 1)=false∧(k == 2)=false∧(k == 3)=false∧(k == 4)=false∧(k == 5)=false∧(k == 6)=false∧(k == 7)=true
  ∨ usesB k=(false,false,false,false,false,false)∧(k == 1)=false∧(k == 2)=false∧(k == 3)=false∧(k == 4)=false∧(k == 5)=false∧(k == 6)=false∧(k == 7)=false:=by
 unfold usesB
 cases h1:(k == 1) <;> cases h2:(k == 2) <;> cases h3:(k == 3) <;> cases h4:(k == 4) <;> cases h5:(k == 5) <;> cases h6:(k == 6) <;> cases h7:(k == 7) <;> simp
theorem pos_len (n:Nat):(!decide ((n:Int) > 0))=((n:Int) == 0):=by
 cases n with
 | zero=>rfl
 | succ n=>rw [Bool.eq_iff_iff]; simp; omega
theorem shape_eq (s:Stmt):shapeB s=fieldsB s:=by
 obtain ⟨kind,name,other,e,body,els,at_⟩:=s
 unfold shapeB fieldsB
 simp only [pos_len]
 rcases uses_cases kind with ⟨h,h1⟩ | ⟨h,h1,h2⟩ | ⟨h,h1,h2,h3⟩ | ⟨h,h1,h2,h3,h4⟩ | ⟨h,h1,h2,h3,h4,h5⟩ | ⟨h,h1,h2,h3,h4,h5,h6⟩ | ⟨h,h1,h2,h3,h4,h5,h6,h7⟩ | ⟨h,h1,h2,h3,h4,h5,h6,h7⟩ <;>
  simp only [*,cond_true,cond_false,Bool.true_and,Bool.and_true,Bool.true_or,Bool.false_or,Bool.false_and] <;>
  cases noS name <;> cases noS other <;> cases ((Expr.rows e).length:Int) == 0 <;> cases ((Expr.rows e).length:Int) == 1 <;> cases ((Stmt.rows body).length:Int) == 0 <;> cases ((Stmt.rows els).length:Int) == 0 <;> rfl
set_option maxRecDepth 100000 in
set_option maxHeartbeats 4000000 in
theorem k94 (s:Stmt):K 100 [s.av] [] (.ret (.tr (tb (fieldsB s)))) []:=by
 rw [← shape_eq]
 refine Ctr.of hT hmix Tryd.func100 rfl (fun _ _=>by kernel_rfl) rfl fun hok => ?_
 clear hok
 obtain ⟨kind,name,other,e,body,els,at_⟩:=s
 have hu:=k103 kind
 rcases uses_cases kind with ⟨h,h1⟩ | ⟨h,h1⟩ | ⟨h,h1⟩ | ⟨h,h1⟩ | ⟨h,h1⟩ | ⟨h,h1⟩ | ⟨h,h1⟩ | ⟨h,h1⟩ <;> clear h1 <;> rw [h] at hu <;> conv=>whnf
 all_goals
  refine acall.pure _ hu rfl rfl fun _ => ?_
  clear hu
  conv=>whnf
  (repeat' (refine csplit (fun _ => ?_) (fun _ => ?_) <;> conv=>whnf)) <;> exact ⟨Or.inl (congrArg tb (by simp only [shapeB,noS,seq, *,cond_true,cond_false,Bool.true_and,Bool.and_true,Bool.true_or,Bool.false_or,Bool.false_and,Bool.and_false] <;> rfl)),trivial⟩
end Go.Proofs.YthboippafkcoiaaDoor.am
namespace Go.Proofs.YthboippafkcoiaaDoor.am
open Go Go.Proofs
abbrev MI:=List (MK × Int)
def mapT (M:MI):List (MK × Tr):=M.map fun p=>(p.1,ti p.2)
def mgetI (M:MI) (q:MK):Int:=match M with
 | []=>0
 | (k,v)::r=>bif MK.same q k then v else mgetI r q
theorem mget_T : ∀ (M:MI) (q:MK),(mget (mapT M) q).getD (ti 0)=ti (mgetI M q)
 | [],q=>rfl
 | (k,v)::r,q=>by
   show (bif MK.same q k then some (ti v) else mget (mapT r) q).getD (ti 0)=ti (bif MK.same q k then v else mgetI r q)
   cases MK.same q k with
   | true=>rfl
   | false=>exact mget_T r q
theorem mgetZ (M:MI) (q:MK):(mget (mapT M) q).getD (Tr.v (Z.val (.i .i64)))=ti (mgetI M q):=mget_T M q
abbrev walkB (p:Prg):Blk := .cells 125 [.tr (declsT p.shared),.tr (declsT p.locks),.tr (threadsT p.threads),.mp 1,.mp 2]
abbrev wbin (p:Prg) (top locals:MI):List Blk:=[walkB p,.map .string (mapT top),.map .string (mapT locals)]
abbrev wbout (p:Prg) (top locals:MI):List (Option Blk):=(wbin p top locals).map some
def variableW (top locals:MI) (name:ByteArray) (alone:Bool):Int :=
 bif decide (mgetI locals (.ks name) > 0) then whenI 6 alone
 else bif mgetI top (.ks name) == 0 then 5
 else whenI 6 (mgetI top (.ks name) != 1)
theorem k95 (p:Prg) (top locals:MI) (name:ByteArray) (alone:Bool):K 101 [.ptr 0 0,.tr (ts name),.tr (tb alone)] (wbin p top locals) (.ret (.tr (ti (variableW top locals name alone)))) (wbout p top locals):=by
 refine Ctr.of hT hmix Tryd.func101 rfl (fun _ _=>by kernel_rfl) rfl fun hok => ?_
 clear hok
 conv=>whnf
 rw [mgetZ]
 conv=>whnf
 refine csplit (fun h1 => ?_) (fun h1 => ?_)
 ·conv=>whnf
  refine acall.pure _ (k57 6 alone) rfl rfl fun _ => ?_
  conv=>whnf
  exact ⟨Or.inl (congrArg ti (by simp only [variableW,h1] <;> rfl)),⟨rfl,.inl rfl,.inl rfl,.inl rfl,rfl,rfl,trivial⟩,⟨rfl,rfl⟩,⟨rfl,rfl⟩,trivial⟩
 conv=>whnf
 rw [mgetZ]
 conv=>whnf
 refine csplit (fun h2 => ?_) (fun h2 => ?_)
 ·conv=>whnf
  exact ⟨Or.inl (congrArg ti (by simp only [variableW,h1,h2] <;> rfl)),⟨rfl,.inl rfl,.inl rfl,.inl rfl,rfl,rfl,trivial⟩,⟨rfl,rfl⟩,⟨rfl,rfl⟩,trivial⟩
 conv=>whnf
 rw [mgetZ]
 conv=>whnf
 refine acall.pure _ (k57 6 (mgetI top (.ks name) != 1)) rfl rfl fun _ => ?_
 conv=>whnf
 exact ⟨Or.inl (congrArg ti (by simp only [variableW,h1,h2] <;> rfl)),⟨rfl,.inl rfl,.inl rfl,.inl rfl,rfl,rfl,trivial⟩,⟨rfl,rfl⟩,⟨rfl,rfl⟩,trivial⟩
def guardW (top locals:MI) (name:ByteArray):Int :=
 bif mgetI top (.ks name) == 0 && mgetI locals (.ks name) == 0 then 5
 else whenI 6 (decide (mgetI locals (.ks name) > 0) || mgetI top (.ks name) != 2)
theorem k96 (p:Prg) (top locals:MI) (name:ByteArray):K 102 [.ptr 0 0,.tr (ts name)] (wbin p top locals) (.ret (.tr (ti (guardW top locals name)))) (wbout p top locals):=by
 refine Ctr.cut [3] hT hmix Tryd.func102 rfl (fun _ _=>by kernel_rfl) rfl fun hok => ?_
 clear hok
 conv=>whnf
 refine CutL.by (fun _:Unit=>⟨[(0,.ptr 0 0),(1,.tr (ts name))],[(0,walkB p),(1,.map .string (mapT top)),(2,.map .string (mapT locals))],3⟩) (fun _=>(mgetI top (.ks name) == 0 && mgetI locals (.ks name) == 0)=false) ?_ ?_
 ·conv=>whnf
  rw [mgetZ]
  conv=>whnf
  refine csplit (fun h1 => ?_) (fun h1 => ?_)
  ·conv=>whnf
   rw [mgetZ]
   conv=>whnf
   refine csplit (fun h2 => ?_) (fun h2 => ?_)
   ·conv=>whnf
    exact ⟨Or.inl (congrArg ti (by simp only [guardW, *] <;> rfl)),⟨rfl,.inl rfl,.inl rfl,.inl rfl,rfl,rfl,trivial⟩,⟨rfl,rfl⟩,⟨rfl,rfl⟩,trivial⟩
   ·conv=>whnf
    exact ⟨(),[0,1,2],[],Sub.mk' rfl ⟨⟨rfl,rfl⟩,.inl rfl,trivial⟩ ⟨⟨rfl,.inl rfl,.inl rfl,.inl rfl,rfl,rfl,trivial⟩,⟨rfl,rfl⟩,⟨rfl,rfl⟩,trivial⟩ rfl rfl,by simp only [*] <;> rfl⟩
  ·conv=>whnf
   exact ⟨(),[0,1,2],[],Sub.mk' rfl ⟨⟨rfl,rfl⟩,.inl rfl,trivial⟩ ⟨⟨rfl,.inl rfl,.inl rfl,.inl rfl,rfl,rfl,trivial⟩,⟨rfl,rfl⟩,⟨rfl,rfl⟩,trivial⟩ rfl rfl,by simp only [*] <;> rfl⟩
 rintro _ h1 -
 conv=>whnf
 rw [mgetZ]
 conv=>whnf
 refine csplit (fun h2 => ?_) (fun h2 => ?_)
 ·conv=>whnf
  refine acall.pure _ (k57 6 true) rfl rfl fun _ => ?_
  conv=>whnf
  exact ⟨Or.inl (congrArg ti (by simp only [guardW, *] <;> rfl)),⟨rfl,.inl rfl,.inl rfl,.inl rfl,rfl,rfl,trivial⟩,⟨rfl,rfl⟩,⟨rfl,rfl⟩,trivial⟩
 conv=>whnf
 rw [mgetZ]
 conv=>whnf
 refine acall.pure _ (k57 6 (mgetI top (.ks name) != 2)) rfl rfl fun _ => ?_
 conv=>whnf
 exact ⟨Or.inl (congrArg ti (by simp only [guardW, *] <;> rfl)),⟨rfl,.inl rfl,.inl rfl,.inl rfl,rfl,rfl,trivial⟩,⟨rfl,rfl⟩,⟨rfl,rfl⟩,trivial⟩
end Go.Proofs.YthboippafkcoiaaDoor.am
namespace Go.Proofs.YthboippafkcoiaaDoor.am
open Go Go.Proofs
def leastW:List Int→Int→Int
 | [],a=>a
 | r::l,a=>leastW l (bif decide (r > 0) && ((a == 0) || decide (r<a)) then r else a)
theorem leastW_at {l:List Int} {i:Nat} {r a:Int} (h:l[i]? = some r):leastW (l.drop i) a=leastW (l.drop (i+1)) (bif decide (r > 0) && ((a == 0) || decide (r<a)) then r else a):=by
 rw [drop_cons h]; rfl
abbrev brk (at_ rule:Int):AV := .ifc 119 (.agg [.tr (ti at_),.tr (ti rule)])
def brkR (b:Bool) (at_ rule:Int):AE:=bif b then .pan (brk at_ rule) else .ret (.tup [])
theorem k56 (at_:Int) (rules:List Int) (b:Bool) (hb:decide (leastW rules 0 > 0)=b):K 61 [.tr (ti at_),.tr (intsT rules)] [] (brkR b at_ (leastW rules 0)) []:=by
 refine Ctr.cut [] hT hmix Tryd.func61 rfl (fun _ _=>by kernel_rfl) rfl fun hok => ?_
 obtain ⟨_,hl,_⟩:=(hok.slot 1 rfl).tr.lst
 rw [List.length_map] at hl
 clear hok
 conv=>whnf
 refine LoopL.by (fun x:Nat × Int=>⟨[(0,.tr (ti at_)),(4,.tr (ti x.2)),(7,.tr (intsT rules)),(8,.tr (ti (rules.map fun r=>[ti r]).length)),(9,.tr (ti x.1))],[],33⟩)
  (fun x=>x.1≤rules.length∧leastW rules 0=leastW (rules.drop x.1) x.2) (fun x=>rules.length - x.1) (0,0) [] []
  (Sub.mk' rfl ⟨.inl rfl,.inl rfl,.inl rfl,.inl rfl,.inl rfl,trivial⟩ trivial rfl rfl) ⟨Nat.zero_le _,rfl⟩ ?_
 rintro ⟨i,a⟩ ⟨hi,hf⟩ -
 have hi:i≤rules.length:=hi
 have hf:leastW rules 0=leastW (rules.drop i) a:=hf
 conv=>whnf
 refine csplit (fun hlt => ?_) (fun hge => ?_)
 ·have hlt:i<rules.length:=by rw [List.length_map] at hlt; simpa using hlt
  conv=>whnf
  refine ⟨rfl,by omega,by rw [List.length_map]; omega,fun row hrow => ?_⟩
  obtain ⟨r,hd,rfl⟩:=map_get hrow
  replace hd:rules[i]? = some r:=hd
  rw [leastW_at hd] at hf
  clear hrow
  conv=>whnf
  (repeat' (refine csplit (fun _ => ?_) (fun _ => ?_) <;> conv=>whnf)) <;>
   exact ⟨(i+1,_),[],[],Sub.mk' rfl ⟨.inl rfl,.inl rfl,.inl rfl,.inl rfl,.inl (ti_succ hlt hl),trivial⟩ trivial rfl rfl,⟨hlt,by rw [hf]; clear hf hb; simp only [*] <;> rfl⟩,by show rules.length - (i+1)<rules.length - i; omega⟩
 ·have hge:rules.length≤i:=by rw [List.length_map] at hge; simpa using hge
  rw [List.drop_eq_nil_of_le hge] at hf
  have hf:leastW rules 0=a:=hf
  conv=>whnf
  refine ⟨fun _ => ?_,fun h=>absurd rfl h⟩
  conv=>whnf
  rw [hf] at hb ⊢
  refine csplit (fun h => ?_) (fun h => ?_)
  ·have:b=true:=hb.symm.trans h
   subst this
   conv=>whnf
   exact ⟨⟨rfl,⟨Or.inl rfl,Or.inl rfl,trivial⟩⟩,trivial⟩
  ·have:b=false:=hb.symm.trans h
   subst this
   conv=>whnf
   exact ⟨trivial,trivial⟩
end Go.Proofs.YthboippafkcoiaaDoor.am
namespace Go.Proofs.YthboippafkcoiaaDoor.am
open Go Go.Proofs
def exprRules (top locals:MI) (kind op word:Int) (name:ByteArray) (kids:List Expr) (at_ deep:Int):List Int :=
 [whenI 4 (!partsB (.mk kind op word name kids at_)),(bif kind == 2 then variableW top locals name false else 0),whenI 7 (decide (deep > 64))]
mutual
def exprW (top locals:MI):Expr→Int→Option Flt
 | .mk kind op word name kids at_,deep=>bif decide (leastW (exprRules top locals kind op word name kids at_ deep) 0 > 0) then some ⟨at_,leastW (exprRules top locals kind op word name kids at_ deep) 0⟩
  else exprsW top locals kids (deep+1)
def exprsW (top locals:MI):List Expr→Int→Option Flt
 | [],_=>none
 | e::l,deep=>match exprW top locals e deep with
  | some f=>some f
  | none=>exprsW top locals l deep
end
theorem exprsW_at {top locals:MI} {l:List Expr} {i:Nat} {d:Expr} {dp:Int} (h:l[i]? = some d):exprsW top locals (l.drop i) dp=match exprW top locals d dp with | some f=>some f | none=>exprsW top locals (l.drop (i+1)) dp:=by
 rw [drop_cons h]; rfl
def resW:Option Flt→AE
 | some f => .pan (brk f.at_ f.rule)
 | none => .ret (.tup [])
theorem wrap_deep {deep:Int} {l:List Int} (h1 : -9223372036854775808≤deep) (h:decide (leastW (l++[whenI 7 (decide (deep > 64))]) 0 > 0)=false):deep≤64:=by
 have key : ∀ (l:List Int) (a:Int),0≤a→decide (leastW (l++[whenI 7 (decide (deep > 64))]) a > 0)=false→deep≤64:=by
  intro l
  induction l with
  | nil =>
   intro a ha h
   have h:=of_decide_eq_false h
   cases hq:decide (deep > 64) with
   | false=>have:=of_decide_eq_false hq; omega
   | true =>
    exfalso
    apply h
    show leastW [] (bif decide (whenI 7 (decide (deep > 64)) > 0) && ((a == 0) || decide (whenI 7 (decide (deep > 64))<a)) then whenI 7 (decide (deep > 64)) else a) > 0
    rw [hq]
    show (bif true && ((a == 0) || decide ((7:Int)<a)) then (7:Int) else a) > 0
    rw [Bool.true_and]
    cases hc:(a == 0) || decide ((7:Int)<a) with
    | true=>show (7:Int) > 0; omega
    | false =>
     show a > 0
     simp only [Bool.or_eq_false_iff] at hc
     have:a≠0:=by simpa using hc.1
     omega
  | cons r l ih =>
   intro a ha h
   refine ih (bif decide (r > 0) && ((a == 0) || decide (r<a)) then r else a) ?_ h
   cases hr:decide (r > 0) with
   | false=>exact ha
   | true =>
    have:=of_decide_eq_true hr
    rw [Bool.true_and]
    cases ((a == 0) || decide (r<a)) with
    | true=>show (0:Int)≤r; omega
    | false=>exact ha
 exact key l 0 (Int.le_refl 0) h
theorem k97 (p:Prg) (top locals:MI) : ∀ (n:Nat) (e:Expr) (deep:Int),SizeOf.sizeOf e<n→K 103 [.ptr 0 0,e.av,.tr (ti deep)] (wbin p top locals) (resW (exprW top locals e deep)) (wbout p top locals):=by
 intro n
 induction n with
 | zero=>intro e deep h; omega
 | succ n ih =>
 intro e deep hsz
 refine Ctr.cut [4] hT hmix Tryd.func103 rfl (fun _ _=>by kernel_rfl) rfl fun hok => ?_
 obtain ⟨kind,op,word,name,kids,at_⟩:=e
 have hdeep:=(hok.slot 2 rfl).tr.i64
 have hkl:=((hok.slot 1 rfl).agg _ (.tail _ (.tail _ (.tail _ (.tail _ (.head _)))))).tr.lst.2.1
 rw [erows_len] at hkl
 simp only [Expr.mk.sizeOf_spec] at hsz
 clear hok
 conv=>whnf
 refine CutL.by (fun r:Int=>⟨[(0,.ptr 0 0),(2,.tr (ti deep)),(4,.ptr 3 0),(6,.tr (ti r))],[(0,walkB p),(1,.map .string (mapT top)),(2,.map .string (mapT locals)),(3,.cells 81 ((Expr.mk kind op word name kids at_).cells.map .tr))],4⟩)
  (fun r=>r=bif kind == 2 then variableW top locals name false else 0) ?_ ?_
 ·conv=>whnf
  refine csplit (fun h2 => ?_) (fun h2 => ?_)
  ·conv=>whnf
   refine acall.gen [0,1,2] [] [.ptr 0 0,.tr (ts name),.tr (tb false)] (wbin p top locals) _ (wbout p top locals) (k95 p top locals name false) rfl rfl rfl rfl ⟨⟨rfl,rfl⟩,.inl rfl,.inl rfl,trivial⟩ ⟨⟨rfl,.inl rfl,.inl rfl,.inl rfl,rfl,rfl,trivial⟩,⟨rfl,rfl⟩,⟨rfl,rfl⟩,trivial⟩ rfl rfl fun _ => ?_
   conv=>whnf
   exact ⟨_,[0,1,2,3],[],Sub.mk' rfl ⟨⟨rfl,rfl⟩,.inl rfl,⟨rfl,rfl⟩,.inl rfl,trivial⟩ ⟨⟨rfl,.inl rfl,.inl rfl,.inl rfl,rfl,rfl,trivial⟩,⟨rfl,rfl⟩,⟨rfl,rfl⟩,⟨rfl,.inl rfl,.inl rfl,.inl rfl,.inl rfl,.inl rfl,.inl rfl,trivial⟩,trivial⟩ rfl rfl,by rw [h2]; rfl⟩
  ·conv=>whnf
   exact ⟨_,[0,1,2,3],[],Sub.mk' rfl ⟨⟨rfl,rfl⟩,.inl rfl,⟨rfl,rfl⟩,.inl rfl,trivial⟩ ⟨⟨rfl,.inl rfl,.inl rfl,.inl rfl,rfl,rfl,trivial⟩,⟨rfl,rfl⟩,⟨rfl,rfl⟩,⟨rfl,.inl rfl,.inl rfl,.inl rfl,.inl rfl,.inl rfl,.inl rfl,trivial⟩,trivial⟩ rfl rfl,by rw [h2]; rfl⟩
 rintro r hr -
 have hL:exprRules top locals kind op word name kids at_ deep=[whenI 4 (!partsB (.mk kind op word name kids at_)),r,whenI 7 (decide (deep > 64))]:=by unfold exprRules; rw [hr]
 conv=>whnf
 refine acall.pure _ (k104 (.mk kind op word name kids at_)) rfl rfl ?_
 conv=>whnf
 refine acall.pure _ (k57 4 (!partsB (.mk kind op word name kids at_))) rfl rfl ?_
 conv=>whnf
 refine acall.pure _ (k57 7 (decide (deep > 64))) rfl rfl ?_
 conv=>whnf
 cases hb:decide (leastW [whenI 4 (!partsB (.mk kind op word name kids at_)),r,whenI 7 (decide (deep > 64))] 0 > 0) with
 | true =>
  have hE:exprW top locals (.mk kind op word name kids at_) deep=some ⟨at_,leastW [whenI 4 (!partsB (.mk kind op word name kids at_)),r,whenI 7 (decide (deep > 64))] 0⟩:=by unfold exprW; rw [hL,hb]; rfl
  rw [hE]
  refine acall.gen [] [14] [.tr (ti at_),.tr (intsT [whenI 4 (!partsB (.mk kind op word name kids at_)),r,whenI 7 (decide (deep > 64))])] [] _ [] (k56 at_ _ true hb) rfl rfl rfl rfl ⟨.inl rfl,⟨rfl,Nat.le_refl 3,rfl⟩,trivial⟩ trivial rfl rfl ?_
  conv=>whnf
  refine ⟨by kernel_rfl,by kernel_rfl,?_⟩
  conv=>whnf
  exact ⟨⟨rfl,Or.inl rfl,Or.inl rfl,trivial⟩,⟨rfl,.inl rfl,.inl rfl,.inl rfl,rfl,rfl,trivial⟩,⟨rfl,rfl⟩,⟨rfl,rfl⟩,trivial⟩
 | false =>
  have hE:exprW top locals (.mk kind op word name kids at_) deep=exprsW top locals kids (deep+1):=by unfold exprW; rw [hL,hb]; rfl
  rw [hE]
  have hd64:deep≤64:=wrap_deep (l:=[_,_]) hdeep.1 hb
  have hw:IntKind.i64.wrap (deep+1)=deep+1:=w64 (by omega) (by omega)
  refine acall.gen [] [14] [.tr (ti at_),.tr (intsT [whenI 4 (!partsB (.mk kind op word name kids at_)),r,whenI 7 (decide (deep > 64))])] [] _ [] (k56 at_ _ false hb) rfl rfl rfl rfl ⟨.inl rfl,⟨rfl,Nat.le_refl 3,rfl⟩,trivial⟩ trivial rfl rfl ?_
  conv=>whnf
  refine ⟨by kernel_rfl,fun _ => ?_⟩
  conv=>whnf
  refine LoopL.by (fun i:Nat=>⟨[(0,.ptr 0 0),(2,.tr (ti deep)),(29,.tr (exprsT kids)),(30,.tr (ti (Expr.rows kids).length)),(31,.tr (ti i))],[(0,walkB p),(1,.map .string (mapT top)),(2,.map .string (mapT locals))],3⟩)
   (fun i=>i≤kids.length∧exprsW top locals kids (deep+1)=exprsW top locals (kids.drop i) (deep+1)) (fun i=>kids.length - i) 0 [0,1,2] []
   (Sub.mk' rfl ⟨⟨rfl,rfl⟩,.inl rfl,.inl rfl,.inl rfl,.inl rfl,trivial⟩ ⟨⟨rfl,.inl rfl,.inl rfl,.inl rfl,rfl,rfl,trivial⟩,⟨rfl,rfl⟩,⟨rfl,rfl⟩,trivial⟩ rfl rfl) ⟨Nat.zero_le _,rfl⟩ ?_
  rintro i ⟨hi,hf⟩ -
  conv=>whnf
  refine csplit (fun hlt => ?_) (fun hge => ?_)
  ·have hlt:i<kids.length:=by rw [erows_len] at hlt; simpa using hlt
   conv=>whnf
   refine ⟨rfl,by omega,by rw [erows_len]; omega,fun row hrow => ?_⟩
   obtain ⟨d,hd,rfl⟩:=erows_get hrow
   replace hd:kids[i]? = some d:=hd
   have hsd:=size_kid hd
   rw [exprsW_at hd] at hf
   clear hrow
   cases ho:exprW top locals d (deep+1) with
   | some f =>
    have hih:K 103 [.ptr 0 0,d.av,.tr (ti (IntKind.i64.wrap (deep+1)))] (wbin p top locals) (resW (some f)) (wbout p top locals):=by rw [hw,← ho]; exact ih d (deep+1) (by omega)
    rw [ho] at hf
    have hf:exprsW top locals kids (deep+1)=some f:=hf
    rw [hf]
    obtain ⟨k1,k2,k3,k4,k5,k6⟩:=d
    conv=>whnf
    refine acall.gen [0,1,2] [] _ (wbin p top locals) _ (wbout p top locals) hih rfl rfl rfl rfl ⟨⟨rfl,rfl⟩,⟨.inl rfl,.inl rfl,.inl rfl,.inl rfl,.inl rfl,.inl rfl,trivial⟩,.inl rfl,trivial⟩ ⟨⟨rfl,.inl rfl,.inl rfl,.inl rfl,rfl,rfl,trivial⟩,⟨rfl,rfl⟩,⟨rfl,rfl⟩,trivial⟩ rfl rfl fun _ => ?_
    conv=>whnf
    exact ⟨⟨rfl,Or.inl rfl,Or.inl rfl,trivial⟩,⟨rfl,.inl rfl,.inl rfl,.inl rfl,rfl,rfl,trivial⟩,⟨rfl,rfl⟩,⟨rfl,rfl⟩,trivial⟩
   | none =>
    have hih:K 103 [.ptr 0 0,d.av,.tr (ti (IntKind.i64.wrap (deep+1)))] (wbin p top locals) (resW none) (wbout p top locals):=by rw [hw,← ho]; exact ih d (deep+1) (by omega)
    rw [ho] at hf
    have hf:exprsW top locals kids (deep+1)=exprsW top locals (kids.drop (i+1)) (deep+1):=hf
    obtain ⟨k1,k2,k3,k4,k5,k6⟩:=d
    conv=>whnf
    refine acall.gen [0,1,2] [] _ (wbin p top locals) _ (wbout p top locals) hih rfl rfl rfl rfl ⟨⟨rfl,rfl⟩,⟨.inl rfl,.inl rfl,.inl rfl,.inl rfl,.inl rfl,.inl rfl,trivial⟩,.inl rfl,trivial⟩ ⟨⟨rfl,.inl rfl,.inl rfl,.inl rfl,rfl,rfl,trivial⟩,⟨rfl,rfl⟩,⟨rfl,rfl⟩,trivial⟩ rfl rfl fun _ => ?_
    conv=>whnf
    exact ⟨i+1,[0,1,2],[],Sub.mk' rfl ⟨⟨rfl,rfl⟩,.inl rfl,.inl rfl,.inl rfl,.inl (ti_succ hlt hkl),trivial⟩ ⟨⟨rfl,.inl rfl,.inl rfl,.inl rfl,rfl,rfl,trivial⟩,⟨rfl,rfl⟩,⟨rfl,rfl⟩,trivial⟩ rfl rfl,⟨hlt,hf⟩,by omega⟩
  ·have hge:kids.length≤i:=by rw [erows_len] at hge; simpa using hge
   rw [List.drop_eq_nil_of_le hge] at hf
   have hf:exprsW top locals kids (deep+1)=none:=hf
   rw [hf]
   conv=>whnf
   refine ⟨fun _ => ?_,fun h=>absurd rfl h⟩
   conv=>whnf
   exact ⟨trivial,⟨rfl,.inl rfl,.inl rfl,.inl rfl,rfl,rfl,trivial⟩,⟨rfl,rfl⟩,⟨rfl,rfl⟩,trivial⟩
end Go.Proofs.YthboippafkcoiaaDoor.am
namespace Go.Proofs.YthboippafkcoiaaDoor.am
open Go Go.Proofs
theorem leastW_pos : ∀ (l:List Int) (a:Int),0≤a→(a > 0 ∨ ∃ r ∈ l,r > 0)→leastW l a > 0
 | [],a,_,h=>by
   rcases h with h | ⟨r,hr,_⟩
   ·exact h
   ·simp at hr
 | r::l,a,ha,h=>by
   have step:0≤(bif decide (r > 0) && ((a == 0) || decide (r<a)) then r else a)∧((a > 0∨r > 0)→(bif decide (r > 0) && ((a == 0) || decide (r<a)) then r else a) > 0):=by
    cases hr:decide (r > 0) with
    | false =>
     have:=of_decide_eq_false hr
     exact ⟨ha,fun h=>by show a > 0; omega⟩
    | true =>
     have hr':=of_decide_eq_true hr
     rw [Bool.true_and]
     cases hc:((a == 0) || decide (r<a)) with
     | true=>exact ⟨by show (0:Int)≤r; omega,fun _=>hr'⟩
     | false =>
      simp only [Bool.or_eq_false_iff] at hc
      have h0:a≠0:=by simpa using hc.1
      exact ⟨ha,fun _=>by show a > 0; omega⟩
   refine leastW_pos l _ step.1 ?_
   rcases h with h | ⟨x,hx,hp⟩
   ·exact .inl (step.2 (.inl h))
   ·rcases List.mem_cons.1 hx with rfl | hx
    ·exact .inl (step.2 (.inr hp))
    ·exact .inr ⟨x,hx,hp⟩
theorem deep_of {deep:Int} {l:List Int} (hm:whenI 7 (decide (deep > 64)) ∈ l) (h:decide (leastW l 0 > 0)=false):deep≤64:=by
 cases hq:decide (deep > 64) with
 | false=>have:=of_decide_eq_false hq; omega
 | true=>exact absurd (leastW_pos l 0 (Int.le_refl 0) (.inr ⟨_,hm,by rw [hq]; decide⟩)) (of_decide_eq_false h)
def stmtRules (top locals:MI) (kind:Int) (name other:ByteArray) (e:List Expr) (body els:List Stmt) (at_ deep:Int):List Int :=
 bif kind == 1 then [whenI 4 (!fieldsB (.mk kind name other e body els at_)),whenI 7 (decide (deep > 64)),variableW top locals name false]
 else bif kind == 2 then [whenI 4 (!fieldsB (.mk kind name other e body els at_)),whenI 7 (decide (deep > 64)),variableW top locals name false,variableW top locals other true]
 else bif kind == 5 then [whenI 4 (!fieldsB (.mk kind name other e body els at_)),whenI 7 (decide (deep > 64)),guardW top locals name]
 else [whenI 4 (!fieldsB (.mk kind name other e body els at_)),whenI 7 (decide (deep > 64))]
theorem stmtRules_deep (top locals:MI) (kind:Int) (name other:ByteArray) (e:List Expr) (body els:List Stmt) (at_ deep:Int):whenI 7 (decide (deep > 64)) ∈ stmtRules top locals kind name other e body els at_ deep:=by
 unfold stmtRules
 cases kind == 1 <;> cases kind == 2 <;> cases kind == 5 <;> simp
mutual
def stmtW (top locals:MI):Stmt→Int→Option Flt
 | .mk kind name other e body els at_,deep=>bif decide (leastW (stmtRules top locals kind name other e body els at_ deep) 0 > 0) then some ⟨at_,leastW (stmtRules top locals kind name other e body els at_ deep) 0⟩
  else match exprsW top locals e 1 with
   | some f=>some f
   | none=>match blockW top locals body (deep+1) with
    | some f=>some f
    | none=>blockW top locals els (deep+1)
def blockW (top locals:MI):List Stmt→Int→Option Flt
 | [],_=>none
 | e::l,deep=>match stmtW top locals e deep with
  | some f=>some f
  | none=>blockW top locals l deep
end
theorem blockW_at {top locals:MI} {l:List Stmt} {i:Nat} {d:Stmt} {dp:Int} (h:l[i]? = some d):blockW top locals (l.drop i) dp=match stmtW top locals d dp with | some f=>some f | none=>blockW top locals (l.drop (i+1)) dp:=by
 rw [drop_cons h]; rfl
set_option maxHeartbeats 1000000 in
theorem k90_82 (p:Prg) (top locals:MI) : ∀ (n:Nat),
  (∀ (s:Stmt) (deep:Int),SizeOf.sizeOf s<n→K 92 [.ptr 0 0,s.av,.tr (ti deep)] (wbin p top locals) (resW (stmtW top locals s deep)) (wbout p top locals)) ∧
  (∀ (l:List Stmt) (deep:Int),SizeOf.sizeOf l<n→K 83 [.ptr 0 0,.tr (stmtsT l),.tr (ti deep)] (wbin p top locals) (resW (blockW top locals l deep)) (wbout p top locals)):=by
 intro n
 induction n with
 | zero=>exact ⟨fun s deep h=>by omega,fun l deep h=>by omega⟩
 | succ n ih =>
 obtain ⟨ihs,ihl⟩:=ih
 constructor
 ·intro s deep hsz
  refine Ctr.cut [9] hT hmix Tryd.func92 rfl (fun _ _=>by kernel_rfl) rfl fun hok => ?_
  obtain ⟨kind,name,other,e,body,els,at_⟩:=s
  have hdeep:=(hok.slot 2 rfl).tr.i64
  have hel:=((hok.slot 1 rfl).agg _ (.tail _ (.tail _ (.tail _ (.head _))))).tr.lst.2.1
  rw [erows_len] at hel
  simp only [Stmt.mk.sizeOf_spec] at hsz
  clear hok
  conv=>whnf
  refine acall.pure _ (k94 (.mk kind name other e body els at_)) rfl rfl fun _ => ?_
  conv=>whnf
  refine acall.pure _ (k57 4 (!fieldsB (.mk kind name other e body els at_))) rfl rfl fun _ => ?_
  conv=>whnf
  refine acall.pure _ (k57 7 (decide (deep > 64))) rfl rfl fun _ => ?_
  conv=>whnf
  refine CutL.by (fun rules:List Int=>⟨[(0,.ptr 0 0),(2,.tr (ti deep)),(4,.ptr 3 0),(6,.sl 4 rules.length)],[(0,walkB p),(1,.map .string (mapT top)),(2,.map .string (mapT locals)),(3,.cells 77 ((Stmt.mk kind name other e body els at_).cells.map .tr)),(4,.vec 3 1 8 (rules.map fun r=>[ti r]))],5⟩)
   (fun rules=>rules=stmtRules top locals kind name other e body els at_ deep) ?_ ?_
  ·conv=>whnf
   refine csplit (fun h1 => ?_) (fun h1 => ?_)
   ·conv=>whnf
    refine acall.gen [0,1,2] [] [.ptr 0 0,.tr (ts name),.tr (tb false)] (wbin p top locals) _ (wbout p top locals) (k95 p top locals name false) rfl rfl rfl rfl ⟨⟨rfl,rfl⟩,.inl rfl,.inl rfl,trivial⟩ ⟨⟨rfl,.inl rfl,.inl rfl,.inl rfl,rfl,rfl,trivial⟩,⟨rfl,rfl⟩,⟨rfl,rfl⟩,trivial⟩ rfl rfl fun _ => ?_
    conv=>whnf
    refine ⟨rfl,rfl,rfl,Nat.le_refl 2,Nat.le_of_ble_eq_true rfl,fun q hq => ?_,?_⟩
    ·cases hq with
     | head=>exact Nat.ne_of_beq_eq_false rfl
     | tail _ h=>cases h
    conv=>whnf
    exact ⟨[whenI 4 (!fieldsB (.mk kind name other e body els at_)),whenI 7 (decide (deep > 64)),variableW top locals name false],[0,1,2,3,23],[],Sub.mk' rfl ⟨⟨rfl,rfl⟩,.inl rfl,⟨rfl,rfl⟩,⟨rfl,rfl⟩,trivial⟩ ⟨⟨rfl,.inl rfl,.inl rfl,.inl rfl,rfl,rfl,trivial⟩,⟨rfl,rfl⟩,⟨rfl,rfl⟩,⟨rfl,.inl rfl,.inl rfl,.inl rfl,.inl rfl,.inl rfl,.inl rfl,.inl rfl,trivial⟩,⟨rfl,rfl,rfl,rfl⟩,trivial⟩ rfl rfl,by simp only [stmtRules,h1] <;> rfl⟩
   conv=>whnf
   refine csplit (fun h2 => ?_) (fun h2 => ?_)
   ·conv=>whnf
    refine acall.gen [0,1,2] [] [.ptr 0 0,.tr (ts name),.tr (tb false)] (wbin p top locals) _ (wbout p top locals) (k95 p top locals name false) rfl rfl rfl rfl ⟨⟨rfl,rfl⟩,.inl rfl,.inl rfl,trivial⟩ ⟨⟨rfl,.inl rfl,.inl rfl,.inl rfl,rfl,rfl,trivial⟩,⟨rfl,rfl⟩,⟨rfl,rfl⟩,trivial⟩ rfl rfl ?_
    conv=>whnf
    refine acall.gen [0,1,2] [] [.ptr 0 0,.tr (ts other),.tr (tb true)] (wbin p top locals) _ (wbout p top locals) (k95 p top locals other true) rfl rfl rfl rfl ⟨⟨rfl,rfl⟩,.inl rfl,.inl rfl,trivial⟩ ⟨⟨rfl,.inl rfl,.inl rfl,.inl rfl,rfl,rfl,trivial⟩,⟨rfl,rfl⟩,⟨rfl,rfl⟩,trivial⟩ rfl rfl ?_
    conv=>whnf
    refine ⟨rfl,rfl,rfl,Nat.le_refl 2,Nat.le_of_ble_eq_true rfl,fun q hq => ?_,?_⟩
    ·cases hq with
     | head=>exact Nat.ne_of_beq_eq_false rfl
     | tail _ h=>cases h
    conv=>whnf
    refine ⟨by kernel_rfl,fun _ => ?_⟩
    conv=>whnf
    exact ⟨[whenI 4 (!fieldsB (.mk kind name other e body els at_)),whenI 7 (decide (deep > 64)),variableW top locals name false,variableW top locals other true],[0,1,2,3,29],[],Sub.mk' rfl ⟨⟨rfl,rfl⟩,.inl rfl,⟨rfl,rfl⟩,⟨rfl,rfl⟩,trivial⟩ ⟨⟨rfl,.inl rfl,.inl rfl,.inl rfl,rfl,rfl,trivial⟩,⟨rfl,rfl⟩,⟨rfl,rfl⟩,⟨rfl,.inl rfl,.inl rfl,.inl rfl,.inl rfl,.inl rfl,.inl rfl,.inl rfl,trivial⟩,⟨rfl,rfl,rfl,rfl⟩,trivial⟩ rfl rfl,by simp only [stmtRules,h1,h2] <;> rfl⟩
   conv=>whnf
   refine csplit (fun h3 => ?_) (fun h3 => ?_)
   ·conv=>whnf
    refine acall.gen [0,1,2] [] [.ptr 0 0,.tr (ts name)] (wbin p top locals) _ (wbout p top locals) (k96 p top locals name) rfl rfl rfl rfl ⟨⟨rfl,rfl⟩,.inl rfl,trivial⟩ ⟨⟨rfl,.inl rfl,.inl rfl,.inl rfl,rfl,rfl,trivial⟩,⟨rfl,rfl⟩,⟨rfl,rfl⟩,trivial⟩ rfl rfl fun _ => ?_
    conv=>whnf
    refine ⟨rfl,rfl,rfl,Nat.le_refl 2,Nat.le_of_ble_eq_true rfl,fun q hq => ?_,?_⟩
    ·cases hq with
     | head=>exact Nat.ne_of_beq_eq_false rfl
     | tail _ h=>cases h
    conv=>whnf
    exact ⟨[whenI 4 (!fieldsB (.mk kind name other e body els at_)),whenI 7 (decide (deep > 64)),guardW top locals name],[0,1,2,3,27],[],Sub.mk' rfl ⟨⟨rfl,rfl⟩,.inl rfl,⟨rfl,rfl⟩,⟨rfl,rfl⟩,trivial⟩ ⟨⟨rfl,.inl rfl,.inl rfl,.inl rfl,rfl,rfl,trivial⟩,⟨rfl,rfl⟩,⟨rfl,rfl⟩,⟨rfl,.inl rfl,.inl rfl,.inl rfl,.inl rfl,.inl rfl,.inl rfl,.inl rfl,trivial⟩,⟨rfl,rfl,rfl,rfl⟩,trivial⟩ rfl rfl,by simp only [stmtRules,h1,h2,h3] <;> rfl⟩
   conv=>whnf
   exact ⟨[whenI 4 (!fieldsB (.mk kind name other e body els at_)),whenI 7 (decide (deep > 64))],[0,1,2,3,11],[],Sub.mk' rfl ⟨⟨rfl,rfl⟩,.inl rfl,⟨rfl,rfl⟩,⟨rfl,rfl⟩,trivial⟩ ⟨⟨rfl,.inl rfl,.inl rfl,.inl rfl,rfl,rfl,trivial⟩,⟨rfl,rfl⟩,⟨rfl,rfl⟩,⟨rfl,.inl rfl,.inl rfl,.inl rfl,.inl rfl,.inl rfl,.inl rfl,.inl rfl,trivial⟩,⟨rfl,rfl,rfl,rfl⟩,trivial⟩ rfl rfl,by simp only [stmtRules,h1,h2,h3] <;> rfl⟩
  rintro rules hr hok2
  have hlen:=(hok2.vec 4 rfl).2.1
  have hmem:whenI 7 (decide (deep > 64)) ∈ rules:=by rw [hr]; exact stmtRules_deep ..
  have hsee:intsT rules = .lst 1 8 ((rules.map fun r=>[ti r]).take rules.length):=by rw [List.take_of_length_le (by simp)]; rfl
  have hle:rules.length≤(rules.map fun r=>[ti r]).length:=by simp
  clear hok2
  conv=>whnf
  cases hb:decide (leastW rules 0 > 0) with
  | true =>
   have hE:stmtW top locals (.mk kind name other e body els at_) deep=some ⟨at_,leastW rules 0⟩:=by unfold stmtW; rw [← hr,hb]; rfl
   rw [hE]
   refine acall.gen [] [4] [.tr (ti at_),.tr (intsT rules)] [] _ [] (k56 at_ _ true hb) rfl rfl rfl rfl ⟨.inl rfl,⟨rfl,hle,hsee⟩,trivial⟩ trivial rfl rfl fun _ => ?_
   conv=>whnf
   exact ⟨⟨rfl,Or.inl rfl,Or.inl rfl,trivial⟩,⟨rfl,.inl rfl,.inl rfl,.inl rfl,rfl,rfl,trivial⟩,⟨rfl,rfl⟩,⟨rfl,rfl⟩,trivial⟩
  | false =>
   have hE:stmtW top locals (.mk kind name other e body els at_) deep=match exprsW top locals e 1 with
    | some f=>some f
    | none=>match blockW top locals body (deep+1) with
     | some f=>some f
     | none=>blockW top locals els (deep+1):=by
    show (bif decide (leastW (stmtRules top locals kind name other e body els at_ deep) 0 > 0) then _ else _)=_
    rw [← hr,hb]; rfl
   rw [hE]
   clear hE
   have hd64:deep≤64:=deep_of hmem hb
   have hw:IntKind.i64.wrap (deep+1)=deep+1:=w64 (by omega) (by omega)
   refine acall.gen [] [4] [.tr (ti at_),.tr (intsT rules)] [] _ [] (k56 at_ _ false hb) rfl rfl rfl rfl ⟨.inl rfl,⟨rfl,hle,hsee⟩,trivial⟩ trivial rfl rfl fun _ => ?_
   conv=>whnf
   refine LoopL.by (fun i:Nat=>⟨[(0,.ptr 0 0),(2,.tr (ti deep)),(4,.ptr 3 0),(55,.tr (exprsT e)),(56,.tr (ti (Expr.rows e).length)),(57,.tr (ti i))],[(0,walkB p),(1,.map .string (mapT top)),(2,.map .string (mapT locals)),(3,.cells 77 ((Stmt.mk kind name other e body els at_).cells.map .tr))],4⟩)
    (fun i=>i≤e.length∧exprsW top locals e 1=exprsW top locals (e.drop i) 1) (fun i=>e.length - i) 0 [0,1,2,3] []
    (Sub.mk' rfl ⟨⟨rfl,rfl⟩,.inl rfl,⟨rfl,rfl⟩,.inl rfl,.inl rfl,.inl rfl,trivial⟩ ⟨⟨rfl,.inl rfl,.inl rfl,.inl rfl,rfl,rfl,trivial⟩,⟨rfl,rfl⟩,⟨rfl,rfl⟩,⟨rfl,.inl rfl,.inl rfl,.inl rfl,.inl rfl,.inl rfl,.inl rfl,.inl rfl,trivial⟩,trivial⟩ rfl rfl) ⟨Nat.zero_le _,rfl⟩ ?_
   rintro i ⟨hi,hf⟩ -
   conv=>whnf
   refine csplit (fun hlt => ?_) (fun hge => ?_)
   ·have hlt:i<e.length:=by rw [erows_len] at hlt; simpa using hlt
    conv=>whnf
    refine ⟨rfl,by omega,by rw [erows_len]; omega,fun row hrow => ?_⟩
    obtain ⟨d,hd,rfl⟩:=erows_get hrow
    replace hd:e[i]? = some d:=hd
    rw [exprsW_at hd] at hf
    clear hrow
    have hih:=k97 p top locals (SizeOf.sizeOf d+1) d 1 (by omega)
    cases ho:exprW top locals d 1 with
    | some f =>
     rw [ho] at hf hih
     have hf:exprsW top locals e 1=some f:=hf
     rw [hf]
     obtain ⟨k1,k2,k3,k4,k5,k6⟩:=d
     conv=>whnf
     refine acall.gen [0,1,2] [] _ (wbin p top locals) _ (wbout p top locals) hih rfl rfl rfl rfl ⟨⟨rfl,rfl⟩,⟨.inl rfl,.inl rfl,.inl rfl,.inl rfl,.inl rfl,.inl rfl,trivial⟩,.inl rfl,trivial⟩ ⟨⟨rfl,.inl rfl,.inl rfl,.inl rfl,rfl,rfl,trivial⟩,⟨rfl,rfl⟩,⟨rfl,rfl⟩,trivial⟩ rfl rfl fun _ => ?_
     conv=>whnf
     exact ⟨⟨rfl,Or.inl rfl,Or.inl rfl,trivial⟩,⟨rfl,.inl rfl,.inl rfl,.inl rfl,rfl,rfl,trivial⟩,⟨rfl,rfl⟩,⟨rfl,rfl⟩,trivial⟩
    | none =>
     rw [ho] at hf hih
     have hf:exprsW top locals e 1=exprsW top locals (e.drop (i+1)) 1:=hf
     obtain ⟨k1,k2,k3,k4,k5,k6⟩:=d
     conv=>whnf
     refine acall.gen [0,1,2] [] _ (wbin p top locals) _ (wbout p top locals) hih rfl rfl rfl rfl ⟨⟨rfl,rfl⟩,⟨.inl rfl,.inl rfl,.inl rfl,.inl rfl,.inl rfl,.inl rfl,trivial⟩,.inl rfl,trivial⟩ ⟨⟨rfl,.inl rfl,.inl rfl,.inl rfl,rfl,rfl,trivial⟩,⟨rfl,rfl⟩,⟨rfl,rfl⟩,trivial⟩ rfl rfl fun _ => ?_
     conv=>whnf
     exact ⟨i+1,[0,1,2,3],[],Sub.mk' rfl ⟨⟨rfl,rfl⟩,.inl rfl,⟨rfl,rfl⟩,.inl rfl,.inl rfl,.inl (ti_succ hlt hel),trivial⟩ ⟨⟨rfl,.inl rfl,.inl rfl,.inl rfl,rfl,rfl,trivial⟩,⟨rfl,rfl⟩,⟨rfl,rfl⟩,⟨rfl,.inl rfl,.inl rfl,.inl rfl,.inl rfl,.inl rfl,.inl rfl,.inl rfl,trivial⟩,trivial⟩ rfl rfl,⟨hlt,hf⟩,by omega⟩
   ·have hge:e.length≤i:=by rw [erows_len] at hge; simpa using hge
    rw [List.drop_eq_nil_of_le hge] at hf
    have hf:exprsW top locals e 1=none:=hf
    rw [hf]
    have hbd:K 83 [.ptr 0 0,.tr (stmtsT body),.tr (ti (IntKind.i64.wrap (deep+1)))] (wbin p top locals) (resW (blockW top locals body (deep+1))) (wbout p top locals):=by rw [hw]; exact ihl body (deep+1) (by omega)
    have hel2:K 83 [.ptr 0 0,.tr (stmtsT els),.tr (ti (IntKind.i64.wrap (deep+1)))] (wbin p top locals) (resW (blockW top locals els (deep+1))) (wbout p top locals):=by rw [hw]; exact ihl els (deep+1) (by omega)
    cases ho:blockW top locals body (deep+1) with
    | some f =>
     rw [ho] at hbd
     conv=>whnf
     refine ⟨fun _ => ?_,fun h=>absurd rfl h⟩
     conv=>whnf
     refine acall.gen [0,1,2] [] _ (wbin p top locals) _ (wbout p top locals) hbd rfl rfl rfl rfl ⟨⟨rfl,rfl⟩,.inl rfl,.inl rfl,trivial⟩ ⟨⟨rfl,.inl rfl,.inl rfl,.inl rfl,rfl,rfl,trivial⟩,⟨rfl,rfl⟩,⟨rfl,rfl⟩,trivial⟩ rfl rfl fun _ => ?_
     conv=>whnf
     exact ⟨⟨rfl,Or.inl rfl,Or.inl rfl,trivial⟩,⟨rfl,.inl rfl,.inl rfl,.inl rfl,rfl,rfl,trivial⟩,⟨rfl,rfl⟩,⟨rfl,rfl⟩,trivial⟩
    | none =>
     rw [ho] at hbd
     cases ho2:blockW top locals els (deep+1) with
     | some f =>
      rw [ho2] at hel2
      conv=>whnf
      refine ⟨fun _ => ?_,fun h=>absurd rfl h⟩
      conv=>whnf
      refine acall.gen [0,1,2] [] _ (wbin p top locals) _ (wbout p top locals) hbd rfl rfl rfl rfl ⟨⟨rfl,rfl⟩,.inl rfl,.inl rfl,trivial⟩ ⟨⟨rfl,.inl rfl,.inl rfl,.inl rfl,rfl,rfl,trivial⟩,⟨rfl,rfl⟩,⟨rfl,rfl⟩,trivial⟩ rfl rfl fun _ => ?_
      conv=>whnf
      refine acall.gen [0,1,2] [] _ (wbin p top locals) _ (wbout p top locals) hel2 rfl rfl rfl rfl ⟨⟨rfl,rfl⟩,.inl rfl,.inl rfl,trivial⟩ ⟨⟨rfl,.inl rfl,.inl rfl,.inl rfl,rfl,rfl,trivial⟩,⟨rfl,rfl⟩,⟨rfl,rfl⟩,trivial⟩ rfl rfl fun _ => ?_
      conv=>whnf
      exact ⟨⟨rfl,Or.inl rfl,Or.inl rfl,trivial⟩,⟨rfl,.inl rfl,.inl rfl,.inl rfl,rfl,rfl,trivial⟩,⟨rfl,rfl⟩,⟨rfl,rfl⟩,trivial⟩
     | none =>
      rw [ho2] at hel2
      conv=>whnf
      refine ⟨fun _ => ?_,fun h=>absurd rfl h⟩
      conv=>whnf
      refine acall.gen [0,1,2] [] _ (wbin p top locals) _ (wbout p top locals) hbd rfl rfl rfl rfl ⟨⟨rfl,rfl⟩,.inl rfl,.inl rfl,trivial⟩ ⟨⟨rfl,.inl rfl,.inl rfl,.inl rfl,rfl,rfl,trivial⟩,⟨rfl,rfl⟩,⟨rfl,rfl⟩,trivial⟩ rfl rfl fun _ => ?_
      conv=>whnf
      refine acall.gen [0,1,2] [] _ (wbin p top locals) _ (wbout p top locals) hel2 rfl rfl rfl rfl ⟨⟨rfl,rfl⟩,.inl rfl,.inl rfl,trivial⟩ ⟨⟨rfl,.inl rfl,.inl rfl,.inl rfl,rfl,rfl,trivial⟩,⟨rfl,rfl⟩,⟨rfl,rfl⟩,trivial⟩ rfl rfl fun _ => ?_
      conv=>whnf
      exact ⟨trivial,⟨rfl,.inl rfl,.inl rfl,.inl rfl,rfl,rfl,trivial⟩,⟨rfl,rfl⟩,⟨rfl,rfl⟩,trivial⟩
 ·intro l deep hsz
  refine Ctr.of hT hmix Tryd.func83 rfl (fun _ _=>by kernel_rfl) rfl fun hok => ?_
  have hkl:=(hok.slot 1 rfl).tr.lst.2.1
  rw [srows_len] at hkl
  clear hok
  conv=>whnf
  refine LoopL.by (fun i:Nat=>⟨[(0,.ptr 0 0),(2,.tr (ti deep)),(8,.tr (stmtsT l)),(9,.tr (ti (Stmt.rows l).length)),(10,.tr (ti i))],[(0,walkB p),(1,.map .string (mapT top)),(2,.map .string (mapT locals))],3⟩)
   (fun i=>i≤l.length∧blockW top locals l deep=blockW top locals (l.drop i) deep) (fun i=>l.length - i) 0 [0,1,2] []
   (Sub.mk' rfl ⟨⟨rfl,rfl⟩,.inl rfl,.inl rfl,.inl rfl,.inl rfl,trivial⟩ ⟨⟨rfl,.inl rfl,.inl rfl,.inl rfl,rfl,rfl,trivial⟩,⟨rfl,rfl⟩,⟨rfl,rfl⟩,trivial⟩ rfl rfl) ⟨Nat.zero_le _,rfl⟩ ?_
  rintro i ⟨hi,hf⟩ -
  conv=>whnf
  refine csplit (fun hlt => ?_) (fun hge => ?_)
  ·have hlt:i<l.length:=by rw [srows_len] at hlt; simpa using hlt
   conv=>whnf
   refine ⟨rfl,by omega,by rw [srows_len]; omega,fun row hrow => ?_⟩
   obtain ⟨d,hd,rfl⟩:=srows_get hrow
   replace hd:l[i]? = some d:=hd
   have hsd:=size_kid2 hd
   rw [blockW_at hd] at hf
   clear hrow
   have hih:=ihs d deep (by omega)
   cases ho:stmtW top locals d deep with
   | some f =>
    rw [ho] at hf hih
    have hf:blockW top locals l deep=some f:=hf
    rw [hf]
    obtain ⟨k1,k2,k3,k4,k5,k6,k7⟩:=d
    conv=>whnf
    refine acall.gen [0,1,2] [] _ (wbin p top locals) _ (wbout p top locals) hih rfl rfl rfl rfl ⟨⟨rfl,rfl⟩,⟨.inl rfl,.inl rfl,.inl rfl,.inl rfl,.inl rfl,.inl rfl,.inl rfl,trivial⟩,.inl rfl,trivial⟩ ⟨⟨rfl,.inl rfl,.inl rfl,.inl rfl,rfl,rfl,trivial⟩,⟨rfl,rfl⟩,⟨rfl,rfl⟩,trivial⟩ rfl rfl fun _ => ?_
    conv=>whnf
    exact ⟨⟨rfl,Or.inl rfl,Or.inl rfl,trivial⟩,⟨rfl,.inl rfl,.inl rfl,.inl rfl,rfl,rfl,trivial⟩,⟨rfl,rfl⟩,⟨rfl,rfl⟩,trivial⟩
   | none =>
    rw [ho] at hf hih
    have hf:blockW top locals l deep=blockW top locals (l.drop (i+1)) deep:=hf
    obtain ⟨k1,k2,k3,k4,k5,k6,k7⟩:=d
    conv=>whnf
    refine acall.gen [0,1,2] [] _ (wbin p top locals) _ (wbout p top locals) hih rfl rfl rfl rfl ⟨⟨rfl,rfl⟩,⟨.inl rfl,.inl rfl,.inl rfl,.inl rfl,.inl rfl,.inl rfl,.inl rfl,trivial⟩,.inl rfl,trivial⟩ ⟨⟨rfl,.inl rfl,.inl rfl,.inl rfl,rfl,rfl,trivial⟩,⟨rfl,rfl⟩,⟨rfl,rfl⟩,trivial⟩ rfl rfl fun _ => ?_
    conv=>whnf
    exact ⟨i+1,[0,1,2],[],Sub.mk' rfl ⟨⟨rfl,rfl⟩,.inl rfl,.inl rfl,.inl rfl,.inl (ti_succ hlt hkl),trivial⟩ ⟨⟨rfl,.inl rfl,.inl rfl,.inl rfl,rfl,rfl,trivial⟩,⟨rfl,rfl⟩,⟨rfl,rfl⟩,trivial⟩ rfl rfl,⟨hlt,hf⟩,by omega⟩
  ·have hge:l.length≤i:=by rw [srows_len] at hge; simpa using hge
   rw [List.drop_eq_nil_of_le hge] at hf
   have hf:blockW top locals l deep=none:=hf
   rw [hf]
   conv=>whnf
   refine ⟨fun _ => ?_,fun h=>absurd rfl h⟩
   conv=>whnf
   exact ⟨trivial,⟨rfl,.inl rfl,.inl rfl,.inl rfl,rfl,rfl,trivial⟩,⟨rfl,rfl⟩,⟨rfl,rfl⟩,trivial⟩
end Go.Proofs.YthboippafkcoiaaDoor.am
namespace Go.Proofs.YthboippafkcoiaaDoor.am
open Go Go.Proofs
def mputI:MI→MK→Int→MI
 | [],q,x=>[(q,x)]
 | (k,v)::r,q,x=>bif MK.same q k then (q,x)::r else (k,v)::mputI r q x
theorem mput_T : ∀ (M:MI) (q:MK) (x:Int),mput (mapT M) q (ti x)=mapT (mputI M q x)
 | [],q,x=>rfl
 | (k,v)::r,q,x=>by
   show (bif MK.same q k then (q,ti x)::mapT r else (k,ti v)::mput (mapT r) q (ti x))=mapT (bif MK.same q k then (q,x)::r else (k,v)::mputI r q x)
   rw [mput_T r q x]
   cases MK.same q k <;> rfl
def putTop (M:MI) (name:ByteArray) (s:Int):MI:=bif mgetI M (.ks name) == 0 then mputI M (.ks name) s else M
theorem k81 (M:MI) (name:ByteArray) (s:Int):K 82 [.tr (ts name),.tr (ti s),.ptr 0 0] [.cells 121 [.mp 1],.map .string (mapT M)] (.ret (.tup [])) [some (.cells 121 [.mp 1]),some (.map .string (mapT (putTop M name s)))]:=by
 refine Ctr.of hT hmix Tryd.func82 rfl (fun _ _=>by kernel_rfl) rfl fun hok => ?_
 clear hok
 conv=>whnf
 rw [mgetZ]
 conv=>whnf
 refine csplit (fun h1 => ?_) (fun h1 => ?_)
 ·conv=>whnf
  exact ⟨trivial,⟨rfl,rfl,trivial⟩,⟨rfl,by unfold putTop; rw [h1]; exact mput_T M (.ks name) s⟩,trivial⟩
 ·conv=>whnf
  exact ⟨trivial,⟨rfl,rfl,trivial⟩,⟨rfl,by unfold putTop; rw [h1]; rfl⟩,trivial⟩
end Go.Proofs.YthboippafkcoiaaDoor.am
namespace Go.Proofs.YthboippafkcoiaaDoor.am
open Go Go.Proofs
def putAll (M:MI) (l:List Decl) (s:Int):MI:=l.foldl (fun M d=>putTop M d.name s) M
def putThs (M:MI) (l:List Thread):MI:=l.foldl (fun M d=>putTop M d.name 3) M
def topOf (p:Prg):MI:=putThs (putAll (putAll [] p.shared 1) p.locks 2) p.threads
theorem k55 (p:Prg):K 60 [p.av] [] (.ret (.mp 0)) [some (.map .string (mapT (topOf p)))]:=by
 refine Ctr.new [] hT hmix Tryd.func60 rfl (fun _ _=>by kernel_rfl) rfl fun hok => ?_
 obtain ⟨_,hl1,_⟩:=((hok.slot 0 rfl).agg _ (.head _)).tr.lst
 obtain ⟨_,hl2,_⟩:=((hok.slot 0 rfl).agg _ (.tail _ (.head _))).tr.lst
 obtain ⟨_,hl3,_⟩:=((hok.slot 0 rfl).agg _ (.tail _ (.tail _ (.head _)))).tr.lst
 rw [List.length_map] at hl1 hl2 hl3
 clear hok
 conv=>whnf
 refine LoopL.by (fun i:Nat=>⟨[(1,.ptr 0 0),(3,.ptr 1 0),(4,.fn 82 [.ptr 1 0]),(14,.tr (declsT p.shared)),(15,.tr (ti (p.shared.map Decl.cells).length)),(16,.tr (ti i))],[(0,.cells 25 [.tr (declsT p.shared),.tr (declsT p.locks),.tr (threadsT p.threads)]),(1,.cells 121 [.mp 2]),(2,.map .string (mapT (putAll [] (p.shared.take i) 1)))],4⟩)
  (fun i=>i≤p.shared.length) (fun i=>p.shared.length - i) 0 [0,3,2] []
  (Sub.mk' rfl ⟨⟨rfl,rfl⟩,⟨rfl,rfl⟩,⟨rfl,⟨rfl,rfl⟩,trivial⟩,.inl rfl,.inl rfl,.inl rfl,trivial⟩ ⟨⟨rfl,.inl rfl,.inl rfl,.inl rfl,trivial⟩,⟨rfl,rfl,trivial⟩,⟨rfl,rfl⟩,trivial⟩ rfl rfl) (Nat.zero_le _) ?_
 intro i hi _
 conv=>whnf
 refine csplit (fun hlt => ?_) (fun hge => ?_)
 ·have hlt:i<p.shared.length:=by rw [List.length_map] at hlt; simpa using hlt
  conv=>whnf
  refine ⟨rfl,by omega,by rw [List.length_map]; omega,fun row hrow => ?_⟩
  obtain ⟨d,hd,rfl⟩:=map_get hrow
  replace hd:p.shared[i]? = some d:=hd
  clear hrow
  have hM:putAll [] (p.shared.take (i+1)) 1=putTop (putAll [] (p.shared.take i) 1) d.name 1:=by rw [take_snoc hd]; simp [putAll,putThs]
  obtain ⟨name,word,at_⟩:=d
  conv=>whnf
  refine acall.gen [1,2] [] [.tr (ts name),.tr (ti 1),.ptr 0 0] [.cells 121 [.mp 1],.map .string (mapT (putAll [] (p.shared.take i) 1))] _ _ (k81 (putAll [] (p.shared.take i) 1) name 1) rfl rfl rfl rfl ⟨.inl rfl,.inl rfl,⟨rfl,rfl⟩,trivial⟩ ⟨⟨rfl,rfl,trivial⟩,⟨rfl,rfl⟩,trivial⟩ rfl rfl fun _ => ?_
  conv=>whnf
  exact ⟨i+1,[0,1,2],[],Sub.mk' rfl ⟨⟨rfl,rfl⟩,⟨rfl,rfl⟩,⟨rfl,⟨rfl,rfl⟩,trivial⟩,.inl rfl,.inl rfl,.inl (ti_succ hlt hl1),trivial⟩ ⟨⟨rfl,.inl rfl,.inl rfl,.inl rfl,trivial⟩,⟨rfl,rfl,trivial⟩,⟨rfl,by rw [hM]⟩,trivial⟩ rfl rfl,hlt,by omega⟩
 ·have hge:p.shared.length≤i:=by rw [List.length_map] at hge; simpa using hge
  rw [List.take_of_length_le hge]
  conv=>whnf
  refine ⟨fun _ => ?_,fun h=>absurd rfl h⟩
  conv=>whnf
  refine LoopL.by (fun i:Nat=>⟨[(1,.ptr 0 0),(3,.ptr 1 0),(4,.fn 82 [.ptr 1 0]),(26,.tr (declsT p.locks)),(27,.tr (ti (p.locks.map Decl.cells).length)),(28,.tr (ti i))],[(0,.cells 25 [.tr (declsT p.shared),.tr (declsT p.locks),.tr (threadsT p.threads)]),(1,.cells 121 [.mp 2]),(2,.map .string (mapT (putAll (putAll [] p.shared 1) (p.locks.take i) 2)))],4⟩)
   (fun i=>i≤p.locks.length) (fun i=>p.locks.length - i) 0 [0,1,2] []
   (Sub.mk' rfl ⟨⟨rfl,rfl⟩,⟨rfl,rfl⟩,⟨rfl,⟨rfl,rfl⟩,trivial⟩,.inl rfl,.inl rfl,.inl rfl,trivial⟩ ⟨⟨rfl,.inl rfl,.inl rfl,.inl rfl,trivial⟩,⟨rfl,rfl,trivial⟩,⟨rfl,rfl⟩,trivial⟩ rfl rfl) (Nat.zero_le _) ?_
  intro i hi _
  conv=>whnf
  refine csplit (fun hlt => ?_) (fun hge => ?_)
  ·have hlt:i<p.locks.length:=by rw [List.length_map] at hlt; simpa using hlt
   conv=>whnf
   refine ⟨rfl,by omega,by rw [List.length_map]; omega,fun row hrow => ?_⟩
   obtain ⟨d,hd,rfl⟩:=map_get hrow
   replace hd:p.locks[i]? = some d:=hd
   clear hrow
   have hM:putAll (putAll [] p.shared 1) (p.locks.take (i+1)) 2=putTop (putAll (putAll [] p.shared 1) (p.locks.take i) 2) d.name 2:=by rw [take_snoc hd]; simp [putAll,putThs]
   obtain ⟨name,word,at_⟩:=d
   conv=>whnf
   refine acall.gen [1,2] [] [.tr (ts name),.tr (ti 2),.ptr 0 0] [.cells 121 [.mp 1],.map .string (mapT (putAll (putAll [] p.shared 1) (p.locks.take i) 2))] _ _ (k81 (putAll (putAll [] p.shared 1) (p.locks.take i) 2) name 2) rfl rfl rfl rfl ⟨.inl rfl,.inl rfl,⟨rfl,rfl⟩,trivial⟩ ⟨⟨rfl,rfl,trivial⟩,⟨rfl,rfl⟩,trivial⟩ rfl rfl fun _ => ?_
   conv=>whnf
   exact ⟨i+1,[0,1,2],[],Sub.mk' rfl ⟨⟨rfl,rfl⟩,⟨rfl,rfl⟩,⟨rfl,⟨rfl,rfl⟩,trivial⟩,.inl rfl,.inl rfl,.inl (ti_succ hlt hl2),trivial⟩ ⟨⟨rfl,.inl rfl,.inl rfl,.inl rfl,trivial⟩,⟨rfl,rfl,trivial⟩,⟨rfl,by rw [hM]⟩,trivial⟩ rfl rfl,hlt,by omega⟩
  ·have hge:p.locks.length≤i:=by rw [List.length_map] at hge; simpa using hge
   rw [List.take_of_length_le hge]
   conv=>whnf
   refine ⟨fun _ => ?_,fun h=>absurd rfl h⟩
   conv=>whnf
   refine LoopL.by (fun i:Nat=>⟨[(1,.ptr 0 0),(3,.ptr 1 0),(4,.fn 82 [.ptr 1 0]),(38,.tr (threadsT p.threads)),(39,.tr (ti (p.threads.map Thread.cells).length)),(40,.tr (ti i))],[(0,.cells 25 [.tr (declsT p.shared),.tr (declsT p.locks),.tr (threadsT p.threads)]),(1,.cells 121 [.mp 2]),(2,.map .string (mapT (putThs (putAll (putAll [] p.shared 1) p.locks 2) (p.threads.take i))))],4⟩)
    (fun i=>i≤p.threads.length) (fun i=>p.threads.length - i) 0 [0,1,2] []
    (Sub.mk' rfl ⟨⟨rfl,rfl⟩,⟨rfl,rfl⟩,⟨rfl,⟨rfl,rfl⟩,trivial⟩,.inl rfl,.inl rfl,.inl rfl,trivial⟩ ⟨⟨rfl,.inl rfl,.inl rfl,.inl rfl,trivial⟩,⟨rfl,rfl,trivial⟩,⟨rfl,rfl⟩,trivial⟩ rfl rfl) (Nat.zero_le _) ?_
   intro i hi _
   conv=>whnf
   refine csplit (fun hlt => ?_) (fun hge => ?_)
   ·have hlt:i<p.threads.length:=by rw [List.length_map] at hlt; simpa using hlt
    conv=>whnf
    refine ⟨rfl,by omega,by rw [List.length_map]; omega,fun row hrow => ?_⟩
    obtain ⟨d,hd,rfl⟩:=map_get hrow
    replace hd:p.threads[i]? = some d:=hd
    clear hrow
    have hM:putThs (putAll (putAll [] p.shared 1) p.locks 2) (p.threads.take (i+1))=putTop (putThs (putAll (putAll [] p.shared 1) p.locks 2) (p.threads.take i)) d.name 3:=by rw [take_snoc hd]; simp [putAll,putThs]
    obtain ⟨name,ls,body,at_⟩:=d
    conv=>whnf
    refine acall.gen [1,2] [] [.tr (ts name),.tr (ti 3),.ptr 0 0] [.cells 121 [.mp 1],.map .string (mapT (putThs (putAll (putAll [] p.shared 1) p.locks 2) (p.threads.take i)))] _ _ (k81 (putThs (putAll (putAll [] p.shared 1) p.locks 2) (p.threads.take i)) name 3) rfl rfl rfl rfl ⟨.inl rfl,.inl rfl,⟨rfl,rfl⟩,trivial⟩ ⟨⟨rfl,rfl,trivial⟩,⟨rfl,rfl⟩,trivial⟩ rfl rfl fun _ => ?_
    conv=>whnf
    exact ⟨i+1,[0,1,2],[],Sub.mk' rfl ⟨⟨rfl,rfl⟩,⟨rfl,rfl⟩,⟨rfl,⟨rfl,rfl⟩,trivial⟩,.inl rfl,.inl rfl,.inl (ti_succ hlt hl3),trivial⟩ ⟨⟨rfl,.inl rfl,.inl rfl,.inl rfl,trivial⟩,⟨rfl,rfl,trivial⟩,⟨rfl,by rw [hM]⟩,trivial⟩ rfl rfl,hlt,by omega⟩
   ·have hge:p.threads.length≤i:=by rw [List.length_map] at hge; simpa using hge
    rw [List.take_of_length_le hge]
    conv=>whnf
    refine ⟨fun _ => ?_,fun h=>absurd rfl h⟩
    conv=>whnf
    exact ⟨[2],rfl,rfl,rfl,⟨rfl,rfl⟩,trivial⟩
end Go.Proofs.YthboippafkcoiaaDoor.am
namespace Go.Proofs.YthboippafkcoiaaDoor.am
open Go Go.Proofs
def ones (M:MI) (l:List Decl):MI:=l.foldl (fun M d=>mputI M (.ks d.name) 1) M
def onesL (M:MI) (l:List (List Decl)):MI:=l.foldl ones M
def aboveM (p:Prg):MI:=onesL [] [p.shared,p.locks]
def localRules (above M:MI) (i:Nat) (d:Decl):List Int :=
 [whenI 1 (!nameB d.name),whenI 2 (decide (IntKind.i64.wrap (mgetI M (.ks d.name)+mgetI above (.ks d.name)) > 0)),whenI 3 ((i:Int) == 64),whenI 4 (d.word != 0)]
def localsW (above:MI):List Decl→Nat→MI→Option Flt
 | [],_,_=>none
 | d::l,i,M=>bif decide (leastW (localRules above M i d) 0 > 0) then some ⟨d.at_,leastW (localRules above M i d) 0⟩ else localsW above l (i+1) (mputI M (.ks d.name) 1)
theorem localsW_at {above M:MI} {l:List Decl} {i:Nat} {d:Decl} (h:l[i]? = some d) :
  localsW above (l.drop i) i M=bif decide (leastW (localRules above M i d) 0 > 0) then some ⟨d.at_,leastW (localRules above M i d) 0⟩ else localsW above (l.drop (i+1)) (i+1) (mputI M (.ks d.name) 1):=by
 rw [drop_cons h]; rfl
theorem ones_at {M:MI} {l:List Decl} {i:Nat} {d:Decl} (h:l[i]? = some d):ones M (l.take (i+1))=mputI (ones M (l.take i)) (.ks d.name) 1:=by
 rw [take_snoc h]; simp [ones]
theorem onesL_at {M:MI} {l:List (List Decl)} {i:Nat} {d:List Decl} (h:l[i]? = some d):onesL M (l.take (i+1))=ones (onesL M (l.take i)) d:=by
 rw [take_snoc h]; simp [onesL]
def threadW (p:Prg) (top:MI) (t:Thread):Option Flt :=
 match localsW (aboveM p) t.locals 0 [] with
 | some f=>some f
 | none=>blockW top (ones [] t.locals) t.body 1
abbrev walkN (p:Prg) (a:AV):Blk := .cells 125 [.tr (declsT p.shared),.tr (declsT p.locks),.tr (threadsT p.threads),.mp 1,a]
theorem k58a (p:Prg) (top:MI) (t:Thread):K 63 [.ptr 0 0,t.av] [walkN p (.tr (.v (.map none))),.map .string (mapT top)] (resW (threadW p top t))
  (match threadW p top t with | some _=>[none,none] | none=>[some (walkN p (.mp 2)),some (.map .string (mapT top)),some (.map .string (mapT (ones [] t.locals)))]):=by
 refine Ctr.new [12] hT hmix Tryd.func63 rfl (fun _ _=>by kernel_rfl) rfl fun hok => ?_
 obtain ⟨tname,locals,body,tat⟩:=t
 have hl0:=((hok.cells 0 rfl) _ (.head _)).tr.lst.2.1
 have hl1:=((hok.cells 0 rfl) _ (.tail _ (.head _))).tr.lst.2.1
 have hl2:=((hok.slot 1 rfl).agg _ (.tail _ (.head _))).tr.lst.2.1
 rw [List.length_map] at hl0 hl1 hl2
 have hlL : ∀ l ∈ [p.shared,p.locks],l.length≤9223372036854775807:=by
  intro l hl
  simp only [List.mem_cons,List.not_mem_nil,or_false] at hl
  rcases hl with rfl | rfl <;> assumption
 clear hok hl0 hl1
 conv=>whnf
 refine CutL.by (fun _:Unit=>⟨[(0,.ptr 0 0),(3,.ptr 3 0),(4,.mp 4)],[(0,walkN p (.mp 2)),(1,.map .string (mapT top)),(2,.map .string (mapT [])),(3,.cells 37 ((Thread.mk tname locals body tat).cells.map .tr)),(4,.map .string (mapT (aboveM p)))],5⟩) (fun _=>True) ?_ ?_
 ·conv=>whnf
  refine ⟨by kernel_rfl,fun _ => ?_⟩
  conv=>whnf
  refine LoopL.by (fun j:Nat=>⟨[(0,.ptr 0 0),(3,.ptr 3 0),(4,.mp 4),(26,.sl 5 2),(27,.tr (ti 2)),(28,.tr (ti j))],[(0,walkN p (.mp 2)),(1,.map .string (mapT top)),(2,.map .string (mapT [])),(3,.cells 37 ((Thread.mk tname locals body tat).cells.map .tr)),(4,.map .string (mapT (onesL [] ([p.shared,p.locks].take j)))),(5,.vec 22 1 24 ([p.shared,p.locks].map fun l=>[declsT l]))],6⟩)
   (fun j=>j≤2) (fun j=>2 - j) 0 [0,1,4,2,8,20] [] Sub.au (Nat.zero_le _) ?_
  intro j hj _
  conv=>whnf
  refine csplit (fun hlt => ?_) (fun hge => ?_)
  ·have hlt:j<2:=by have:=of_decide_eq_true hlt; omega
   conv=>whnf
   refine ⟨rfl,by omega,by omega,?_⟩
   conv=>whnf
   refine ⟨rfl,hlt,fun row hrow => ?_⟩
   obtain ⟨l,hd,rfl⟩:=map_get hrow
   replace hd:[p.shared,p.locks][j]? = some l:=hd
   have hll:=hlL l (List.mem_of_getElem? hd)
   clear hrow
   conv=>whnf
   refine ⟨Nat.le_refl _,fun t ht => ?_⟩
   obtain rfl:=Option.some.inj ht
   clear ht
   conv=>whnf
   refine LoopL.by (fun i:Nat=>⟨[(0,.ptr 0 0),(3,.ptr 3 0),(4,.mp 4),(26,.sl 5 2),(27,.tr (ti 2)),(28,.tr (ti j)),(32,.tr (declsT l)),(33,.tr (ti (l.map Decl.cells).length)),(34,.tr (ti i))],[(0,walkN p (.mp 2)),(1,.map .string (mapT top)),(2,.map .string (mapT [])),(3,.cells 37 ((Thread.mk tname locals body tat).cells.map .tr)),(4,.map .string (mapT (ones (onesL [] ([p.shared,p.locks].take j)) (l.take i)))),(5,.vec 22 1 24 ([p.shared,p.locks].map fun l=>[declsT l]))],6⟩)
    (fun i=>i≤l.length) (fun i=>l.length - i) 0 [0,1,2,3,4,5] [] Sub.au (Nat.zero_le _) ?_
   intro i hi _
   conv=>whnf
   refine csplit (fun hlt2 => ?_) (fun hge2 => ?_)
   ·have hlt2:i<l.length:=by rw [List.length_map] at hlt2; simpa using hlt2
    conv=>whnf
    refine ⟨rfl,by omega,by rw [List.length_map]; omega,fun row hrow => ?_⟩
    obtain ⟨d,hd2,rfl⟩:=map_get hrow
    replace hd2:l[i]? = some d:=hd2
    clear hrow
    have hM:=ones_at (M:=onesL [] ([p.shared,p.locks].take j)) hd2
    obtain ⟨name,word,at_⟩:=d
    conv=>whnf
    exact ⟨i+1,[0,1,2,3,4,5],[],Sub.mk' rfl aut ⟨aut,aut,aut,aut,⟨rfl,by rw [hM]; exact mput_T _ (.ks name) 1⟩,aut,trivial⟩ rfl rfl,hlt2,by omega⟩
   ·have hge2:l.length≤i:=by rw [List.length_map] at hge2; simpa using hge2
    rw [List.take_of_length_le hge2]
    conv=>whnf
    refine ⟨fun _ => ?_,fun h=>absurd rfl h⟩
    conv=>whnf
    exact ⟨j+1,[0,1,2,3,4,5],[],Sub.mk' rfl ⟨aut,aut,aut,aut,aut,.inl (ti_succ hlt (by omega)),trivial⟩ ⟨aut,aut,aut,aut,⟨rfl,by rw [onesL_at hd]⟩,aut,trivial⟩ rfl rfl,hlt,by omega⟩
  ·have hge:2≤j:=by have:=of_decide_eq_false hge; omega
   rw [List.take_of_length_le (by exact hge)]
   conv=>whnf
   refine ⟨fun _ => ?_,fun h=>absurd rfl h⟩
   conv=>whnf
   exact ⟨(),[0,1,2,3,4],[],Sub.au,trivial⟩
 ·rintro _ - -
  conv=>whnf
  refine LoopL.by (fun i:Nat=>⟨[(0,.ptr 0 0),(3,.ptr 3 0),(4,.mp 4),(44,.tr (declsT locals)),(45,.tr (ti (locals.map Decl.cells).length)),(46,.tr (ti i))],[(0,walkN p (.mp 2)),(1,.map .string (mapT top)),(2,.map .string (mapT (ones [] (locals.take i)))),(3,.cells 37 ((Thread.mk tname locals body tat).cells.map .tr)),(4,.map .string (mapT (aboveM p)))],5⟩)
   (fun i=>i≤locals.length∧localsW (aboveM p) locals 0 []=localsW (aboveM p) (locals.drop i) i (ones [] (locals.take i))) (fun i=>locals.length - i) 0 [0,1,2,3,4] [] Sub.au ⟨Nat.zero_le _,rfl⟩ ?_
  rintro i ⟨hi,hf⟩ -
  have hi:i≤locals.length:=hi
  conv=>whnf
  refine csplit (fun hlt => ?_) (fun hge => ?_)
  ·have hlt:i<locals.length:=by rw [List.length_map] at hlt; simpa using hlt
   conv=>whnf
   refine ⟨rfl,by omega,by rw [List.length_map]; omega,fun row hrow => ?_⟩
   obtain ⟨d,hd,rfl⟩:=map_get hrow
   replace hd:locals[i]? = some d:=hd
   rw [localsW_at hd] at hf
   clear hrow
   have hM:=ones_at (M:=[]) hd
   have hrl:localRules (aboveM p) (ones [] (locals.take i)) i d=[_,_,_,_]:=rfl
   obtain ⟨name,word,at_⟩:=d
   conv=>whnf
   refine acall.pure _ (k41 name) rfl rfl ?_
   conv=>whnf
   refine acall.pure _ (k57 1 (!nameB name)) rfl rfl ?_
   conv=>whnf
   rw [mgetZ]
   conv=>whnf
   rw [mgetZ]
   conv=>whnf
   refine acall.pure _ (k57 2 _) rfl rfl ?_
   conv=>whnf
   refine acall.pure _ (k57 3 _) rfl rfl ?_
   conv=>whnf
   refine acall.pure _ (k57 4 _) rfl rfl ?_
   conv=>whnf
   cases hb:decide (leastW (localRules (aboveM p) (ones [] (locals.take i)) i ⟨name,word,at_⟩) 0 > 0) with
   | true =>
    rw [hb] at hf
    have hE:threadW p top ⟨tname,locals,body,tat⟩=some ⟨at_,leastW (localRules (aboveM p) (ones [] (locals.take i)) i ⟨name,word,at_⟩) 0⟩:=by unfold threadW; rw [hf]; rfl
    rw [hE]
    refine acall.gen [] [40] _ _ _ _ (k56 at_ _ true hb) rfl rfl rfl rfl aut aut rfl rfl ?_
    conv=>whnf
    refine ⟨by kernel_rfl,by kernel_rfl,?_⟩
    conv=>whnf
    exact ⟨[0,1],rfl,rfl,⟨rfl,Or.inl rfl,Or.inl rfl,trivial⟩,trivial⟩
   | false =>
    rw [hb] at hf
    have hf:localsW (aboveM p) locals 0 []=localsW (aboveM p) (locals.drop (i+1)) (i+1) (ones [] (locals.take (i+1))):=by rw [hM]; exact hf
    refine acall.gen [] [40] _ _ _ _ (k56 at_ _ false hb) rfl rfl rfl rfl aut aut rfl rfl ?_
    conv=>whnf
    refine ⟨by kernel_rfl,fun _ => ?_⟩
    conv=>whnf
    refine ⟨by kernel_rfl,fun _ => ?_⟩
    conv=>whnf
    exact ⟨i+1,[0,1,2,3,4],[],Sub.mk' rfl aut ⟨aut,aut,⟨rfl,by rw [hM]; exact mput_T _ (.ks name) 1⟩,aut,aut,trivial⟩ rfl rfl,⟨hlt,hf⟩,by omega⟩
  ·have hge:locals.length≤i:=by rw [List.length_map] at hge; simpa using hge
   rw [List.drop_eq_nil_of_le hge] at hf
   have hf:localsW (aboveM p) locals 0 []=none:=hf
   rw [List.take_of_length_le hge]
   have hE:threadW p top ⟨tname,locals,body,tat⟩=blockW top (ones [] locals) body 1:=by unfold threadW; rw [hf]
   rw [hE]
   conv=>whnf
   refine ⟨fun _ => ?_,fun h=>absurd rfl h⟩
   have hbd:=(k90_82 p top (ones [] locals) (SizeOf.sizeOf body+1)).2 body 1 (by omega)
   cases ho:blockW top (ones [] locals) body 1 with
   | some f =>
    rw [ho] at hbd
    refine acall.au [0,1,2] [] (hbd) ?_
    intro _
    conv=>whnf
    exact ⟨[0,1],rfl,rfl,⟨rfl,Or.inl rfl,Or.inl rfl,trivial⟩,trivial⟩
   | none =>
    rw [ho] at hbd
    refine acall.au [0,1,2] [] (hbd) ?_
    intro _
    conv=>whnf
    exact ⟨[0,1,2],rfl,rfl,trivial,aut⟩
theorem k58b (p:Prg) (top:MI) (M0:MI) (t:Thread):K 63 [.ptr 0 0,t.av] [walkN p (.mp 2),.map .string (mapT top),.map .string (mapT M0)] (resW (threadW p top t))
  (match threadW p top t with | some _=>[none,none,none] | none=>[some (walkN p (.mp 3)),some (.map .string (mapT top)),none,some (.map .string (mapT (ones [] t.locals)))]):=by
 refine Ctr.new [12] hT hmix Tryd.func63 rfl (fun _ _=>by kernel_rfl) rfl fun hok => ?_
 obtain ⟨tname,locals,body,tat⟩:=t
 have hl0:=((hok.cells 0 rfl) _ (.head _)).tr.lst.2.1
 have hl1:=((hok.cells 0 rfl) _ (.tail _ (.head _))).tr.lst.2.1
 have hl2:=((hok.slot 1 rfl).agg _ (.tail _ (.head _))).tr.lst.2.1
 rw [List.length_map] at hl0 hl1 hl2
 have hlL : ∀ l ∈ [p.shared,p.locks],l.length≤9223372036854775807:=by
  intro l hl
  simp only [List.mem_cons,List.not_mem_nil,or_false] at hl
  rcases hl with rfl | rfl <;> assumption
 clear hok hl0 hl1
 conv=>whnf
 refine CutL.by (fun _:Unit=>⟨[(0,.ptr 0 0),(3,.ptr 4 0),(4,.mp 5)],[(0,walkN p (.mp 3)),(1,.map .string (mapT top)),(2,.map .string (mapT M0)),(3,.map .string (mapT [])),(4,.cells 37 ((Thread.mk tname locals body tat).cells.map .tr)),(5,.map .string (mapT (aboveM p)))],6⟩) (fun _=>True) ?_ ?_
 ·conv=>whnf
  refine ⟨by kernel_rfl,fun _ => ?_⟩
  conv=>whnf
  refine LoopL.by (fun j:Nat=>⟨[(0,.ptr 0 0),(3,.ptr 4 0),(4,.mp 5),(26,.sl 6 2),(27,.tr (ti 2)),(28,.tr (ti j))],[(0,walkN p (.mp 3)),(1,.map .string (mapT top)),(2,.map .string (mapT M0)),(3,.map .string (mapT [])),(4,.cells 37 ((Thread.mk tname locals body tat).cells.map .tr)),(5,.map .string (mapT (onesL [] ([p.shared,p.locks].take j)))),(6,.vec 22 1 24 ([p.shared,p.locks].map fun l=>[declsT l]))],7⟩)
   (fun j=>j≤2) (fun j=>2 - j) 0 [0,1,2,5,3,9,21] [] Sub.au (Nat.zero_le _) ?_
  intro j hj _
  conv=>whnf
  refine csplit (fun hlt => ?_) (fun hge => ?_)
  ·have hlt:j<2:=by have:=of_decide_eq_true hlt; omega
   conv=>whnf
   refine ⟨rfl,by omega,by omega,?_⟩
   conv=>whnf
   refine ⟨rfl,hlt,fun row hrow => ?_⟩
   obtain ⟨l,hd,rfl⟩:=map_get hrow
   replace hd:[p.shared,p.locks][j]? = some l:=hd
   have hll:=hlL l (List.mem_of_getElem? hd)
   clear hrow
   conv=>whnf
   refine ⟨Nat.le_refl _,fun t ht => ?_⟩
   obtain rfl:=Option.some.inj ht
   clear ht
   conv=>whnf
   refine LoopL.by (fun i:Nat=>⟨[(0,.ptr 0 0),(3,.ptr 4 0),(4,.mp 5),(26,.sl 6 2),(27,.tr (ti 2)),(28,.tr (ti j)),(32,.tr (declsT l)),(33,.tr (ti (l.map Decl.cells).length)),(34,.tr (ti i))],[(0,walkN p (.mp 3)),(1,.map .string (mapT top)),(2,.map .string (mapT M0)),(3,.map .string (mapT [])),(4,.cells 37 ((Thread.mk tname locals body tat).cells.map .tr)),(5,.map .string (mapT (ones (onesL [] ([p.shared,p.locks].take j)) (l.take i)))),(6,.vec 22 1 24 ([p.shared,p.locks].map fun l=>[declsT l]))],7⟩)
    (fun i=>i≤l.length) (fun i=>l.length - i) 0 [0,1,2,3,4,5,6] [] Sub.au (Nat.zero_le _) ?_
   intro i hi _
   conv=>whnf
   refine csplit (fun hlt2 => ?_) (fun hge2 => ?_)
   ·have hlt2:i<l.length:=by rw [List.length_map] at hlt2; simpa using hlt2
    conv=>whnf
    refine ⟨rfl,by omega,by rw [List.length_map]; omega,fun row hrow => ?_⟩
    obtain ⟨d,hd2,rfl⟩:=map_get hrow
    replace hd2:l[i]? = some d:=hd2
    clear hrow
    have hM:=ones_at (M:=onesL [] ([p.shared,p.locks].take j)) hd2
    obtain ⟨name,word,at_⟩:=d
    conv=>whnf
    exact ⟨i+1,[0,1,2,3,4,5,6],[],Sub.mk' rfl aut ⟨aut,aut,aut,aut,aut,⟨rfl,by rw [hM]; exact mput_T _ (.ks name) 1⟩,aut,trivial⟩ rfl rfl,hlt2,by omega⟩
   ·have hge2:l.length≤i:=by rw [List.length_map] at hge2; simpa using hge2
    rw [List.take_of_length_le hge2]
    conv=>whnf
    refine ⟨fun _ => ?_,fun h=>absurd rfl h⟩
    conv=>whnf
    exact ⟨j+1,[0,1,2,3,4,5,6],[],Sub.mk' rfl ⟨aut,aut,aut,aut,aut,.inl (ti_succ hlt (by omega)),trivial⟩ ⟨aut,aut,aut,aut,aut,⟨rfl,by rw [onesL_at hd]⟩,aut,trivial⟩ rfl rfl,hlt,by omega⟩
  ·have hge:2≤j:=by have:=of_decide_eq_false hge; omega
   rw [List.take_of_length_le (by exact hge)]
   conv=>whnf
   refine ⟨fun _ => ?_,fun h=>absurd rfl h⟩
   conv=>whnf
   exact ⟨(),[0,1,2,3,4,5],[],Sub.au,trivial⟩
 ·rintro _ - -
  conv=>whnf
  refine LoopL.by (fun i:Nat=>⟨[(0,.ptr 0 0),(3,.ptr 4 0),(4,.mp 5),(44,.tr (declsT locals)),(45,.tr (ti (locals.map Decl.cells).length)),(46,.tr (ti i))],[(0,walkN p (.mp 3)),(1,.map .string (mapT top)),(2,.map .string (mapT M0)),(3,.map .string (mapT (ones [] (locals.take i)))),(4,.cells 37 ((Thread.mk tname locals body tat).cells.map .tr)),(5,.map .string (mapT (aboveM p)))],6⟩)
   (fun i=>i≤locals.length∧localsW (aboveM p) locals 0 []=localsW (aboveM p) (locals.drop i) i (ones [] (locals.take i))) (fun i=>locals.length - i) 0 [0,1,2,3,4,5] [] Sub.au ⟨Nat.zero_le _,rfl⟩ ?_
  rintro i ⟨hi,hf⟩ -
  have hi:i≤locals.length:=hi
  conv=>whnf
  refine csplit (fun hlt => ?_) (fun hge => ?_)
  ·have hlt:i<locals.length:=by rw [List.length_map] at hlt; simpa using hlt
   conv=>whnf
   refine ⟨rfl,by omega,by rw [List.length_map]; omega,fun row hrow => ?_⟩
   obtain ⟨d,hd,rfl⟩:=map_get hrow
   replace hd:locals[i]? = some d:=hd
   rw [localsW_at hd] at hf
   clear hrow
   have hM:=ones_at (M:=[]) hd
   have hrl:localRules (aboveM p) (ones [] (locals.take i)) i d=[_,_,_,_]:=rfl
   obtain ⟨name,word,at_⟩:=d
   conv=>whnf
   refine acall.pure _ (k41 name) rfl rfl ?_
   conv=>whnf
   refine acall.pure _ (k57 1 (!nameB name)) rfl rfl ?_
   conv=>whnf
   rw [mgetZ]
   conv=>whnf
   rw [mgetZ]
   conv=>whnf
   refine acall.pure _ (k57 2 _) rfl rfl ?_
   conv=>whnf
   refine acall.pure _ (k57 3 _) rfl rfl ?_
   conv=>whnf
   refine acall.pure _ (k57 4 _) rfl rfl ?_
   conv=>whnf
   cases hb:decide (leastW (localRules (aboveM p) (ones [] (locals.take i)) i ⟨name,word,at_⟩) 0 > 0) with
   | true =>
    rw [hb] at hf
    have hE:threadW p top ⟨tname,locals,body,tat⟩=some ⟨at_,leastW (localRules (aboveM p) (ones [] (locals.take i)) i ⟨name,word,at_⟩) 0⟩:=by unfold threadW; rw [hf]; rfl
    rw [hE]
    refine acall.gen [] [41] _ _ _ _ (k56 at_ _ true hb) rfl rfl rfl rfl aut aut rfl rfl ?_
    conv=>whnf
    refine ⟨by kernel_rfl,by kernel_rfl,?_⟩
    conv=>whnf
    exact ⟨[0,1,2],rfl,rfl,⟨rfl,Or.inl rfl,Or.inl rfl,trivial⟩,trivial⟩
   | false =>
    rw [hb] at hf
    have hf:localsW (aboveM p) locals 0 []=localsW (aboveM p) (locals.drop (i+1)) (i+1) (ones [] (locals.take (i+1))):=by rw [hM]; exact hf
    refine acall.gen [] [41] _ _ _ _ (k56 at_ _ false hb) rfl rfl rfl rfl aut aut rfl rfl ?_
    conv=>whnf
    refine ⟨by kernel_rfl,fun _ => ?_⟩
    conv=>whnf
    refine ⟨by kernel_rfl,fun _ => ?_⟩
    conv=>whnf
    exact ⟨i+1,[0,1,2,3,4,5],[],Sub.mk' rfl aut ⟨aut,aut,aut,⟨rfl,by rw [hM]; exact mput_T _ (.ks name) 1⟩,aut,aut,trivial⟩ rfl rfl,⟨hlt,hf⟩,by omega⟩
  ·have hge:locals.length≤i:=by rw [List.length_map] at hge; simpa using hge
   rw [List.drop_eq_nil_of_le hge] at hf
   have hf:localsW (aboveM p) locals 0 []=none:=hf
   rw [List.take_of_length_le hge]
   have hE:threadW p top ⟨tname,locals,body,tat⟩=blockW top (ones [] locals) body 1:=by unfold threadW; rw [hf]
   rw [hE]
   conv=>whnf
   refine ⟨fun _ => ?_,fun h=>absurd rfl h⟩
   have hbd:=(k90_82 p top (ones [] locals) (SizeOf.sizeOf body+1)).2 body 1 (by omega)
   cases ho:blockW top (ones [] locals) body 1 with
   | some f =>
    rw [ho] at hbd
    refine acall.au [0,1,3] [] (hbd) ?_
    intro _
    conv=>whnf
    exact ⟨[0,1,2],rfl,rfl,⟨rfl,Or.inl rfl,Or.inl rfl,trivial⟩,trivial⟩
   | none =>
    rw [ho] at hbd
    refine acall.au [0,1,3] [] (hbd) ?_
    intro _
    conv=>whnf
    exact ⟨[0,1,2,3],rfl,rfl,trivial,aut⟩
end Go.Proofs.YthboippafkcoiaaDoor.am
namespace Go.Proofs.YthboippafkcoiaaDoor.am
open Go Go.Proofs
abbrev fltB (a b:Int):Blk := .cells 65 [.tr (ti a),.tr (ti b)]
theorem kd54r (a b:Int) (c:Bool) (at_ rule:Int):CtrD Tryd.prog 59 true [.ptr 0 0,.ptr 1 0] (brk at_ rule) [fltB a b,.cells 4 [.tr (tb c)]] [some (fltB at_ rule),some (.cells 4 [.tr (tb true)])]:=by
 refine CtrD.of hT hmix Tryd.func59 rfl (fun _ _=>by kernel_rfl) rfl rfl rfl rfl rfl rfl rfl (fun h=>by cases h) [] ?_
 conv=>whnf
 exact ⟨trivial,aut⟩
theorem kd54n (a b:Int) (c:Bool):CtrD Tryd.prog 59 false [.ptr 0 0,.ptr 1 0] (.tr (.v .nilIface)) [fltB a b,.cells 4 [.tr (tb c)]] [some (fltB a b),some (.cells 4 [.tr (tb c)])]:=by
 refine CtrD.of hT hmix Tryd.func59 rfl (fun _ _=>by kernel_rfl) rfl rfl rfl rfl rfl rfl rfl (fun _=>rfl) [] ?_
 conv=>whnf
 exact ⟨trivial,aut⟩
def topRules (seen:MI) (most:Int) (bad:Int→Bool) (i:Nat) (d:Decl):List Int :=
 [whenI 1 (!nameB d.name),whenI 2 (decide (mgetI seen (.ks d.name) > 0)),whenI 3 ((i:Int) == most),whenI 4 (bad d.word)]
def topsW (most:Int) (bad:Int→Bool):List Decl→Nat→MI→Option Flt
 | [],_,_=>none
 | d::l,i,M=>bif decide (leastW (topRules M most bad i d) 0 > 0) then some ⟨d.at_,leastW (topRules M most bad i d) 0⟩ else topsW most bad l (i+1) (mputI M (.ks d.name) 1)
theorem topsW_at {most:Int} {bad:Int→Bool} {M:MI} {l:List Decl} {i:Nat} {d:Decl} (h:l[i]? = some d) :
  topsW most bad (l.drop i) i M=bif decide (leastW (topRules M most bad i d) 0 > 0) then some ⟨d.at_,leastW (topRules M most bad i d) 0⟩ else topsW most bad (l.drop (i+1)) (i+1) (mputI M (.ks d.name) 1):=by
 rw [drop_cons h]; rfl
def thRules (seen:MI) (i:Nat) (t:Thread):List Int:=[whenI 1 (!nameB t.name),whenI 2 (decide (mgetI seen (.ks t.name) > 0)),whenI 3 ((i:Int) == 8)]
def thsW (p:Prg) (top:MI):List Thread→Nat→MI→Option Flt
 | [],_,_=>none
 | t::l,i,M=>bif decide (leastW (thRules M i t) 0 > 0) then some ⟨t.at_,leastW (thRules M i t) 0⟩ else match threadW p top t with
  | some f=>some f
  | none=>thsW p top l (i+1) (mputI M (.ks t.name) 1)
theorem thsW_at {p:Prg} {top M:MI} {l:List Thread} {i:Nat} {t:Thread} (h:l[i]? = some t) :
  thsW p top (l.drop i) i M=bif decide (leastW (thRules M i t) 0 > 0) then some ⟨t.at_,leastW (thRules M i t) 0⟩ else match threadW p top t with
  | some f=>some f
  | none=>thsW p top (l.drop (i+1)) (i+1) (mputI M (.ks t.name) 1):=by
 rw [drop_cons h]; rfl
def onesT (M:MI) (l:List Thread):MI:=l.foldl (fun M d=>mputI M (.ks d.name) 1) M
theorem onesT_at {M:MI} {l:List Thread} {i:Nat} {d:Thread} (h:l[i]? = some d):onesT M (l.take (i+1))=mputI (onesT M (l.take i)) (.ks d.name) 1:=by
 rw [take_snoc h]; simp [onesT]
def minW (w:Int):Bool:=w == -9223372036854775808
def anyW (w:Int):Bool:=w != 0
def firstW (p:Prg):Option Flt :=
 match topsW 64 minW p.shared 0 [] with
 | some f=>some f
 | none=>match topsW 16 anyW p.locks 0 (ones [] p.shared) with
  | some f=>some f
  | none=>thsW p (topOf p) p.threads 0 (ones (ones [] p.shared) p.locks)
def fltOf:Option Flt→Flt | some f=>f | none=>⟨0,0⟩
abbrev walkM (p:Prg) (a:AV):Blk := .cells 125 [.tr (declsT p.shared),.tr (declsT p.locks),.tr (threadsT p.threads),.mp 4,a]
theorem k29 (p:Prg):K 38 [p.av] [] (.ret (.tup [Flt.av (fltOf (firstW p)),.tr (tb (firstW p).isSome)])) []:=by
 refine Ctr.guard [] hT hmix Tryd.func38 rfl (fun _ _=>by kernel_rfl) rfl rfl rfl rfl rfl rfl rfl fun hok => ?_
 have hl0:=((hok.slot 0 rfl).agg _ (.head _)).tr.lst.2.1
 have hl1:=((hok.slot 0 rfl).agg _ (.tail _ (.head _))).tr.lst.2.1
 have hl2:=((hok.slot 0 rfl).agg _ (.tail _ (.tail _ (.head _)))).tr.lst.2.1
 rw [List.length_map] at hl0 hl1 hl2
 clear hok
 conv=>whnf
 refine ⟨rfl,rfl,_,rfl,?_⟩
 conv=>whnf
 refine acall.new [] [] _ _ _ _ (k55 p) rfl rfl rfl rfl aut aut rfl rfl ?_
 conv=>whnf
 refine ⟨by kernel_rfl,fun _ => ?_⟩
 conv=>whnf
 refine LoopL.by (fun i:Nat=>⟨[(1,.ptr 0 0),(2,.ptr 1 0),(3,.ptr 2 0),(4,.ptr 3 0),(5,.mp 5),(20,.tr (declsT p.shared)),(21,.tr (ti (p.shared.map Decl.cells).length)),(22,.tr (ti i))],[(0,.cells 25 [.tr (declsT p.shared),.tr (declsT p.locks),.tr (threadsT p.threads)]),(1,fltB 0 0),(2,.cells 4 [.tr (tb false)]),(3,walkM p (.tr (.v (.map none)))),(4,.map .string (mapT (topOf p))),(5,.map .string (mapT (ones [] (p.shared.take i))))],6⟩)
  (fun i=>i≤p.shared.length∧topsW 64 minW p.shared 0 []=topsW 64 minW (p.shared.drop i) i (ones [] (p.shared.take i))) (fun i=>p.shared.length - i) 0 [0,1,2,7,5,9] [] Sub.au ⟨Nat.zero_le _,rfl⟩ ?_
 rintro i ⟨hi,hf⟩ -
 have hi:i≤p.shared.length:=hi
 conv=>whnf
 refine csplit (fun hlt => ?_) (fun hge => ?_)
 ·have hlt:i<p.shared.length:=by rw [List.length_map] at hlt; simpa using hlt
  conv=>whnf
  refine ⟨rfl,by omega,by rw [List.length_map]; omega,fun row hrow => ?_⟩
  obtain ⟨d,hd,rfl⟩:=map_get hrow
  replace hd:p.shared[i]? = some d:=hd
  rw [topsW_at hd] at hf
  clear hrow
  have hM:=ones_at (M:=[]) hd
  obtain ⟨name,word,at_⟩:=d
  conv=>whnf
  refine acall.pure _ (k41 name) rfl rfl ?_
  conv=>whnf
  refine acall.pure _ (k57 1 (!nameB name)) rfl rfl ?_
  conv=>whnf
  rw [mgetZ]
  conv=>whnf
  refine acall.pure _ (k57 2 _) rfl rfl ?_
  conv=>whnf
  refine acall.pure _ (k57 3 _) rfl rfl ?_
  conv=>whnf
  refine acall.pure _ (k57 4 _) rfl rfl ?_
  conv=>whnf
  cases hb:decide (leastW (topRules (ones [] (p.shared.take i)) 64 minW i ⟨name,word,at_⟩) 0 > 0) with
  | true =>
   rw [hb] at hf
   have hE:firstW p=some ⟨at_,leastW (topRules (ones [] (p.shared.take i)) 64 minW i ⟨name,word,at_⟩) 0⟩:=by unfold firstW; rw [hf]; rfl
   refine acall.gen [] [33] _ _ _ _ (k56 at_ _ true hb) rfl rfl rfl rfl aut aut rfl rfl ?_
   rw [hE]
   conv=>whnf
   refine ⟨by kernel_rfl,by kernel_rfl,?_⟩
   conv=>whnf
   refine Dend.by [1,2] [] (kd54r 0 0 false at_ _) rfl rfl rfl rfl aut aut rfl [] rfl rfl ?_
   conv=>whnf
   exact ⟨⟨⟨Or.inl rfl,Or.inl rfl,trivial⟩,Or.inl rfl,trivial⟩,trivial⟩
  | false =>
   rw [hb] at hf
   have hf:topsW 64 minW p.shared 0 []=topsW 64 minW (p.shared.drop (i+1)) (i+1) (ones [] (p.shared.take (i+1))):=by rw [hM]; exact hf
   refine acall.gen [] [33] _ _ _ _ (k56 at_ _ false hb) rfl rfl rfl rfl aut aut rfl rfl ?_
   conv=>whnf
   refine ⟨by kernel_rfl,fun _ => ?_⟩
   conv=>whnf
   exact ⟨i+1,[0,1,2,3,4,5],[],Sub.mk' rfl aut ⟨aut,aut,aut,aut,aut,⟨rfl,by rw [hM]; exact mput_T _ (.ks name) 1⟩,trivial⟩ rfl rfl,⟨hlt,hf⟩,by omega⟩
 have hge:p.shared.length≤i:=by rw [List.length_map] at hge; simpa using hge
 rw [List.drop_eq_nil_of_le hge] at hf
 have f1:topsW 64 minW p.shared 0 []=none:=hf
 clear hf
 rw [List.take_of_length_le hge]
 conv=>whnf
 refine ⟨fun _ => ?_,fun h=>absurd rfl h⟩
 conv=>whnf
 refine LoopL.by (fun i:Nat=>⟨[(1,.ptr 0 0),(2,.ptr 1 0),(3,.ptr 2 0),(4,.ptr 3 0),(5,.mp 5),(54,.tr (declsT p.locks)),(55,.tr (ti (p.locks.map Decl.cells).length)),(56,.tr (ti i))],[(0,.cells 25 [.tr (declsT p.shared),.tr (declsT p.locks),.tr (threadsT p.threads)]),(1,fltB 0 0),(2,.cells 4 [.tr (tb false)]),(3,walkM p (.tr (.v (.map none)))),(4,.map .string (mapT (topOf p))),(5,.map .string (mapT (ones (ones [] p.shared) (p.locks.take i))))],6⟩)
  (fun i=>i≤p.locks.length∧topsW 16 anyW p.locks 0 (ones [] p.shared)=topsW 16 anyW (p.locks.drop i) i (ones (ones [] p.shared) (p.locks.take i))) (fun i=>p.locks.length - i) 0 [0,1,2,3,4,5] [] Sub.au ⟨Nat.zero_le _,rfl⟩ ?_
 rintro i ⟨hi,hf⟩ -
 have hi:i≤p.locks.length:=hi
 conv=>whnf
 refine csplit (fun hlt => ?_) (fun hge => ?_)
 ·have hlt:i<p.locks.length:=by rw [List.length_map] at hlt; simpa using hlt
  conv=>whnf
  refine ⟨rfl,by omega,by rw [List.length_map]; omega,fun row hrow => ?_⟩
  obtain ⟨d,hd,rfl⟩:=map_get hrow
  replace hd:p.locks[i]? = some d:=hd
  rw [topsW_at hd] at hf
  clear hrow
  have hM:=ones_at (M:=(ones [] p.shared)) hd
  obtain ⟨name,word,at_⟩:=d
  conv=>whnf
  refine acall.pure _ (k41 name) rfl rfl ?_
  conv=>whnf
  refine acall.pure _ (k57 1 (!nameB name)) rfl rfl ?_
  conv=>whnf
  rw [mgetZ]
  conv=>whnf
  refine acall.pure _ (k57 2 _) rfl rfl ?_
  conv=>whnf
  refine acall.pure _ (k57 3 _) rfl rfl ?_
  conv=>whnf
  refine acall.pure _ (k57 4 _) rfl rfl ?_
  conv=>whnf
  cases hb:decide (leastW (topRules (ones (ones [] p.shared) (p.locks.take i)) 16 anyW i ⟨name,word,at_⟩) 0 > 0) with
  | true =>
   rw [hb] at hf
   have hE:firstW p=some ⟨at_,leastW (topRules (ones (ones [] p.shared) (p.locks.take i)) 16 anyW i ⟨name,word,at_⟩) 0⟩:=by unfold firstW; rw [f1,hf]; rfl
   refine acall.gen [] [33] _ _ _ _ (k56 at_ _ true hb) rfl rfl rfl rfl aut aut rfl rfl ?_
   rw [hE]
   conv=>whnf
   refine ⟨by kernel_rfl,by kernel_rfl,?_⟩
   conv=>whnf
   refine Dend.by [1,2] [] (kd54r 0 0 false at_ _) rfl rfl rfl rfl aut aut rfl [] rfl rfl ?_
   conv=>whnf
   exact ⟨⟨⟨Or.inl rfl,Or.inl rfl,trivial⟩,Or.inl rfl,trivial⟩,trivial⟩
  | false =>
   rw [hb] at hf
   have hf:topsW 16 anyW p.locks 0 (ones [] p.shared)=topsW 16 anyW (p.locks.drop (i+1)) (i+1) (ones (ones [] p.shared) (p.locks.take (i+1))):=by rw [hM]; exact hf
   refine acall.gen [] [33] _ _ _ _ (k56 at_ _ false hb) rfl rfl rfl rfl aut aut rfl rfl ?_
   conv=>whnf
   refine ⟨by kernel_rfl,fun _ => ?_⟩
   conv=>whnf
   exact ⟨i+1,[0,1,2,3,4,5],[],Sub.mk' rfl aut ⟨aut,aut,aut,aut,aut,⟨rfl,by rw [hM]; exact mput_T _ (.ks name) 1⟩,trivial⟩ rfl rfl,⟨hlt,hf⟩,by omega⟩
 have hge:p.locks.length≤i:=by rw [List.length_map] at hge; simpa using hge
 rw [List.drop_eq_nil_of_le hge] at hf
 have f2:topsW 16 anyW p.locks 0 (ones [] p.shared)=none:=hf
 clear hf
 rw [List.take_of_length_le hge]
 conv=>whnf
 refine ⟨fun _ => ?_,fun h=>absurd rfl h⟩
 conv=>whnf
 refine LoopL.by (fun x:Option (Nat × MI)=>match x with
   | none=>⟨[(1,.ptr 0 0),(2,.ptr 1 0),(3,.ptr 2 0),(4,.ptr 3 0),(5,.mp 5),(88,.tr (threadsT p.threads)),(89,.tr (ti (p.threads.map Thread.cells).length)),(90,.tr (ti (0:Nat)))],[(0,.cells 25 [.tr (declsT p.shared),.tr (declsT p.locks),.tr (threadsT p.threads)]),(1,fltB 0 0),(2,.cells 4 [.tr (tb false)]),(3,walkM p (.tr (.v (.map none)))),(4,.map .string (mapT (topOf p))),(5,.map .string (mapT (onesT (ones (ones [] p.shared) p.locks) (p.threads.take 0))))],6⟩
   | some (i,M0)=>⟨[(1,.ptr 0 0),(2,.ptr 1 0),(3,.ptr 2 0),(4,.ptr 3 0),(5,.mp 5),(88,.tr (threadsT p.threads)),(89,.tr (ti (p.threads.map Thread.cells).length)),(90,.tr (ti i))],[(0,.cells 25 [.tr (declsT p.shared),.tr (declsT p.locks),.tr (threadsT p.threads)]),(1,fltB 0 0),(2,.cells 4 [.tr (tb false)]),(3,walkM p (.mp 6)),(4,.map .string (mapT (topOf p))),(5,.map .string (mapT (onesT (ones (ones [] p.shared) p.locks) (p.threads.take i)))),(6,.map .string (mapT M0))],7⟩)
  (fun x=>let i:=(x.map (·.1)).getD 0; i≤p.threads.length∧firstW p=thsW p (topOf p) (p.threads.drop i) i (onesT (ones (ones [] p.shared) p.locks) (p.threads.take i))) (fun x=>p.threads.length - (x.map (·.1)).getD 0) none [0,1,2,3,4,5] [] Sub.au ⟨Nat.zero_le _,by unfold firstW; rw [f1,f2]; rfl⟩ ?_
 rintro x ⟨hi,hf⟩ -
 cases x with
 | none =>
  have hi:0≤p.threads.length:=hi
  have hf:firstW p=thsW p (topOf p) (p.threads.drop 0) 0 (onesT (ones (ones [] p.shared) p.locks) (p.threads.take 0)):=hf
  conv=>whnf
  refine csplit (fun hlt => ?_) (fun hge => ?_)
  ·have hlt:0<p.threads.length:=by rw [List.length_map] at hlt; have:=of_decide_eq_true hlt; omega
   conv=>whnf
   refine ⟨rfl,by omega,by rw [List.length_map]; omega,fun row hrow => ?_⟩
   obtain ⟨t,hd,rfl⟩:=map_get hrow
   replace hd:p.threads[0]? = some t:=hd
   rw [thsW_at hd] at hf
   clear hrow
   have hM:=onesT_at (M:=(ones (ones [] p.shared) p.locks)) hd
   obtain ⟨name,locals,body,at_⟩:=t
   conv=>whnf
   refine acall.pure _ (k41 name) rfl rfl ?_
   conv=>whnf
   refine acall.pure _ (k57 1 (!nameB name)) rfl rfl ?_
   conv=>whnf
   rw [mgetZ]
   conv=>whnf
   refine acall.pure _ (k57 2 _) rfl rfl ?_
   conv=>whnf
   refine acall.pure _ (k57 3 _) rfl rfl ?_
   conv=>whnf
   cases hb:decide (leastW (thRules (onesT (ones (ones [] p.shared) p.locks) (p.threads.take 0)) 0 ⟨name,locals,body,at_⟩) 0 > 0) with
   | true =>
    rw [hb] at hf
    have hE:firstW p=some ⟨at_,leastW (thRules (onesT (ones (ones [] p.shared) p.locks) (p.threads.take 0)) 0 ⟨name,locals,body,at_⟩) 0⟩:=hf
    refine acall.gen [] [29] _ _ _ _ (k56 at_ _ true hb) rfl rfl rfl rfl aut aut rfl rfl ?_
    rw [hE]
    conv=>whnf
    refine ⟨by kernel_rfl,by kernel_rfl,?_⟩
    conv=>whnf
    refine Dend.by [1,2] [] (kd54r 0 0 false at_ _) rfl rfl rfl rfl aut aut rfl [] rfl rfl ?_
    conv=>whnf
    exact ⟨⟨⟨Or.inl rfl,Or.inl rfl,trivial⟩,Or.inl rfl,trivial⟩,trivial⟩
   | false =>
    rw [hb] at hf
    refine acall.gen [] [29] _ _ _ _ (k56 at_ _ false hb) rfl rfl rfl rfl aut aut rfl rfl ?_
    conv=>whnf
    refine ⟨by kernel_rfl,fun _ => ?_⟩
    conv=>whnf
    have hth:=k58a p (topOf p) ⟨name,locals,body,at_⟩
    cases ho:threadW p (topOf p) ⟨name,locals,body,at_⟩ with
    | some f =>
     rw [ho] at hth hf
     have hE:firstW p=some f:=hf
     refine acall.gen [3,4] [] _ _ _ _ hth rfl rfl rfl rfl aut ⟨aut,⟨rfl,rfl⟩,trivial⟩ rfl rfl fun _ => ?_
     rw [hE]
     conv=>whnf
     refine Dend.by [1,2] [] (kd54r 0 0 false f.at_ f.rule) rfl rfl rfl rfl aut aut rfl [] rfl rfl ?_
     conv=>whnf
     exact ⟨⟨⟨Or.inl rfl,Or.inl rfl,trivial⟩,Or.inl rfl,trivial⟩,trivial⟩
    | none =>
     rw [ho] at hth hf
     refine acall.new [3,4] [] _ _ _ _ hth rfl rfl rfl rfl aut ⟨aut,⟨rfl,rfl⟩,trivial⟩ rfl rfl fun _ => ?_
     conv=>whnf
     exact ⟨some (0+1,ones [] locals),[0,1,2,3,4,5,37],[],Sub.mk' rfl aut ⟨aut,aut,aut,aut,aut,⟨rfl,by rw [hM]; exact mput_T _ (.ks name) 1⟩,aut,trivial⟩ rfl rfl,⟨hlt,by show firstW p=thsW p (topOf p) (p.threads.drop (0+1)) (0+1) (onesT (ones (ones [] p.shared) p.locks) (p.threads.take (0+1))); rw [hM]; exact hf⟩,by show p.threads.length - (0+1)<p.threads.length - 0; omega⟩
  ·have hge:p.threads.length≤0:=by rw [List.length_map] at hge; have:=of_decide_eq_false hge; omega
   rw [List.drop_eq_nil_of_le hge] at hf
   have hE:firstW p=none:=hf
   rw [hE]
   conv=>whnf
   refine ⟨fun _ => ?_,fun h=>absurd rfl h⟩
   conv=>whnf
   refine Dend.by [1,2] [] (kd54n 0 0 false) rfl rfl rfl rfl aut aut rfl [] rfl rfl ?_
   conv=>whnf
   exact ⟨⟨⟨Or.inl rfl,Or.inl rfl,trivial⟩,Or.inl rfl,trivial⟩,trivial⟩
 | some x =>
  obtain ⟨i,M0⟩:=x
  have hi:i≤p.threads.length:=hi
  have hf:firstW p=thsW p (topOf p) (p.threads.drop i) i (onesT (ones (ones [] p.shared) p.locks) (p.threads.take i)):=hf
  conv=>whnf
  refine csplit (fun hlt => ?_) (fun hge => ?_)
  ·have hlt:i<p.threads.length:=by rw [List.length_map] at hlt; have:=of_decide_eq_true hlt; omega
   conv=>whnf
   refine ⟨rfl,by omega,by rw [List.length_map]; omega,fun row hrow => ?_⟩
   obtain ⟨t,hd,rfl⟩:=map_get hrow
   replace hd:p.threads[i]? = some t:=hd
   rw [thsW_at hd] at hf
   clear hrow
   have hM:=onesT_at (M:=(ones (ones [] p.shared) p.locks)) hd
   obtain ⟨name,locals,body,at_⟩:=t
   conv=>whnf
   refine acall.pure _ (k41 name) rfl rfl ?_
   conv=>whnf
   refine acall.pure _ (k57 1 (!nameB name)) rfl rfl ?_
   conv=>whnf
   rw [mgetZ]
   conv=>whnf
   refine acall.pure _ (k57 2 _) rfl rfl ?_
   conv=>whnf
   refine acall.pure _ (k57 3 _) rfl rfl ?_
   conv=>whnf
   cases hb:decide (leastW (thRules (onesT (ones (ones [] p.shared) p.locks) (p.threads.take i)) i ⟨name,locals,body,at_⟩) 0 > 0) with
   | true =>
    rw [hb] at hf
    have hE:firstW p=some ⟨at_,leastW (thRules (onesT (ones (ones [] p.shared) p.locks) (p.threads.take i)) i ⟨name,locals,body,at_⟩) 0⟩:=hf
    refine acall.gen [] [30] _ _ _ _ (k56 at_ _ true hb) rfl rfl rfl rfl aut aut rfl rfl ?_
    rw [hE]
    conv=>whnf
    refine ⟨by kernel_rfl,by kernel_rfl,?_⟩
    conv=>whnf
    refine Dend.by [1,2] [] (kd54r 0 0 false at_ _) rfl rfl rfl rfl aut aut rfl [] rfl rfl ?_
    conv=>whnf
    exact ⟨⟨⟨Or.inl rfl,Or.inl rfl,trivial⟩,Or.inl rfl,trivial⟩,trivial⟩
   | false =>
    rw [hb] at hf
    refine acall.gen [] [30] _ _ _ _ (k56 at_ _ false hb) rfl rfl rfl rfl aut aut rfl rfl ?_
    conv=>whnf
    refine ⟨by kernel_rfl,fun _ => ?_⟩
    conv=>whnf
    have hth:=k58b p (topOf p) M0 ⟨name,locals,body,at_⟩
    cases ho:threadW p (topOf p) ⟨name,locals,body,at_⟩ with
    | some f =>
     rw [ho] at hth hf
     have hE:firstW p=some f:=hf
     refine acall.gen [3,4,6] [] _ _ _ _ hth rfl rfl rfl rfl aut ⟨aut,⟨rfl,rfl⟩,⟨rfl,rfl⟩,trivial⟩ rfl rfl fun _ => ?_
     rw [hE]
     conv=>whnf
     refine Dend.by [1,2] [] (kd54r 0 0 false f.at_ f.rule) rfl rfl rfl rfl aut aut rfl [] rfl rfl ?_
     conv=>whnf
     exact ⟨⟨⟨Or.inl rfl,Or.inl rfl,trivial⟩,Or.inl rfl,trivial⟩,trivial⟩
    | none =>
     rw [ho] at hth hf
     refine acall.new [3,4,6] [] _ _ _ _ hth rfl rfl rfl rfl aut ⟨aut,⟨rfl,rfl⟩,⟨rfl,rfl⟩,trivial⟩ rfl rfl fun _ => ?_
     conv=>whnf
     exact ⟨some (i+1,ones [] locals),[0,1,2,3,4,5,38],[],Sub.mk' rfl aut ⟨aut,aut,aut,aut,aut,⟨rfl,by rw [hM]; exact mput_T _ (.ks name) 1⟩,aut,trivial⟩ rfl rfl,⟨hlt,by show firstW p=thsW p (topOf p) (p.threads.drop (i+1)) (i+1) (onesT (ones (ones [] p.shared) p.locks) (p.threads.take (i+1))); rw [hM]; exact hf⟩,by show p.threads.length - (i+1)<p.threads.length - i; omega⟩
  ·have hge:p.threads.length≤i:=by rw [List.length_map] at hge; have:=of_decide_eq_false hge; omega
   rw [List.drop_eq_nil_of_le hge] at hf
   have hE:firstW p=none:=hf
   rw [hE]
   conv=>whnf
   refine ⟨fun _ => ?_,fun h=>absurd rfl h⟩
   conv=>whnf
   refine Dend.by [1,2] [] (kd54n 0 0 false) rfl rfl rfl rfl aut aut rfl [] rfl rfl ?_
   conv=>whnf
   exact ⟨⟨⟨Or.inl rfl,Or.inl rfl,trivial⟩,Or.inl rfl,trivial⟩,trivial⟩
def checkW (p:Prg):Int × Flt:=match firstW p with
 | some f=>(50,f)
 | none=>(0,⟨0,0⟩)
theorem k10 (p:Prg):K 21 [p.av] [] (.ret (.tup [.tr (ti (checkW p).1),Flt.av (checkW p).2])) []:=by
 refine Ctr.of hT hmix Tryd.func21 rfl (fun _ _=>by kernel_rfl) rfl fun hok => ?_
 clear hok
 have hk:=k29 p
 unfold checkW
 cases hE:firstW p with
 | some f =>
  rw [hE] at hk
  conv=>whnf
  refine acall.pure _ (hk) rfl rfl fun _ => ?_
  conv=>whnf
  refine ⟨by kernel_rfl,fun _ => ?_⟩
  conv=>whnf
  exact ⟨⟨Or.inl rfl,⟨Or.inl rfl,Or.inl rfl,trivial⟩,trivial⟩,trivial⟩
 | none =>
  rw [hE] at hk
  conv=>whnf
  refine acall.pure _ (hk) rfl rfl fun _ => ?_
  conv=>whnf
  exact ⟨⟨Or.inl rfl,⟨Or.inl rfl,Or.inl rfl,trivial⟩,trivial⟩,trivial⟩
end Go.Proofs.YthboippafkcoiaaDoor.am
namespace Go.Proofs.YthboippafkcoiaaDoor.am
open Go Go.Proofs
abbrev strB (s:ByteArray):Blk := .cells 9 [.tr (ts s)]
theorem k68 (d:Decl) (name:ByteArray):K 94 [d.av,.ptr 0 0] [strB name] (.ret (.tr (tb (seq d.name name)))) [some (strB name)]:=by
 refine Ctr.of hT hmix Tryd.func94 rfl (fun _ _=>by kernel_rfl) rfl fun hok => ?_
 clear hok
 obtain ⟨n,w,a⟩:=d
 conv=>whnf
 exact ⟨Or.inl rfl,aut⟩
theorem k67 (l:List Decl) (name:ByteArray):K 93 [.tr (declsT l),.fn 94 [.ptr 0 0]] [strB name] (.ret (.tr (ti (findI l name 0)))) [some (strB name)]:=by
 refine Ctr.of hT hmix Tryd.func93 rfl (fun _ _=>by kernel_rfl) rfl fun hok => ?_
 have hl:=(hok.slot 0 rfl).tr.lst.2.1
 rw [List.length_map] at hl
 clear hok
 conv=>whnf
 refine LoopL.by (fun i:Nat=>⟨[(0,.tr (declsT l)),(1,.fn 94 [.ptr 0 0]),(7,.tr (ti (l.map Decl.cells).length)),(8,.tr (ti i))],[(0,strB name)],1⟩)
  (fun i=>i≤l.length∧findI l name 0=findI (l.drop i) name i) (fun i=>l.length - i) 0 [0] [] Sub.au ⟨Nat.zero_le _,rfl⟩ ?_
 rintro i ⟨hi,hf⟩ -
 conv=>whnf
 refine csplit (fun hlt => ?_) (fun hge => ?_)
 ·have hlt:i<l.length:=by rw [List.length_map] at hlt; simpa using hlt
  conv=>whnf
  refine ⟨rfl,by omega,by rw [List.length_map]; omega,fun row hrow => ?_⟩
  obtain ⟨d,hd,rfl⟩:=map_get hrow
  replace hd:l[i]? = some d:=hd
  rw [findI_at hd] at hf
  clear hrow
  obtain ⟨n,w,a⟩:=d
  conv=>whnf
  refine acall.gen [0] [] _ _ _ _ (k68 ⟨n,w,a⟩ name) rfl rfl rfl rfl aut aut rfl rfl fun _ => ?_
  conv=>whnf
  refine csplit (fun h1 => ?_) (fun h1 => ?_)
  ·conv=>whnf
   have h1:seq n name=true:=h1
   exact ⟨Or.inl (congrArg ti (by rw [hf,if_pos h1])),aut⟩
  ·conv=>whnf
   have h1 : ¬ seq n name=true:=by rw [show seq n name=false from h1]; simp
   exact ⟨i+1,[0],[],Sub.au,⟨hlt,by rw [hf,if_neg h1]⟩,by omega⟩
 ·have hge:l.length≤i:=by rw [List.length_map] at hge; simpa using hge
  rw [List.drop_eq_nil_of_le hge] at hf
  conv=>whnf
  refine ⟨fun _ => ?_,fun h=>absurd rfl h⟩
  conv=>whnf
  exact ⟨Or.inl (congrArg ti (by rw [hf]; rfl)),aut⟩
theorem k38 (l:List Decl) (name:ByteArray):K 84 [.tr (declsT l),.tr (ts name)] [] (.ret (.tr (ti (findI l name 0)))) []:=by
 refine Ctr.of hT hmix Tryd.func84 rfl (fun _ _=>by kernel_rfl) rfl fun hok => ?_
 clear hok
 conv=>whnf
 refine acall.gen [0] [] _ _ _ _ (k67 l name) rfl rfl rfl rfl aut aut rfl rfl fun _ => ?_
 conv=>whnf
 exact ⟨Or.inl rfl,trivial⟩
theorem k16 (p:Prg) (name:ByteArray):K 66 [p.av,.tr (ts name)] [] (.ret (.tr (ti (findI p.shared name 0)))) []:=by
 refine Ctr.of hT hmix Tryd.func66 rfl (fun _ _=>by kernel_rfl) rfl fun hok => ?_
 clear hok
 conv=>whnf
 refine acall.pure _ (k38 p.shared name) rfl rfl fun _ => ?_
 conv=>whnf
 exact ⟨Or.inl rfl,trivial⟩
theorem k20 (p:Prg) (t:Int) (name:ByteArray):K 67 [p.av,.tr (ti t),.tr (ts name)] [] (.ret (.tr (ti (localI p t name)))) []:=by
 refine Ctr.of hT hmix Tryd.func67 rfl (fun _ _=>by kernel_rfl) rfl fun hok => ?_
 have hl:=((hok.slot 0 rfl).agg _ (.tail _ (.tail _ (.head _)))).tr.lst.2.1
 rw [List.length_map] at hl
 clear hok
 conv=>whnf
 refine csplit (fun h1 => ?_) (fun h1 => ?_)
 ·conv=>whnf
  have h1:t<0:=of_decide_eq_true h1
  exact ⟨Or.inl (congrArg ti (by unfold localI; rw [if_pos h1])),trivial⟩
 have h1 : ¬ t<0:=of_decide_eq_false h1
 conv=>whnf
 refine csplit (fun h2 => ?_) (fun h2 => ?_)
 ·conv=>whnf
  have h2:(p.threads.length:Int)≤t:=by have:=of_decide_eq_true h2; rw [List.length_map] at this; exact this
  have:p.threads[t.toNat]? = none:=List.getElem?_eq_none (by omega)
  exact ⟨Or.inl (congrArg ti (by unfold localI; rw [if_neg h1,this])),trivial⟩
 have h2 : ¬ (p.threads.length:Int)≤t:=by have:=of_decide_eq_false h2; rw [List.length_map] at this; exact this
 conv=>whnf
 refine ⟨rfl,by omega,by rw [List.length_map]; omega,fun row hrow => ?_⟩
 obtain ⟨d,hd,rfl⟩:=map_get hrow
 clear hrow
 have hE:localI p t name=findI d.locals name 0:=by unfold localI; rw [if_neg h1,hd]
 obtain ⟨n,ls,b,a⟩:=d
 conv=>whnf
 refine acall.pure _ (k38 ls name) rfl rfl fun _ => ?_
 conv=>whnf
 exact ⟨Or.inl (congrArg ti (by rw [hE])),trivial⟩
end Go.Proofs.YthboippafkcoiaaDoor.am
namespace Go.Proofs.YthboippafkcoiaaDoor.am
open Go Go.Proofs
theorem k18 (p:Prg) (name:ByteArray):K 71 [p.av,.tr (ts name)] [] (.ret (.tr (ti (findI p.locks name 0)))) []:=by
 refine Ctr.of hT hmix Tryd.func71 rfl (fun _ _=>by kernel_rfl) rfl fun hok => ?_
 clear hok
 conv=>whnf
 refine acall.pure _ (k38 p.locks name) rfl rfl fun _ => ?_
 conv=>whnf
 exact ⟨Or.inl rfl,trivial⟩
end Go.Proofs.YthboippafkcoiaaDoor.am
namespace Go.Proofs.YthboippafkcoiaaDoor.am
open Go Go.Proofs
set_option linter.all false
structure Val where
 s:Bool
 k:Int
 w:Int
structure Nd where
 kind:Int
 op:Int
 slot:Int
 thing:Int
 a:Val
 b:Val
 next:Int
 els:Int
 origin:Int
structure Gr where
 name:ByteArray
 locals:Int
 slots:Int
 nodes:List Nd
def Nd.cells (n:Nd):List Tr:=[tu n.kind,tu n.op,ti n.slot,ti n.thing,tb n.a.s,ti n.a.k,ti n.a.w,tb n.b.s,ti n.b.k,ti n.b.w,ti n.next,ti n.els,ti n.origin]
def Nd.av (n:Nd):AV := .agg (n.cells.map .tr)
abbrev nodesT (l:List Nd):Tr := .lst 13 96 (l.map Nd.cells)
def Gr.cells (g:Gr):List Tr:=[ts g.name,ti g.locals,ti g.slots,nodesT g.nodes]
def Gr.av (g:Gr):AV := .agg (g.cells.map .tr)
abbrev natsT (l:List Nat):Tr:=intsT (l.map fun (x:Nat)=>(x:Int))
def folI (n:Nd):List Int:=bif n.kind == 9 then [] else bif n.kind == 8 && n.els != n.next then [n.next,n.els] else [n.next]
def fol (g:Gr) (x:Nat):List Nat:=match g.nodes[x]? with | some n=>(folI n).map Int.toNat | none=>[]
def nodeOk (N:Int) (n:Nd):Bool := !(n.kind == 0 || decide (n.kind ≥ 10)) && (folI n).all fun k => !(decide (k<0) || decide (k ≥ N))
def wholeB (g:Gr):Bool:=bif decide ((g.nodes.length:Int)<1) || decide ((g.nodes.length:Int) > 4096) then false else g.nodes.all (nodeOk g.nodes.length)
theorem folI_len (n:Nd):(folI n).length≤2:=by
 unfold folI
 cases (n.kind == 9) <;> cases (n.kind == 8 && n.els != n.next) <;> exact Nat.le_of_ble_eq_true rfl
structure Whole (g:Gr):Prop where
 pos:0<g.nodes.length
 most:g.nodes.length≤4096
 kind : ∀ n ∈ g.nodes,n.kind≠0∧n.kind<10
 fol : ∀ (x:Nat) n,g.nodes[x]? = some n→folI n=(fol g x).map fun (x:Nat)=>(x:Int)
 lt : ∀ a,∀ b ∈ am.fol g a,b<g.nodes.length
 len : ∀ a,(am.fol g a).length≤2
 nd : ∀ a,(am.fol g a).Nodup
theorem whole_of {g:Gr} (h:wholeB g=true):Whole g:=by
 unfold wholeB at h
 cases hc:(decide ((g.nodes.length:Int)<1) || decide ((g.nodes.length:Int) > 4096)) with
 | true=>rw [hc] at h; cases h
 | false =>
  rw [hc,cond_false] at h
  simp only [Bool.or_eq_false_iff,decide_eq_false_iff_not] at hc
  have hn:=fun n hn=>List.all_eq_true.1 h n hn
  have hk : ∀ n ∈ g.nodes,(n.kind≠0∧n.kind<10) ∧ ∀ k ∈ folI n,0≤k∧k<(g.nodes.length:Int):=fun n hm=>by
   have:=hn n hm
   unfold nodeOk at this
   simp only [Bool.and_eq_true,Bool.not_eq_true',Bool.or_eq_false_iff,decide_eq_false_iff_not,List.all_eq_true] at this
   refine ⟨⟨by simpa using this.1.1,by omega⟩,fun k hk => ?_⟩
   have:=this.2 k hk
   omega
  have hf : ∀ (x:Nat) n,g.nodes[x]? = some n→folI n=(fol g x).map fun (x:Nat)=>(x:Int):=fun x n hx=>by
   have hm:=List.mem_of_getElem? hx
   unfold fol
   rw [hx]
   simp only [List.map_map]
   conv=>lhs; rw [← List.map_id (folI n)]
   refine List.map_congr_left fun k hk' => ?_
   have:=(hk n hm).2 k hk'
   show k=((k.toNat:Nat):Int)
   omega
  have hlen : ∀ a,(fol g a).length≤2:=fun a=>by
   unfold fol
   split
   ·rw [List.length_map]; exact folI_len _
   ·exact Nat.zero_le _
  refine ⟨by omega,by omega,fun n hm=>(hk n hm).1,hf,fun a b hb => ?_,hlen,fun a => ?_⟩
  ·cases hx:g.nodes[a]? with
   | none=>unfold fol at hb; rw [hx] at hb; cases hb
   | some n =>
    have hm:=List.mem_of_getElem? hx
    have:((b:Nat):Int) ∈ folI n:=by rw [hf a n hx]; exact List.mem_map.2 ⟨b,hb,rfl⟩
    have:=(hk n hm).2 _ this
    omega
  ·unfold fol
   split
   ·rename_i n hx
    have hm:=List.mem_of_getElem? hx
    have hr:=(hk n hm).2
    unfold folI at hr ⊢
    cases h1:(n.kind == 9)
    ·cases h2:(n.kind == 8 && n.els != n.next)
     ·simp
     ·rw [h1,h2] at hr
      have a1:=hr n.next (by simp)
      have a2:=hr n.els (by simp)
      have:n.els≠n.next:=by
       rw [Bool.and_eq_true] at h2
       simpa using h2.2
      simp only [cond_false,cond_true,List.map_cons,List.map_nil,List.nodup_cons,List.mem_cons,List.not_mem_nil,or_false,not_false_eq_true,List.nodup_nil,and_true]
      omega
    ·simp
   ·exact List.nodup_nil
set_option maxRecDepth 100000 in
theorem k_follows (n:Nd):K 35 [n.av] [] (.ret (.tr (intsT (folI n)))) []:=by
 refine Ctr.of hT hmix Tryd.func35 rfl (fun _ _=>by kernel_rfl) rfl fun hok => ?_
 clear hok
 obtain ⟨kind,op,slot,thing,⟨sa,ka,wa⟩,⟨sb,kb,wb⟩,next,els,origin⟩:=n
 generalize hr:folI _=R
 unfold folI at hr
 simp only at hr
 conv=>whnf
 (repeat' (refine csplit (fun h => ?_) (fun h => ?_) <;> (try dsimp only at h) <;> conv=>whnf))
 all_goals
  first
   | (exfalso; clear hr; simp_all; done)
   | (refine ⟨⟨rfl,Nat.le_refl _,?_⟩,trivial⟩; rw [← hr]; simp only [*,Bool.and_true,Bool.true_and,Bool.and_false,Bool.false_and,cond_true,cond_false]; rfl)
   | exact ⟨.inr ⟨rfl,1,8,by rw [← hr]; simp only [*,Bool.and_true,Bool.true_and,Bool.and_false,Bool.false_and,cond_true,cond_false]; rfl⟩,trivial⟩
end Go.Proofs.YthboippafkcoiaaDoor.am
namespace Go.Proofs.YthboippafkcoiaaDoor.am
open Go Go.Proofs
set_option linter.all false
theorem nd_get {l:List Nd} {i:Nat} {row:List Tr} (h:(l.map Nd.cells)[i]? = some row) : ∃ d,l[i]? = some d∧row=d.cells:=by
 rw [List.getElem?_map,Option.map_eq_some_iff] at h
 obtain ⟨d,h1,rfl⟩:=h
 exact ⟨d,h1,rfl⟩
theorem int_get {l:List Int} {i:Nat} {row:List Tr} (h:(l.map irow)[i]? = some row) : ∃ d,l[i]? = some d∧row=[ti d]:=by
 rw [List.getElem?_map,Option.map_eq_some_iff] at h
 obtain ⟨d,h1,rfl⟩:=h
 exact ⟨d,h1,rfl⟩
set_option maxRecDepth 100000 in
theorem k_whole (g:Gr):K 32 [g.av] [] (.ret (.tr (tb (wholeB g)))) []:=by
 generalize hR:wholeB g=R
 unfold wholeB at hR
 obtain ⟨name,locals,slots,nodes⟩:=g
 simp only at hR
 have hln:(nodes.map Nd.cells).length=nodes.length:=List.length_map ..
 refine Ctr.of hT hmix Tryd.func32 rfl (fun _ _=>by kernel_rfl) rfl fun hok => ?_
 clear hok
 by_cases hN:1≤nodes.length∧nodes.length≤4096
 case neg =>
  have hR:false=R:=by
   rw [← hR]
   have:(decide ((nodes.length:Int)<1) || decide ((nodes.length:Int) > 4096))=true:=by
    rw [Bool.or_eq_true]
    by_cases h:nodes.length<1
    ·exact .inl (decide_eq_true (by omega))
    ·exact .inr (decide_eq_true (by omega))
   rw [this]; rfl
  subst hR
  by_cases h:nodes.length<1
  ·have e1:decide (((nodes.map Nd.cells).length:Int)<1)=true:=by rw [hln]; exact decide_eq_true (by omega)
   conv=>whnf
   rw [e1]
   conv=>whnf
   exact ⟨.inl rfl,trivial⟩
  ·have e1:decide (((nodes.map Nd.cells).length:Int)<1)=false:=by rw [hln]; exact decide_eq_false (by omega)
   have e2:decide (((nodes.map Nd.cells).length:Int) > 4096)=true:=by rw [hln]; exact decide_eq_true (by omega)
   conv=>whnf
   rw [e1]
   conv=>whnf
   rw [e2]
   conv=>whnf
   exact ⟨.inl rfl,trivial⟩
 have e1:decide (((nodes.map Nd.cells).length:Int)<1)=false:=by rw [hln]; exact decide_eq_false (by omega)
 have e2:decide (((nodes.map Nd.cells).length:Int) > 4096)=false:=by rw [hln]; exact decide_eq_false (by omega)
 have hR:nodes.all (nodeOk nodes.length)=R:=by
  rw [← hR,show decide ((nodes.length:Int)<1)=false by rw [← hln]; exact e1,show decide ((nodes.length:Int) > 4096)=false by rw [← hln]; exact e2]; rfl
 conv=>whnf
 rw [e1]
 conv=>whnf
 rw [e2]
 conv=>whnf
 refine LoopL.by (fun i:Nat=>⟨[(1,.ptr 0 0),(18,.tr (nodesT nodes)),(19,.tr (ti nodes.length)),(20,.tr (ti i))],[(0,.cells 42 [.tr (ts name),.tr (ti locals),.tr (ti slots),.tr (nodesT nodes)])],10⟩) (fun i=>i≤nodes.length∧(nodes.drop i).all (nodeOk nodes.length)=R) (fun i=>nodes.length - i) 0 [_] []
  (Sub.mk' rfl ⟨⟨rfl,rfl⟩,.inl rfl,.inl (by rw [← hln]),.inl rfl,trivial⟩ ⟨⟨rfl,.inl rfl,.inl rfl,.inl rfl,.inl rfl,trivial⟩,trivial⟩ rfl rfl) ⟨Nat.zero_le _,hR⟩ ?_
 clear hR
 rintro i ⟨hi,hR⟩ -
 conv=>whnf
 refine csplit (fun hlt => ?_) (fun hge => ?_)
 ·have hlt:i<nodes.length:=by have:=of_decide_eq_true hlt; omega
  obtain ⟨n,hn⟩ : ∃ n,nodes[i]? = some n:=⟨_,List.getElem?_eq_getElem hlt⟩
  rw [List.drop_eq_getElem_cons hlt,List.all_cons,(List.getElem?_eq_some_iff.1 hn).2] at hR
  have hf:=k_follows n
  have hnk:nodeOk nodes.length n=(!(n.kind == 0 || decide (n.kind ≥ 10)) && (folI n).all fun k => !(decide (k<0) || decide (k ≥ (nodes.length:Int)))):=rfl
  have hfl:=folI_len n
  rw [hnk] at hR
  clear hnk
  generalize folI n=F at hf hR hfl
  obtain ⟨kind,op,slot,thing,⟨sa,ka,wa⟩,⟨sb,kb,wb⟩,next,els,origin⟩:=n
  simp only at hR
  conv=>whnf
  refine ⟨rfl,(show (0:Int)≤i by omega),(show (i:Int)<((nodes.map Nd.cells).length:Int) by omega),fun row hrow => ?_⟩
  obtain ⟨d,hd,rfl⟩:=nd_get hrow
  obtain rfl:=Option.some.inj (hn.symm.trans hd)
  clear hrow hd
  conv=>whnf
  cases b1:(kind == 0)
  case true =>
   rw [b1,Bool.true_or,Bool.not_true,Bool.false_and,Bool.false_and] at hR
   subst hR
   conv=>whnf
   exact ⟨.inl rfl,trivial⟩
  conv=>whnf
  cases b2:decide (kind ≥ 10)
  case true =>
   rw [b1,b2,Bool.or_true,Bool.not_true,Bool.false_and,Bool.false_and] at hR
   subst hR
   conv=>whnf
   exact ⟨.inl rfl,trivial⟩
  conv=>whnf
  rw [b1,b2,Bool.or_false,Bool.not_false,Bool.true_and] at hR
  refine acall.pure _ (hf) rfl rfl fun _ => ?_
  conv=>whnf
  have hlF:(F.map irow).length=F.length:=List.length_map ..
  refine LoopL.by (fun j:Nat=>⟨[(1,.ptr 0 0),(18,.tr (nodesT nodes)),(19,.tr (ti nodes.length)),(20,.tr (ti i)),(33,.tr (intsT F)),(34,.tr (ti F.length)),(35,.tr (ti j))],[(0,.cells 42 [.tr (ts name),.tr (ti locals),.tr (ti slots),.tr (nodesT nodes)])],10⟩) (fun j=>j≤F.length∧((F.drop j).all (fun k => !(decide (k<0) || decide (k ≥ (nodes.length:Int)))) && (nodes.drop (i+1)).all (nodeOk nodes.length))=R) (fun j=>F.length - j) 0 [0] []
   (Sub.mk' rfl ⟨⟨rfl,rfl⟩,.inl rfl,.inl rfl,.inl rfl,.inl rfl,.inl (by rw [← hlF]),.inl rfl,trivial⟩ ⟨⟨rfl,.inl rfl,.inl rfl,.inl rfl,.inl rfl,trivial⟩,trivial⟩ rfl rfl) ⟨Nat.zero_le _,hR⟩ ?_
  clear hR hf
  rintro j ⟨hj,hR⟩ -
  conv=>whnf
  refine csplit (fun hjt => ?_) (fun hjt => ?_)
  ·have hjt:j<F.length:=by have:=of_decide_eq_true hjt; omega
   obtain ⟨k,hk⟩ : ∃ k,F[j]? = some k:=⟨_,List.getElem?_eq_getElem hjt⟩
   rw [List.drop_eq_getElem_cons hjt,List.all_cons,(List.getElem?_eq_some_iff.1 hk).2] at hR
   conv=>whnf
   refine ⟨rfl,(show (0:Int)≤j by omega),(show (j:Int)<((F.map irow).length:Int) by omega),fun row hrow => ?_⟩
   obtain ⟨d,hd,rfl⟩:=int_get hrow
   obtain rfl:=Option.some.inj (hk.symm.trans hd)
   clear hrow hd
   conv=>whnf
   cases c1:decide (k<0)
   case true =>
    rw [c1,Bool.true_or,Bool.not_true,Bool.false_and,Bool.false_and] at hR
    subst hR
    conv=>whnf
    exact ⟨.inl rfl,trivial⟩
   conv=>whnf
   cases c2:decide (k ≥ (nodes.length:Int))
   case true =>
    rw [c1,c2,Bool.or_true,Bool.not_true,Bool.false_and,Bool.false_and] at hR
    subst hR
    rw [← hln] at c2
    rw [c2]
    conv=>whnf
    exact ⟨.inl rfl,trivial⟩
   rw [c1,c2,Bool.or_false,Bool.not_false,Bool.true_and] at hR
   rw [← hln] at c2
   rw [c2]
   conv=>whnf
   exact ⟨j+1,[0],[],Sub.mk' rfl ⟨⟨rfl,rfl⟩,.inl rfl,.inl rfl,.inl rfl,.inl rfl,.inl rfl,.inl (ti_succ hjt (by omega)),trivial⟩ ⟨⟨rfl,.inl rfl,.inl rfl,.inl rfl,.inl rfl,trivial⟩,trivial⟩ rfl rfl,⟨hjt,hR⟩,by show F.length - (j+1)<F.length - j; omega⟩
  ·have hjt:j=F.length:=by have:=of_decide_eq_false hjt; omega
   subst hjt
   rw [List.drop_length] at hR
   have hR:(nodes.drop (i+1)).all (nodeOk nodes.length)=R:=hR
   conv=>whnf
   refine ⟨fun _ => ?_,fun h=>absurd rfl h⟩
   conv=>whnf
   exact ⟨i+1,[0],[],Sub.mk' rfl ⟨⟨rfl,rfl⟩,.inl rfl,.inl rfl,.inl (ti_succ hlt (by omega)),trivial⟩ ⟨⟨rfl,.inl rfl,.inl rfl,.inl rfl,.inl rfl,trivial⟩,trivial⟩ rfl rfl,⟨hlt,hR⟩,by show nodes.length - (i+1)<nodes.length - i; omega⟩
 ·have hge:i=nodes.length:=by have:=of_decide_eq_false hge; omega
  subst hge
  rw [List.drop_length] at hR
  have hR:true=R:=hR
  subst hR
  conv=>whnf
  refine ⟨fun _ => ?_,fun h=>absurd rfl h⟩
  conv=>whnf
  exact ⟨.inl rfl,trivial⟩
end Go.Proofs.YthboippafkcoiaaDoor.am
namespace Go.Proofs.YthboippafkcoiaaDoor.am
open Go Go.Proofs
set_option linter.all false
def brow (b:Bool):List Tr:=[tb b]
def nrow (x:Nat):List Tr:=[ti x]
abbrev boolsT (l:List Bool):Tr := .lst 1 1 (l.map brow)
abbrev boolsB (l:List Bool):Blk := .vec 4 1 1 (l.map brow)
abbrev natsB (l:List Nat):Blk := .vec 3 1 8 (l.map nrow)
theorem brow_get {l:List Bool} {i:Nat} {row:List Tr} (h:(l.map brow)[i]? = some row) : ∃ d,l[i]? = some d∧row=brow d:=by
 rw [List.getElem?_map,Option.map_eq_some_iff] at h
 obtain ⟨d,h1,rfl⟩:=h
 exact ⟨d,h1,rfl⟩
theorem nrow_get {l:List Nat} {i:Nat} {row:List Tr} (h:(l.map nrow)[i]? = some row) : ∃ d,l[i]? = some d∧row=nrow d:=by
 rw [List.getElem?_map,Option.map_eq_some_iff] at h
 obtain ⟨d,h1,rfl⟩:=h
 exact ⟨d,h1,rfl⟩
theorem brow_set (l:List Bool) (i:Nat) (b c:Bool):(l.map brow).set i ((brow b).take 0++[tb c]++(brow b).drop (0+1))=(l.set i c).map brow:=by
 rw [List.map_set]; rfl
theorem brow_rep (n:Nat) (b:Bool):List.replicate n [Tr.v (.bool b)]=(List.replicate n b).map brow:=by
 rw [List.map_replicate]; rfl
theorem natsT_get {l:List Nat} {i:Nat} {row:List Tr} (h:((l.map fun (x:Nat)=>(x:Int)).map irow)[i]? = some row) : ∃ d,l[i]? = some d∧row=[ti (d:Nat)]:=by
 rw [List.map_map,List.getElem?_map,Option.map_eq_some_iff] at h
 obtain ⟨d,h1,rfl⟩:=h
 exact ⟨d,h1,rfl⟩
theorem natsT_len (l:List Nat):((l.map fun (x:Nat)=>(x:Int)).map irow).length=l.length:=by simp
theorem getD_of {l:List Bool} {x:Nat} {b c:Bool} (h:l[x]? = some b):l.getD x c=b:=by
 rw [List.getD_eq_getElem?_getD,h]; rfl
theorem unseen_rep {N:Nat} (h:0<N):unseen ((List.replicate N false).set 0 true)+1=N:=by
 rw [unseen_set (by rw [List.getElem?_replicate,if_pos h])]
 simp [unseen]
set_option maxRecDepth 100000 in
set_option maxHeartbeats 2000000 in
theorem k_spread (g:Gr) (cut:Int) (hW:Whole g):K 27 [g.av,.tr (ti cut)] [] (.ret (.tr (boolsT (rchL (fol g) cut g.nodes.length)))) []:=by
 have hS:=SprI.start (fol:=fol g) (cut:=cut) hW.pos
 have hFin:=fun out h=>SprI.fin (fol:=fol g) (cut:=cut) (N:=g.nodes.length) (out:=out) h
 have hfI:=hW.fol
 have hlt:=hW.lt
 have hfl:=hW.len
 have hpos:=hW.pos
 have hmo:=hW.most
 clear hW
 generalize hR:rchL (fol g) cut g.nodes.length=R at hFin ⊢
 clear hR
 generalize fol g=f at hS hFin hfI hlt hfl
 obtain ⟨name,locals,slots,nodes⟩:=g
 simp only at hS hFin hfI hlt hpos hmo
 have hln:(nodes.map Nd.cells).length=nodes.length:=List.length_map ..
 obtain ⟨N,hNe⟩ : ∃ N,nodes.length=N:=⟨_,rfl⟩
 rw [hNe] at hS hFin hlt hpos hmo hln
 refine Ctr.of hT hmix Tryd.func27 rfl (fun _ _=>by kernel_rfl) rfl fun hok => ?_
 clear hok
 conv=>whnf
 refine ⟨(by rw [hln]; omega),Int.le_refl _,(by rw [hln]; show (N:Int)*1≤_; omega),?_⟩
 conv=>whnf
 rw [hln,Int.toNat_natCast]
 refine ⟨rfl,by decide,(show (0:Int)<(N:Int) by omega),?_⟩
 conv=>whnf
 refine ⟨rfl,rfl,(by rw [List.length_replicate]; exact hpos),fun row hrow => ?_⟩
 replace hrow:(List.replicate N [Tr.v (.bool false)])[0]? = some row:=hrow
 rw [List.getElem?_replicate,if_pos hpos] at hrow
 cases hrow
 refine ⟨by decide,?_⟩
 conv=>whnf
 refine LoopL.by (fun x:List Bool × List Nat × Nat=>⟨[(1,.tr (ti cut)),(2,.ptr 0 0),(5,.sl 1 N),(6,.sl 2 x.2.2)],[(0,.cells 42 [.tr (ts name),.tr (ti locals),.tr (ti slots),.tr (nodesT nodes)]),(1,boolsB x.1),(2,natsB x.2.1)],10⟩) (fun x=>x.2.2≤x.2.1.length∧x.2.1.length≤2*N+1∧2*unseen x.1+x.2.2≤2*N∧SprI f cut N x.1 (x.2.1.take x.2.2)) (fun x=>2*unseen x.1+x.2.2) ((List.replicate N false).set 0 true,[0],1) [0,_,_] []
  (Sub.mk' rfl ⟨.inl rfl,⟨rfl,rfl⟩,⟨rfl,rfl⟩,⟨rfl,rfl⟩,trivial⟩ ⟨⟨rfl,.inl rfl,.inl rfl,.inl rfl,.inl rfl,trivial⟩,⟨rfl,rfl,rfl,by rw [← brow_set _ _ false,← brow_rep]; rfl⟩,⟨rfl,rfl,rfl,rfl⟩,trivial⟩ rfl rfl) ⟨Nat.le_refl _,by show 1≤2*N+1; omega,by show 2*unseen ((List.replicate N false).set 0 true)+1≤2*N; have:=unseen_rep hpos; omega,hS⟩ ?_
 clear hS
 rintro ⟨out,rows,k⟩ ⟨hk,hrl,hm,hS⟩ -
 simp only at hk hrl hm hS
 conv=>whnf
 refine csplit (fun hk0 => ?_) (fun hk0 => ?_)
 ·have hk0:0<k:=by have:decide ((k:Int) > 0)=true:=hk0; have:=of_decide_eq_true this; omega
  have hk1:IntKind.i64.wrap ((k:Int) - 1)=((k - 1:Nat):Int):=by rw [w64 (by omega) (by omega)]; omega
  obtain ⟨a,ha⟩ : ∃ a,rows[k - 1]? = some a:=⟨_,List.getElem?_eq_getElem (by omega)⟩
  have hp : ∀ x,x ∈ rows.take k↔x=a∨x ∈ rows.take (k - 1):=fun x=>by
   have:rows.take k=rows.take (k - 1)++[a]:=by
    conv=>lhs; rw [show k=(k - 1)+1 by omega,List.take_add_one,ha]
    rfl
   rw [this,List.mem_append,List.mem_singleton]
   exact Or.comm
  have haN:a<N:=hS.lt ((hp a).2 (.inl rfl))
  conv=>whnf
  rw [hk1]
  refine ⟨rfl,(show (0:Int)≤((k - 1:Nat):Int) by omega),(show ((k - 1:Nat):Int)<(k:Int) by omega),?_⟩
  conv=>whnf
  refine ⟨rfl,(by show k - 1<(rows.map nrow).length; rw [List.length_map]; omega),fun row hrow => ?_⟩
  obtain ⟨d,hd,rfl⟩:=nrow_get hrow
  obtain rfl:=Option.some.inj (ha.symm.trans hd)
  clear hrow hd
  refine ⟨(show 0<1 by decide),fun t ht => ?_⟩
  cases ht
  conv=>whnf
  rw [hk1]
  refine ⟨(show (0:Int)≤((k - 1:Nat):Int) by omega),(show ((k - 1:Nat):Int)≤(k:Int) by omega),?_⟩
  conv=>whnf
  cases hac:((a:Int) == cut)
  case true =>
   have hc:(a:Int)=cut:=eq_of_beq hac
   conv=>whnf
   refine ⟨fun _ => ?_,fun h=>absurd rfl h⟩
   conv=>whnf
   exact ⟨(out,rows,k - 1),[0,1,2],[],Sub.mk' rfl ⟨.inl rfl,⟨rfl,rfl⟩,⟨rfl,rfl⟩,⟨rfl,rfl⟩,trivial⟩ ⟨⟨rfl,.inl rfl,.inl rfl,.inl rfl,.inl rfl,trivial⟩,⟨rfl,rfl,rfl,rfl⟩,⟨rfl,rfl,rfl,rfl⟩,trivial⟩ rfl rfl,⟨by show k - 1≤rows.length; omega,hrl,by show 2*unseen out+(k - 1)≤2*N; omega,hS.cut hp hc⟩,by show 2*unseen out+(k - 1)<2*unseen out+k; omega⟩
  have hc:(a:Int)≠cut:=fun w=>by rw [beq_eq_false_iff_ne] at hac; exact hac w
  have hJ:=hS.take hp hc
  obtain ⟨n,hn⟩ : ∃ n,nodes[a]? = some n:=⟨_,List.getElem?_eq_getElem (by omega)⟩
  have hf:=k_follows n
  rw [hfI a n hn] at hf
  have hflt:=hlt a
  have hfl:=hfl a
  obtain ⟨F,hF⟩ : ∃ F,f a=F:=⟨_,rfl⟩
  rw [hF] at hf hflt hfl
  have hFl:=natsT_len F
  obtain ⟨kind,op,slot,thing,⟨sa,ka,wa⟩,⟨sb,kb,wb⟩,next,els,origin⟩:=n
  conv=>whnf
  refine ⟨rfl,(show (0:Int)≤a by omega),(show (a:Int)<((nodes.map Nd.cells).length:Int) by omega),fun row hrow => ?_⟩
  obtain ⟨d,hd,rfl⟩:=nd_get hrow
  obtain rfl:=Option.some.inj (hn.symm.trans hd)
  clear hrow hd hn
  conv=>whnf
  refine acall.pure _ (hf) rfl rfl fun _ => ?_
  conv=>whnf
  refine LoopL.by (fun x:List Bool × List Nat × Nat × Nat=>⟨[(1,.tr (ti cut)),(2,.ptr 0 0),(5,.sl 1 N),(6,.sl 2 x.2.2.1),(39,.tr (natsT F)),(40,.tr (ti F.length)),(41,.tr (ti x.2.2.2))],[(0,.cells 42 [.tr (ts name),.tr (ti locals),.tr (ti slots),.tr (nodesT nodes)]),(1,boolsB x.1),(2,natsB x.2.1)],10⟩) (fun x=>x.2.2.1≤x.2.1.length∧x.2.1.length≤2*N+1∧x.2.2.2≤F.length∧2*unseen x.1+x.2.2.1<2*unseen out+k∧SprJ f cut N x.1 (x.2.1.take x.2.2.1) a x.2.2.2) (fun x=>F.length - x.2.2.2) (out,rows,k - 1,0) [0,1,2] []
   (Sub.mk' rfl ⟨.inl rfl,⟨rfl,rfl⟩,⟨rfl,rfl⟩,⟨rfl,rfl⟩,.inl rfl,.inl (by rw [← hFl]),.inl rfl,trivial⟩ ⟨⟨rfl,.inl rfl,.inl rfl,.inl rfl,.inl rfl,trivial⟩,⟨rfl,rfl,rfl,rfl⟩,⟨rfl,rfl,rfl,rfl⟩,trivial⟩ rfl rfl) ⟨by show k - 1≤rows.length; omega,hrl,Nat.zero_le _,by show 2*unseen out+(k - 1)<2*unseen out+k; omega,hJ⟩ ?_
  clear hJ hf hS hp ha
  rintro ⟨o2,r2,k2,j⟩ ⟨hk2,hr2,hj,hmu,hJ⟩ -
  simp only at hk2 hr2 hj hmu hJ
  have hol:=hJ.len
  conv=>whnf
  refine csplit (fun hjt => ?_) (fun hjt => ?_)
  ·have hjt:j<F.length:=by have:decide ((j:Int)<(F.length:Int))=true:=hjt; have:=of_decide_eq_true this; omega
   obtain ⟨y,hy⟩ : ∃ y,F[j]? = some y:=⟨_,List.getElem?_eq_getElem hjt⟩
   have hyN:=hflt y (List.mem_of_getElem? hy)
   have hyf:(f a)[j]? = some y:=by rw [hF]; exact hy
   obtain ⟨b,hb⟩ : ∃ b,o2[y]? = some b:=⟨_,List.getElem?_eq_getElem (by omega)⟩
   conv=>whnf
   refine ⟨rfl,(show (0:Int)≤j by omega),(show (j:Int)<((((F.map fun (x:Nat)=>(x:Int))).map irow).length:Int) by omega),fun row hrow => ?_⟩
   obtain ⟨d,hd,rfl⟩:=natsT_get hrow
   obtain rfl:=Option.some.inj (hy.symm.trans hd)
   clear hrow hd
   conv=>whnf
   refine ⟨rfl,(show (0:Int)≤y by omega),(show (y:Int)<(N:Int) by omega),?_⟩
   conv=>whnf
   refine ⟨rfl,(by show y<(o2.map brow).length; rw [List.length_map]; omega),fun row hrow => ?_⟩
   obtain ⟨d,hd,rfl⟩:=brow_get hrow
   obtain rfl:=Option.some.inj (hb.symm.trans hd)
   clear hrow hd
   refine ⟨(show 0<1 by decide),fun t ht => ?_⟩
   cases ht
   cases b
   ·conv=>whnf
    refine ⟨rfl,(show (0:Int)≤y by omega),(show (y:Int)<(N:Int) by omega),?_⟩
    conv=>whnf
    refine ⟨rfl,rfl,(by show y<(o2.map brow).length; rw [List.length_map]; omega),fun row hrow => ?_⟩
    obtain ⟨d,hd,rfl⟩:=brow_get hrow
    obtain rfl:=Option.some.inj (hb.symm.trans hd)
    clear hrow hd
    refine ⟨(show 0+1≤1 by decide),?_⟩
    conv=>whnf
    refine ⟨rfl,rfl,rfl,(by rw [List.length_map]; exact hk2),(show (k2+1)*8≤150000000000000 by omega),fun q hq => ?_,?_⟩
    ·cases hq with
     | head=>exact Nat.ne_of_beq_eq_false rfl
     | tail _ h=>cases h
    conv=>whnf
    have hun:=unseen_set hb
    have hda:(r2.map nrow).take k2++[[ti (y:Nat)]]=(r2.take k2++[y]).map nrow:=by rw [List.map_append,List.map_take]; rfl
    have hlen:(r2.take k2++[y]).length=k2+1:=by rw [List.length_append,List.length_take]; simp; omega
    exact ⟨(o2.set y true,r2.take k2++[y],k2+1,j+1),[0,1,_],[],Sub.mk' rfl ⟨.inl rfl,⟨rfl,rfl⟩,⟨rfl,rfl⟩,⟨rfl,rfl⟩,.inl rfl,.inl rfl,.inl (ti_succ hjt (by omega)),trivial⟩ ⟨⟨rfl,.inl rfl,.inl rfl,.inl rfl,.inl rfl,trivial⟩,⟨rfl,rfl,rfl,brow_set o2 y false true⟩,⟨rfl,rfl,rfl,hda⟩,trivial⟩ rfl rfl,⟨by show k2+1≤(r2.take k2++[y]).length; omega,by show (r2.take k2++[y]).length≤2*N+1; omega,hjt,by show 2*unseen (o2.set y true)+(k2+1)<2*unseen out+k; omega,hJ.push hyf hb (fun x=>by rw [List.take_of_length_le (by rw [hlen]; exact Nat.le_refl _),List.mem_append,List.mem_singleton]; exact Or.comm)⟩,by show F.length - (j+1)<F.length - j; omega⟩
   ·conv=>whnf
    exact ⟨(o2,r2,k2,j+1),[0,1,2],[],Sub.mk' rfl ⟨.inl rfl,⟨rfl,rfl⟩,⟨rfl,rfl⟩,⟨rfl,rfl⟩,.inl rfl,.inl rfl,.inl (ti_succ hjt (by omega)),trivial⟩ ⟨⟨rfl,.inl rfl,.inl rfl,.inl rfl,.inl rfl,trivial⟩,⟨rfl,rfl,rfl,rfl⟩,⟨rfl,rfl,rfl,rfl⟩,trivial⟩ rfl rfl,⟨hk2,hr2,hjt,hmu,hJ.skip hyf hb⟩,by show F.length - (j+1)<F.length - j; omega⟩
  ·have hjt:F.length≤j:=by have:decide ((j:Int)<(F.length:Int))=false:=hjt; have:=of_decide_eq_false this; omega
   conv=>whnf
   refine ⟨fun _ => ?_,fun h=>absurd rfl h⟩
   conv=>whnf
   exact ⟨(o2,r2,k2),[0,1,2],[],Sub.mk' rfl ⟨.inl rfl,⟨rfl,rfl⟩,⟨rfl,rfl⟩,⟨rfl,rfl⟩,trivial⟩ ⟨⟨rfl,.inl rfl,.inl rfl,.inl rfl,.inl rfl,trivial⟩,⟨rfl,rfl,rfl,rfl⟩,⟨rfl,rfl,rfl,rfl⟩,trivial⟩ rfl rfl,⟨hk2,hr2,by show 2*unseen o2+k2≤2*N; omega,hJ.fin (by rw [hF]; exact hjt)⟩,hmu⟩
 ·have hk0:k=0:=by have:decide ((k:Int) > 0)=false:=hk0; have:=of_decide_eq_false this; omega
  subst hk0
  have:=hFin out hS
  subst this
  have hol:=hS.len
  conv=>whnf
  refine ⟨fun _ => ?_,fun h=>absurd rfl h⟩
  conv=>whnf
  exact ⟨⟨rfl,(by show N≤(out.map brow).length; rw [List.length_map]; omega),(by show boolsT out=Tr.lst 1 1 ((out.map brow).take N); rw [List.take_of_length_le (by rw [List.length_map]; omega)])⟩,trivial⟩
end Go.Proofs.YthboippafkcoiaaDoor.am
namespace Go.Proofs.YthboippafkcoiaaDoor.am
open Go Go.Proofs
set_option linter.all false
def lrow (l:List Nat):List Tr:=[natsT l]
abbrev listsT (L:List (List Nat)):Tr := .lst 1 24 (L.map lrow)
theorem lrow_get {l:List (List Nat)} {i:Nat} {row:List Tr} (h:(l.map lrow)[i]? = some row) : ∃ d,l[i]? = some d∧row=lrow d:=by
 rw [List.getElem?_map,Option.map_eq_some_iff] at h
 obtain ⟨d,h1,rfl⟩:=h
 exact ⟨d,h1,rfl⟩
theorem nil_rows (N:Nat):nlR (List.replicate N [Tr.v (.slice none 0 0)]) ((List.replicate N ([]:List Nat)).map lrow):=by
 induction N with
 | zero=>trivial
 | succ N ih=>exact ⟨⟨.inr ⟨rfl,1,8,rfl⟩,trivial⟩,ih⟩
theorem leaf_rep (N:Nat):leafR (List.replicate N [Tr.v (.slice none 0 0)]):=fun row hr t ht=>by
 rw [List.eq_of_mem_replicate hr] at ht
 rw [List.mem_singleton.1 ht]
 exact ⟨_,rfl⟩
theorem setC_put (X:List (List Nat)) (y:Nat) (x t:Tr) (hy:y<X.length):setC ((X.map lrow).set y [x]) y 0 t=(X.map lrow).set y [t]:=by
 unfold setC
 rw [List.getElem?_set_self (by rw [List.length_map]; exact hy)]
 show ((X.map lrow).set y [x]).set y [t]=_
 rw [List.set_set]
theorem nats_snoc (l:List Nat) (i:Nat):Tr.lst 1 8 ((((l.map fun (x:Nat)=>(x:Int)).map irow)++[[ti i]]).take (((l.map fun (x:Nat)=>(x:Int)).map irow).length+1))=natsT (l++[i]):=by
 rw [List.take_of_length_le (by rw [List.length_append]; exact Nat.le_refl _)]
 show _=Tr.lst 1 8 (((l++[i]).map fun (x:Nat)=>(x:Int)).map irow)
 rw [List.map_append,List.map_append]
 rfl
set_option maxRecDepth 100000 in
set_option maxHeartbeats 2000000 in
theorem k_ahead (g:Gr) (hW:wholeB g=true):K 17 [g.av] [] (.ret (.tr (listsT (aheadL (fol g) g.nodes.length)))) []:=by
 have hw:=k_whole g
 rw [hW] at hw
 have hW:=whole_of hW
 have hput:=fun n j k a b=>aheadJ_put (fol:=fol g) (N:=g.nodes.length) (n:=n) (j:=j) (k:=k) a b (hW.nd n)
 have hat:=fun n j k hk=>aheadJ_at (fol:=fol g) (N:=g.nodes.length) (n:=n) (j:=j) (k:=k) hk
 have hnext:=fun n j hj=>aheadJ_next (fol:=fol g) (N:=g.nodes.length) (n:=n) (j:=j) hj
 have hz:aheadJ (fol g) g.nodes.length 0 0=List.replicate g.nodes.length []:=aheadJ_zero
 have hfin:aheadJ (fol g) g.nodes.length g.nodes.length 0=aheadL (fol g) g.nodes.length:=aheadJ_fin
 have hlen : ∀ n j,(aheadJ (fol g) g.nodes.length n j).length=g.nodes.length:=fun n j=>by simp [aheadJ]
 have hal : ∀ n k,(aheadN (fol g) n k).length≤n:=fun n k=>by
  have:=List.length_filter_le (fun i=>(fol g i).contains k) (List.range n)
  rwa [List.length_range] at this
 have hfI:=hW.fol
 have hlt:=hW.lt
 have hfl:=hW.len
 have hpos:=hW.pos
 have hmo:=hW.most
 clear hW
 generalize aheadL (fol g) g.nodes.length=R at hfin ⊢
 generalize aheadJ (fol g) g.nodes.length=A at hput hat hnext hz hfin hlen
 generalize aheadN (fol g)=B at hput hal
 generalize fol g=f at hput hat hnext hfI hlt hfl
 clear hat
 obtain ⟨name,locals,slots,nodes⟩:=g
 simp only at hput hnext hz hfin hlen hpos hmo hfI hlt
 have hln:(nodes.map Nd.cells).length=nodes.length:=List.length_map ..
 obtain ⟨N,hNe⟩ : ∃ N,nodes.length=N:=⟨_,rfl⟩
 rw [hNe] at hput hz hfin hlen hlt hpos hmo hln
 refine Ctr.of hT hmix Tryd.func17 rfl (fun _ _=>by kernel_rfl) rfl fun hok => ?_
 clear hok
 conv=>whnf
 refine acall.pure _ (hw) rfl rfl fun _ => ?_
 conv=>whnf
 refine ⟨(by rw [hln]; omega),Int.le_refl _,(by rw [hln]; show (N:Int)*24≤_; omega),?_⟩
 conv=>whnf
 rw [hln,Int.toNat_natCast]
 refine LoopL.by (fun i:Nat=>⟨[(1,.ptr 0 0),(3,.sl 1 N),(16,.tr (nodesT nodes)),(17,.tr (ti N)),(18,.tr (ti i))],[(0,.cells 42 [.tr (ts name),.tr (ti locals),.tr (ti slots),.tr (nodesT nodes)]),(1,.own 1 24 ((A i 0).map lrow) [])],10⟩) (fun i=>i≤N) (fun i=>N - i) 0 [0,_] []
  (Sub.mk' rfl ⟨⟨rfl,rfl⟩,⟨rfl,rfl⟩,.inl rfl,.inl rfl,.inl rfl,trivial⟩ ⟨⟨rfl,.inl rfl,.inl rfl,.inl rfl,.inl rfl,trivial⟩,⟨rfl,rfl,rfl,leaf_rep N,.inr (by show nlR _ ((A 0 0).map lrow); rw [hz]; exact nil_rows N)⟩,trivial⟩ rfl rfl) (Nat.zero_le _) ?_
 rintro i hi -
 conv=>whnf
 refine csplit (fun hlt1 => ?_) (fun hge => ?_)
 ·have hlt1:i<N:=by have:=of_decide_eq_true hlt1; omega
  obtain ⟨n,hn⟩ : ∃ n,nodes[i]? = some n:=⟨_,List.getElem?_eq_getElem (by omega)⟩
  have hf:=k_follows n
  rw [hfI i n hn] at hf
  have hflt:=hlt i
  have hfl:=hfl i
  have hput:=hput i
  have hnext:=hnext i
  obtain ⟨F,hF⟩ : ∃ F,f i=F:=⟨_,rfl⟩
  rw [hF] at hf hflt hfl hput hnext
  have hFl:=natsT_len F
  obtain ⟨kind,op,slot,thing,⟨sa,ka,wa⟩,⟨sb,kb,wb⟩,next,els,origin⟩:=n
  conv=>whnf
  refine ⟨rfl,(show (0:Int)≤i by omega),(show (i:Int)<((nodes.map Nd.cells).length:Int) by omega),fun row hrow => ?_⟩
  obtain ⟨d,hd,rfl⟩:=nd_get hrow
  obtain rfl:=Option.some.inj (hn.symm.trans hd)
  clear hrow hd hn
  conv=>whnf
  refine acall.pure _ (hf) rfl rfl fun _ => ?_
  conv=>whnf
  refine LoopL.by (fun j:Nat=>⟨[(1,.ptr 0 0),(3,.sl 1 N),(4,.tr (ti i)),(16,.tr (nodesT nodes)),(17,.tr (ti N)),(18,.tr (ti i)),(24,.tr (natsT F)),(25,.tr (ti F.length)),(26,.tr (ti j))],[(0,.cells 42 [.tr (ts name),.tr (ti locals),.tr (ti slots),.tr (nodesT nodes)]),(1,.own 1 24 ((A i j).map lrow) [])],10⟩) (fun j=>j≤F.length) (fun j=>F.length - j) 0 [0,1] []
   (Sub.mk' rfl ⟨⟨rfl,rfl⟩,⟨rfl,rfl⟩,.inl rfl,.inl rfl,.inl rfl,.inl rfl,.inl rfl,.inl (by rw [← hFl]),.inl rfl,trivial⟩ ⟨⟨rfl,.inl rfl,.inl rfl,.inl rfl,.inl rfl,trivial⟩,⟨rfl,rfl,rfl,rfl,.inl rfl⟩,trivial⟩ rfl rfl) (Nat.zero_le _) ?_
  rintro j hj -
  conv=>whnf
  refine csplit (fun hjt => ?_) (fun hjt => ?_)
  ·have hjt:j<F.length:=by have:=of_decide_eq_true hjt; omega
   obtain ⟨y,hy⟩ : ∃ y,F[j]? = some y:=⟨_,List.getElem?_eq_getElem hjt⟩
   have hyN:=hflt y (List.mem_of_getElem? hy)
   obtain ⟨hset,hget⟩:=hput j y hy hyN
   have hbl:=hal i y
   generalize B i y=l at hset hget hbl
   conv=>whnf
   refine ⟨rfl,(show (0:Int)≤j by omega),(show (j:Int)<((((F.map fun (x:Nat)=>(x:Int))).map irow).length:Int) by omega),fun row hrow => ?_⟩
   obtain ⟨d,hd,rfl⟩:=natsT_get hrow
   obtain rfl:=Option.some.inj (hy.symm.trans hd)
   clear hrow hd
   conv=>whnf
   refine ⟨rfl,(show (0:Int)≤y by omega),(show (y:Int)<(N:Int) by omega),?_⟩
   conv=>whnf
   refine ⟨rfl,(by show y<((A i j).map lrow).length; rw [List.length_map,hlen]; exact hyN),fun row hrow => ?_⟩
   obtain ⟨d,hd,rfl⟩:=lrow_get hrow
   obtain rfl:=Option.some.inj (hget.symm.trans hd)
   clear hrow hd
   refine ⟨(show 0<1 by decide),fun t ht => ?_⟩
   cases ht
   conv=>whnf
   refine ⟨(show 0<1 by decide),?_⟩
   conv=>whnf
   refine ⟨rfl,rfl,Nat.le_refl _,(by show (((l.map fun (x:Nat)=>(x:Int)).map irow).length+1)*8≤_; rw [natsT_len]; omega),trivial,(fun row hr t ht=>by rw [List.mem_singleton.1 hr] at ht; rw [List.mem_singleton.1 ht]; exact ⟨_,rfl⟩),trivial,?_⟩
   conv=>whnf
   refine ⟨rfl,(show (0:Int)≤y by omega),(show (y:Int)<(N:Int) by omega),?_⟩
   conv=>whnf
   refine ⟨rfl,rfl,rfl,(by show y<((A i j).map lrow).length; rw [List.length_map,hlen]; exact hyN),⟨fun _=>rfl,trivial⟩,fun row hrow => ?_⟩
   obtain ⟨d,hd,rfl⟩:=lrow_get hrow
   obtain rfl:=Option.some.inj (hget.symm.trans hd)
   clear hrow hd
   refine ⟨(show 0+1≤1 by decide),?_⟩
   conv=>whnf
   refine ⟨j+1,[0,1],[],Sub.pk [1] ?_,hjt,by show F.length - (j+1)<F.length - j; omega⟩
   conv=>whnf
   refine ⟨rfl,rfl,(by show ((l.map fun (x:Nat)=>(x:Int)).map irow).length+1≤(((l.map fun (x:Nat)=>(x:Int)).map irow)++[[ti i]]).length; rw [List.length_append]; exact Nat.le_refl _),?_⟩
   refine Sub0.mk' rfl ⟨⟨rfl,rfl⟩,⟨rfl,rfl⟩,.inl rfl,.inl rfl,.inl rfl,.inl rfl,.inl rfl,.inl rfl,.inl (ti_succ hjt (by omega)),trivial⟩ ⟨⟨rfl,.inl rfl,.inl rfl,.inl rfl,.inl rfl,trivial⟩,⟨rfl,rfl,rfl,rfl,.inl ?_⟩,trivial⟩ rfl rfl
   refine (setC_put (A i j) y _ _ (by rw [hlen]; exact hyN)).trans ?_
   rw [hset,List.map_set]
   exact congrArg (fun q=>((A i j).map lrow).set y [q]) (nats_snoc l i)
  ·have hjt:F.length≤j:=by have:=of_decide_eq_false hjt; omega
   conv=>whnf
   refine ⟨fun _ => ?_,fun h=>absurd rfl h⟩
   conv=>whnf
   exact ⟨i+1,[0,1],[],Sub.mk' rfl ⟨⟨rfl,rfl⟩,⟨rfl,rfl⟩,.inl rfl,.inl rfl,.inl (ti_succ hlt1 (by omega)),trivial⟩ ⟨⟨rfl,.inl rfl,.inl rfl,.inl rfl,.inl rfl,trivial⟩,⟨rfl,rfl,rfl,rfl,.inl (by rw [hnext j hjt])⟩,trivial⟩ rfl rfl,hlt1,by show N - (i+1)<N - i; omega⟩
 ·have hge:i=N:=by have:=of_decide_eq_false hge; omega
  subst hge
  conv=>whnf
  refine ⟨fun _ => ?_,fun h=>absurd rfl h⟩
  conv=>whnf
  exact ⟨⟨rfl,(by show i≤((A i 0).map lrow).length; rw [List.length_map,hlen]; exact Nat.le_refl _),(by show listsT R=Tr.lst 1 24 (((A i 0).map lrow).take i); rw [List.take_of_length_le (by rw [List.length_map,hlen]; exact Nat.le_refl _),hfin])⟩,trivial⟩
end Go.Proofs.YthboippafkcoiaaDoor.am
namespace Go.Proofs.YthboippafkcoiaaDoor.am
open Go Go.Proofs
set_option linter.all false
theorem ctf {b:Bool} {C:Prop} (h1:b=true) (h2:b=false):C:=by rw [h1] at h2; cases h2
def revI (l:List Nat) (i:Nat):List Nat:=(List.range l.length).map fun x=>bif decide (x<i) || decide (l.length≤x+i) then l.getD (l.length - 1 - x) 0 else l.getD x 0
theorem revI_len (l:List Nat) (i:Nat):(revI l i).length=l.length:=by simp [revI]
theorem revI_at {l:List Nat} {i x:Nat} (hx:x<l.length):(revI l i)[x]? = some (bif decide (x<i) || decide (l.length≤x+i) then l.getD (l.length - 1 - x) 0 else l.getD x 0):=by
 simp only [revI,List.getElem?_map,List.getElem?_range hx,Option.map_some]
theorem getD_at {l:List Nat} {x:Nat} (hx:x<l.length):l[x]? = some (l.getD x 0):=by
 rw [List.getElem?_eq_getElem hx,List.getD_eq_getElem?_getD,List.getElem?_eq_getElem hx]; rfl
theorem revI_zero (l:List Nat):revI l 0=l:=by
 refine List.ext_getElem? fun x => ?_
 by_cases hx:x<l.length
 ·rw [revI_at hx,decide_eq_false (by omega),decide_eq_false (by omega),getD_at hx]; rfl
 ·rw [List.getElem?_eq_none (by rw [revI_len]; omega),List.getElem?_eq_none (by omega)]
theorem revI_fin {l:List Nat} {i:Nat} (h:l.length≤2*i+1):revI l i=l.reverse:=by
 refine List.ext_getElem? fun x => ?_
 by_cases hx:x<l.length
 ·rw [revI_at hx,List.getElem?_reverse hx,getD_at (show l.length - 1 - x<l.length by omega)]
  by_cases h1:x<i
  ·rw [decide_eq_true h1]; rfl
  ·by_cases h2:l.length≤x+i
   ·rw [decide_eq_true h2,Bool.or_true]; rfl
   ·rw [decide_eq_false h1,decide_eq_false h2]
    show some (l.getD x 0)=_
    rw [show l.length - 1 - x=x by omega]
 ·rw [List.getElem?_eq_none (by rw [revI_len]; omega),List.getElem?_eq_none (by rw [List.length_reverse]; omega)]
theorem revI_step {l:List Nat} {i j:Nat} (hj:j=l.length - 1 - i) (h:i<j):(revI l i)[i]? = some (l.getD i 0)∧(revI l i)[j]? = some (l.getD j 0)∧((revI l i).set i (l.getD j 0)).set j (l.getD i 0)=revI l (i+1):=by
 refine ⟨by rw [revI_at (by omega),decide_eq_false (by omega),decide_eq_false (by omega)]; rfl,by rw [revI_at (by omega),decide_eq_false (by omega),decide_eq_false (by omega)]; rfl,List.ext_getElem? fun x => ?_⟩
 by_cases hx:x<l.length
 ·rw [revI_at hx]
  by_cases e1:x=j
  ·subst e1
   rw [List.getElem?_set_self (by rw [List.length_set,revI_len]; omega),decide_eq_true (show l.length≤x+(i+1) by omega),Bool.or_true,cond_true,show l.length - 1 - x=i by omega]
  ·rw [List.getElem?_set_ne (fun w=>e1 w.symm)]
   by_cases e2:x=i
   ·subst e2
    rw [List.getElem?_set_self (by rw [revI_len]; omega),decide_eq_true (show x<x+1 by omega),Bool.true_or,cond_true,hj]
   ·rw [List.getElem?_set_ne (fun w=>e2 w.symm),revI_at hx]
    congr 2
    rw [show decide (x<i)=decide (x<i+1) by congr 1; simp; omega,show decide (l.length≤x+i)=decide (l.length≤x+(i+1)) by congr 1; simp; omega]
 ·rw [List.getElem?_eq_none (by simp [revI_len]; omega),List.getElem?_eq_none (by rw [revI_len]; omega)]
theorem nrow_set (l:List Nat) (i a b:Nat):(l.map nrow).set i ((nrow a).take 0++[ti (b:Nat)]++(nrow a).drop (0+1))=(l.set i b).map nrow:=by
 rw [List.map_set]; rfl
set_option maxRecDepth 100000 in
theorem k_reverse (l:List Nat) (h1:1≤l.length) (h2:l.length≤1048576):K 56 [.sl 0 l.length] [natsB l] (.ret (.tup [])) [some (natsB l.reverse)]:=by
 have hj0:IntKind.i64.wrap ((l.length:Int) - 1)=((l.length - 1:Nat):Int):=by rw [w64 (by omega) (by omega)]; omega
 refine Ctr.of hT hmix Tryd.func56 rfl (fun _ _=>by kernel_rfl) rfl fun hok => ?_
 clear hok
 conv=>whnf
 rw [hj0]
 refine LoopL.by (fun i:Nat=>⟨[(0,.sl 0 l.length),(2,.tr (ti i)),(3,.tr (ti ((l.length - 1 - i:Nat))))],[(0,natsB (revI l i))],10⟩) (fun i=>i<l.length) (fun i=>l.length - i) 0 [0] []
  (Sub.mk' rfl ⟨⟨rfl,rfl⟩,.inl rfl,.inl rfl,trivial⟩ ⟨⟨rfl,rfl,rfl,by rw [revI_zero]⟩,trivial⟩ rfl rfl) (show 0<l.length by omega) ?_
 rintro i hi -
 obtain ⟨j,hj⟩ : ∃ j,l.length - 1 - i=j:=⟨_,rfl⟩
 conv=>whnf
 rw [hj]
 refine csplit (fun hlt => ?_) (fun hge => ?_)
 ·have hlt:i<j:=by have:decide ((i:Int)<(j:Int))=true:=hlt; have:=of_decide_eq_true this; omega
  obtain ⟨s1,s2,s3⟩:=revI_step hj.symm hlt
  have hrl:=revI_len l i
  generalize revI l i=R at s1 s2 s3 hrl
  generalize l.getD i 0=a at s1 s3
  generalize l.getD j 0=b at s2 s3
  conv=>whnf
  refine ⟨rfl,(show (0:Int)≤(j:Int) by omega),(show (j:Int)<(l.length:Int) by omega),?_⟩
  conv=>whnf
  refine ⟨rfl,(by show j<(R.map nrow).length; rw [List.length_map]; omega),fun row hrow => ?_⟩
  obtain ⟨d,hd,rfl⟩:=nrow_get hrow
  obtain rfl:=Option.some.inj (s2.symm.trans hd)
  clear hrow hd
  refine ⟨(show 0<1 by decide),fun t ht => ?_⟩
  cases ht
  conv=>whnf
  refine ⟨rfl,(show (0:Int)≤(i:Int) by omega),(show (i:Int)<(l.length:Int) by omega),?_⟩
  conv=>whnf
  refine ⟨rfl,(by show i<(R.map nrow).length; rw [List.length_map]; omega),fun row hrow => ?_⟩
  obtain ⟨d,hd,rfl⟩:=nrow_get hrow
  obtain rfl:=Option.some.inj (s1.symm.trans hd)
  clear hrow hd
  refine ⟨(show 0<1 by decide),fun t ht => ?_⟩
  cases ht
  conv=>whnf
  refine ⟨rfl,(show (0:Int)≤(i:Int) by omega),(show (i:Int)<(l.length:Int) by omega),?_⟩
  conv=>whnf
  refine ⟨rfl,rfl,(by show i<(R.map nrow).length; rw [List.length_map]; omega),fun row hrow => ?_⟩
  obtain ⟨d,hd,rfl⟩:=nrow_get hrow
  obtain rfl:=Option.some.inj (s1.symm.trans hd)
  clear hrow hd
  refine ⟨(show 0+1≤1 by decide),?_⟩
  conv=>whnf
  refine ⟨rfl,(show (0:Int)≤(j:Int) by omega),(show (j:Int)<(l.length:Int) by omega),?_⟩
  conv=>whnf
  refine ⟨rfl,rfl,(by rw [List.length_set,List.length_map]; show j<R.length; omega),fun row hrow => ?_⟩
  replace hrow:((R.set i b).map nrow)[j]? = some row:=by rw [← nrow_set R i a b]; exact hrow
  obtain ⟨d,hd,rfl⟩:=nrow_get hrow
  clear hrow hd
  refine ⟨(show 0+1≤1 by decide),?_⟩
  conv=>whnf
  refine ⟨by kernel_rfl,fun _ => ?_⟩
  conv=>whnf
  have hiw:IntKind.i64.wrap ((i:Int)+1)=((i+1:Nat):Int):=by rw [w64 (by omega) (by omega)]; omega
  have hjw:IntKind.i64.wrap ((j:Int) - 1)=((l.length - 1 - (i+1):Nat):Int):=by rw [w64 (by omega) (by omega)]; omega
  rw [hiw,hjw]
  exact ⟨i+1,[0],[],Sub.mk' rfl ⟨⟨rfl,rfl⟩,.inl rfl,.inl rfl,trivial⟩ ⟨⟨rfl,rfl,rfl,by rw [← s3,List.map_set,List.map_set]; rfl⟩,trivial⟩ rfl rfl,(show i+1<l.length by omega),by show l.length - (i+1)<l.length - i; omega⟩
 ·have hge:j≤i:=by have:decide ((i:Int)<(j:Int))=false:=hge; have:=of_decide_eq_false this; omega
  have:=revI_fin (l:=l) (i:=i) (by omega)
  conv=>whnf
  refine ⟨fun _ => ?_,fun h=>absurd rfl h⟩
  conv=>whnf
  exact ⟨trivial,⟨rfl,rfl,rfl,by rw [this]⟩,trivial⟩
end Go.Proofs.YthboippafkcoiaaDoor.am
