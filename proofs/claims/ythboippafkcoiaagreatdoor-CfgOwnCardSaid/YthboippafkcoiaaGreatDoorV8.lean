/- The types of the translation, as the abstract machine has them (printed by gen_ty.py). Contracts of target: the kinds and fields of instructions. -/
import Derived.Test.YthboippafkcoiaaGreatDoorV4
import Derived.Test.YthboippafkcoiaaGreatDoorProg
import Derived.KernelRfl
import Derived.Test.YthboippafkcoiaaGreatDoorV5
set_option linter.all false
namespace Go.Proofs.YthboippafkcoiaaGreatDoor.am
open Go
set_option maxRecDepth 100000 in
def T:Ty:=[
 (1,⟨.func,1,8,[.f],false⟩),
 (2,⟨.int .i64,1,8,[.i .i64],false⟩),
 (3,⟨.int .i64,1,8,[.i .i64],false⟩),
 (4,⟨.bool,1,1,[.b],false⟩),
 (5,⟨.int .u8,1,1,[.i .u8],false⟩),
 (9,⟨.string,1,16,[.s],false⟩),
 (12,⟨.int .u64,1,8,[.i .u64],false⟩),
 (15,⟨.ptr 240,1,8,[.p],false⟩),
 (16,⟨.ptr 243,1,8,[.p],false⟩),
 (20,⟨.iface,1,16,[.n],false⟩),
 (21,⟨.int .i32,1,4,[.i .i32],false⟩),
 (22,⟨.slice 77,1,24,[.sl],false⟩),
 (23,⟨.slice 41,1,24,[.sl],false⟩),
 (24,⟨.struct [(22,0),(22,1),(23,2)],3,72,[.sl,.sl,.sl],true⟩),
 (25,⟨.struct [(22,0),(22,1),(23,2)],3,72,[.sl,.sl,.sl],true⟩),
 (26,⟨.func,1,8,[.f],false⟩),
 (27,⟨.slice 50,1,24,[.sl],false⟩),
 (28,⟨.struct [(22,0),(22,1),(27,2)],3,72,[.sl,.sl,.sl],true⟩),
 (29,⟨.struct [(22,0),(22,1),(27,2)],3,72,[.sl,.sl,.sl],true⟩),
 (30,⟨.int .i64,1,8,[.i .i64],false⟩),
 (32,⟨.func,1,8,[.f],false⟩),
 (33,⟨.func,1,8,[.f],false⟩),
 (34,⟨.func,1,8,[.f],false⟩),
 (35,⟨.func,1,8,[.f],false⟩),
 (36,⟨.func,1,8,[.f],false⟩),
 (37,⟨.slice 2,1,24,[.sl],false⟩),
 (38,⟨.ptr 44,1,8,[.p],false⟩),
 (39,⟨.slice 105,1,24,[.sl],false⟩),
 (40,⟨.struct [(9,0),(22,1),(39,2),(3,3)],4,72,[.s,.sl,.sl,.i .i64],true⟩),
 (41,⟨.struct [(9,0),(22,1),(39,2),(3,3)],4,72,[.s,.sl,.sl,.i .i64],true⟩),
 (42,⟨.slice 53,1,24,[.sl],false⟩),
 (43,⟨.struct [(25,0),(3,3),(37,4),(37,5),(3,6),(3,7),(42,8)],9,168,[.sl,.sl,.sl,.i .i64,.sl,.sl,.i .i64,.i .i64,.sl],true⟩),
 (44,⟨.struct [(25,0),(3,3),(37,4),(37,5),(3,6),(3,7),(42,8)],9,168,[.sl,.sl,.sl,.i .i64,.sl,.sl,.i .i64,.i .i64,.sl],true⟩),
 (45,⟨.func,1,8,[.f],false⟩),
 (47,⟨.func,1,8,[.f],false⟩),
 (48,⟨.slice 75,1,24,[.sl],false⟩),
 (49,⟨.struct [(9,0),(3,1),(3,2),(48,3)],4,56,[.s,.i .i64,.i .i64,.sl],true⟩),
 (50,⟨.struct [(9,0),(3,1),(3,2),(48,3)],4,56,[.s,.i .i64,.i .i64,.sl],true⟩),
 (51,⟨.int .u8,1,1,[.i .u8],false⟩),
 (52,⟨.struct [(51,0),(3,1),(2,2)],3,24,[.i .u8,.i .i64,.i .i64],true⟩),
 (53,⟨.struct [(51,0),(3,1),(2,2)],3,24,[.i .u8,.i .i64,.i .i64],true⟩),
 (54,⟨.func,1,8,[.f],false⟩),
 (55,⟨.func,1,8,[.f],false⟩),
 (56,⟨.slice 4,1,24,[.sl],false⟩),
 (57,⟨.func,1,8,[.f],false⟩),
 (58,⟨.func,1,8,[.f],false⟩),
 (59,⟨.slice 62,1,24,[.sl],false⟩),
 (60,⟨.func,1,8,[.f],false⟩),
 (61,⟨.func,1,8,[.f],false⟩),
 (62,⟨.slice 3,1,24,[.sl],false⟩),
 (63,⟨.func,1,8,[.f],false⟩),
 (64,⟨.func,1,8,[.f],false⟩),
 (65,⟨.func,1,8,[.f],false⟩),
 (67,⟨.func,1,8,[.f],false⟩),
 (69,⟨.func,1,8,[.f],false⟩),
 (70,⟨.func,1,8,[.f],false⟩),
 (71,⟨.int .u8,1,1,[.i .u8],false⟩),
 (72,⟨.struct [(4,0),(3,1),(2,2)],3,24,[.b,.i .i64,.i .i64],true⟩),
 (73,⟨.struct [(4,0),(3,1),(2,2)],3,24,[.b,.i .i64,.i .i64],true⟩),
 (74,⟨.struct [(51,0),(71,1),(3,2),(3,3),(73,4),(73,7),(3,10),(3,11),(3,12)],13,96,[.i .u8,.i .u8,.i .i64,.i .i64,.b,.i .i64,.i .i64,.b,.i .i64,.i .i64,.i .i64,.i .i64,.i .i64],true⟩),
 (75,⟨.struct [(51,0),(71,1),(3,2),(3,3),(73,4),(73,7),(3,10),(3,11),(3,12)],13,96,[.i .u8,.i .u8,.i .i64,.i .i64,.b,.i .i64,.i .i64,.b,.i .i64,.i .i64,.i .i64,.i .i64,.i .i64],true⟩),
 (76,⟨.struct [(9,0),(2,1),(3,2)],3,32,[.s,.i .i64,.i .i64],true⟩),
 (77,⟨.struct [(9,0),(2,1),(3,2)],3,32,[.s,.i .i64,.i .i64],true⟩),
 (78,⟨.func,1,8,[.f],false⟩),
 (80,⟨.func,1,8,[.f],false⟩),
 (81,⟨.func,1,8,[.f],false⟩),
 (82,⟨.func,1,8,[.f],false⟩),
 (83,⟨.func,1,8,[.f],false⟩),
 (84,⟨.func,1,8,[.f],false⟩),
 (85,⟨.struct [(3,0),(3,1)],2,16,[.i .i64,.i .i64],true⟩),
 (86,⟨.struct [(3,0),(3,1)],2,16,[.i .i64,.i .i64],true⟩),
 (88,⟨.func,1,8,[.f],false⟩),
 (89,⟨.ptr 92,1,8,[.p],false⟩),
 (90,⟨.slice 137,1,24,[.sl],false⟩),
 (91,⟨.struct [(25,0),(3,3),(50,4),(90,8),(4,9)],10,168,[.sl,.sl,.sl,.i .i64,.s,.i .i64,.i .i64,.sl,.sl,.b],true⟩),
 (92,⟨.struct [(25,0),(3,3),(50,4),(90,8),(4,9)],10,168,[.sl,.sl,.sl,.i .i64,.s,.i .i64,.i .i64,.sl,.sl,.b],true⟩),
 (93,⟨.func,1,8,[.f],false⟩),
 (94,⟨.ptr 96,1,8,[.p],false⟩),
 (95,⟨.struct [(25,0),(3,3),(50,4),(62,8),(4,9)],10,168,[.sl,.sl,.sl,.i .i64,.s,.i .i64,.i .i64,.sl,.sl,.b],true⟩),
 (96,⟨.struct [(25,0),(3,3),(50,4),(62,8),(4,9)],10,168,[.sl,.sl,.sl,.i .i64,.s,.i .i64,.i .i64,.sl,.sl,.b],true⟩),
 (97,⟨.func,1,8,[.f],false⟩),
 (98,⟨.func,1,8,[.f],false⟩),
 (99,⟨.func,1,8,[.f],false⟩),
 (100,⟨.func,1,8,[.f],false⟩),
 (101,⟨.func,1,8,[.f],false⟩),
 (102,⟨.int .u8,1,1,[.i .u8],false⟩),
 (103,⟨.slice 143,1,24,[.sl],false⟩),
 (104,⟨.struct [(102,0),(9,1),(9,2),(103,3),(39,4),(39,5),(3,6)],7,120,[.i .u8,.s,.s,.sl,.sl,.sl,.i .i64],true⟩),
 (105,⟨.struct [(102,0),(9,1),(9,2),(103,3),(39,4),(39,5),(3,6)],7,120,[.i .u8,.s,.s,.sl,.sl,.sl,.i .i64],true⟩),
 (107,⟨.func,1,8,[.f],false⟩),
 (108,⟨.func,1,8,[.f],false⟩),
 (109,⟨.func,1,8,[.f],false⟩),
 (110,⟨.func,1,8,[.f],false⟩),
 (112,⟨.func,1,8,[.f],false⟩),
 (113,⟨.func,1,8,[.f],false⟩),
 (114,⟨.slice 56,1,24,[.sl],false⟩),
 (115,⟨.func,1,8,[.f],false⟩),
 (116,⟨.func,1,8,[.f],false⟩),
 (117,⟨.map 3 4,1,8,[.m],false⟩),
 (118,⟨.func,1,8,[.f],false⟩),
 (119,⟨.func,1,8,[.f],false⟩),
 (120,⟨.func,1,8,[.f],false⟩),
 (122,⟨.func,1,8,[.f],false⟩),
 (123,⟨.slice 9,1,24,[.sl],false⟩),
 (125,⟨.func,1,8,[.f],false⟩),
 (126,⟨.slice 5,1,24,[.sl],false⟩),
 (127,⟨.func,1,8,[.f],false⟩),
 (128,⟨.func,1,8,[.f],false⟩),
 (129,⟨.func,1,8,[.f],false⟩),
 (130,⟨.func,1,8,[.f],false⟩),
 (131,⟨.func,1,8,[.f],false⟩),
 (132,⟨.func,1,8,[.f],false⟩),
 (134,⟨.func,1,8,[.f],false⟩),
 (135,⟨.func,1,8,[.f],false⟩),
 (136,⟨.array 8 135,8,64,[.f,.f,.f,.f,.f,.f,.f,.f],false⟩),
 (137,⟨.func,1,8,[.f],false⟩),
 (138,⟨.func,1,8,[.f],false⟩),
 (139,⟨.func,1,8,[.f],false⟩),
 (140,⟨.func,1,8,[.f],false⟩),
 (141,⟨.int .u8,1,1,[.i .u8],false⟩),
 (142,⟨.struct [(141,0),(71,1),(2,2),(9,3),(103,4),(3,5)],6,64,[.i .u8,.i .u8,.i .i64,.s,.sl,.i .i64],true⟩),
 (143,⟨.struct [(141,0),(71,1),(2,2),(9,3),(103,4),(3,5)],6,64,[.i .u8,.i .u8,.i .i64,.s,.sl,.i .i64],true⟩),
 (144,⟨.func,1,8,[.f],false⟩),
 (145,⟨.func,1,8,[.f],false⟩),
 (146,⟨.func,1,8,[.f],false⟩),
 (147,⟨.func,1,8,[.f],false⟩),
 (149,⟨.func,1,8,[.f],false⟩),
 (150,⟨.func,1,8,[.f],false⟩),
 (151,⟨.struct [(3,0),(3,1)],2,16,[.i .i64,.i .i64],true⟩),
 (152,⟨.struct [(3,0),(3,1)],2,16,[.i .i64,.i .i64],true⟩),
 (153,⟨.slice 152,1,24,[.sl],false⟩),
 (154,⟨.ptr 152,1,8,[.p],false⟩),
 (155,⟨.func,1,8,[.f],false⟩),
 (156,⟨.map 9 4,1,8,[.m],false⟩),
 (157,⟨.func,1,8,[.f],false⟩),
 (158,⟨.int .u8,1,1,[.i .u8],false⟩),
 (159,⟨.func,1,8,[.f],false⟩),
 (160,⟨.func,1,8,[.f],false⟩),
 (161,⟨.func,1,8,[.f],false⟩),
 (162,⟨.func,1,8,[.f],false⟩),
 (164,⟨.func,1,8,[.f],false⟩),
 (165,⟨.func,1,8,[.f],false⟩),
 (166,⟨.func,1,8,[.f],false⟩),
 (167,⟨.func,1,8,[.f],false⟩),
 (168,⟨.func,1,8,[.f],false⟩),
 (169,⟨.int .u64,1,8,[.i .u64],false⟩),
 (170,⟨.func,1,8,[.f],false⟩),
 (171,⟨.func,1,8,[.f],false⟩),
 (172,⟨.struct [(86,0)],2,16,[.i .i64,.i .i64],true⟩),
 (173,⟨.struct [(86,0)],2,16,[.i .i64,.i .i64],true⟩),
 (174,⟨.ptr 179,1,8,[.p],false⟩),
 (175,⟨.map 9 197,1,8,[.m],false⟩),
 (176,⟨.func,1,8,[.f],false⟩),
 (177,⟨.map 9 3,1,8,[.m],false⟩),
 (178,⟨.struct [(25,0),(175,3),(177,4)],5,88,[.sl,.sl,.sl,.m,.m],true⟩),
 (179,⟨.struct [(25,0),(175,3),(177,4)],5,88,[.sl,.sl,.sl,.m,.m],true⟩),
 (180,⟨.func,1,8,[.f],false⟩),
 (181,⟨.func,1,8,[.f],false⟩),
 (182,⟨.func,1,8,[.f],false⟩),
 (183,⟨.func,1,8,[.f],false⟩),
 (184,⟨.func,1,8,[.f],false⟩),
 (185,⟨.func,1,8,[.f],false⟩),
 (186,⟨.func,1,8,[.f],false⟩),
 (187,⟨.func,1,8,[.f],false⟩),
 (188,⟨.func,1,8,[.f],false⟩),
 (189,⟨.func,1,8,[.f],false⟩),
 (190,⟨.func,1,8,[.f],false⟩),
 (191,⟨.int .u64,1,8,[.i .u64],false⟩),
 (192,⟨.func,1,8,[.f],false⟩),
 (193,⟨.func,1,8,[.f],false⟩),
 (194,⟨.array 10 158,10,10,[.i .u8,.i .u8,.i .u8,.i .u8,.i .u8,.i .u8,.i .u8,.i .u8,.i .u8,.i .u8],false⟩),
 (195,⟨.func,1,8,[.f],false⟩),
 (196,⟨.func,1,8,[.f],false⟩),
 (197,⟨.int .i64,1,8,[.i .i64],false⟩),
 (198,⟨.func,1,8,[.f],false⟩),
 (199,⟨.slice 22,1,24,[.sl],false⟩),
 (200,⟨.func,1,8,[.f],false⟩),
 (201,⟨.func,1,8,[.f],false⟩),
 (202,⟨.func,1,8,[.f],false⟩),
 (203,⟨.func,1,8,[.f],false⟩),
 (204,⟨.func,1,8,[.f],false⟩),
 (205,⟨.array 24 5,24,24,[.i .u8,.i .u8,.i .u8,.i .u8,.i .u8,.i .u8,.i .u8,.i .u8,.i .u8,.i .u8,.i .u8,.i .u8,.i .u8,.i .u8,.i .u8,.i .u8,.i .u8,.i .u8,.i .u8,.i .u8,.i .u8,.i .u8,.i .u8,.i .u8],false⟩),
 (206,⟨.func,1,8,[.f],false⟩),
 (207,⟨.func,1,8,[.f],false⟩),
 (209,⟨.func,1,8,[.f],false⟩),
 (210,⟨.struct [(9,0),(3,1)],2,24,[.s,.i .i64],true⟩),
 (211,⟨.array 19 210,38,456,[.s,.i .i64,.s,.i .i64,.s,.i .i64,.s,.i .i64,.s,.i .i64,.s,.i .i64,.s,.i .i64,.s,.i .i64,.s,.i .i64,.s,.i .i64,.s,.i .i64,.s,.i .i64,.s,.i .i64,.s,.i .i64,.s,.i .i64,.s,.i .i64,.s,.i .i64,.s,.i .i64,.s,.i .i64],false⟩),
 (212,⟨.func,1,8,[.f],false⟩),
 (213,⟨.func,1,8,[.f],false⟩),
 (214,⟨.func,1,8,[.f],false⟩),
 (215,⟨.func,1,8,[.f],false⟩),
 (216,⟨.func,1,8,[.f],false⟩),
 (217,⟨.func,1,8,[.f],false⟩),
 (218,⟨.func,1,8,[.f],false⟩),
 (219,⟨.array 20 169,20,160,[.i .u64,.i .u64,.i .u64,.i .u64,.i .u64,.i .u64,.i .u64,.i .u64,.i .u64,.i .u64,.i .u64,.i .u64,.i .u64,.i .u64,.i .u64,.i .u64,.i .u64,.i .u64,.i .u64,.i .u64],false⟩),
 (220,⟨.int .u32,1,4,[.i .u32],false⟩),
 (221,⟨.array 65 5,65,65,[.i .u8,.i .u8,.i .u8,.i .u8,.i .u8,.i .u8,.i .u8,.i .u8,.i .u8,.i .u8,.i .u8,.i .u8,.i .u8,.i .u8,.i .u8,.i .u8,.i .u8,.i .u8,.i .u8,.i .u8,.i .u8,.i .u8,.i .u8,.i .u8,.i .u8,.i .u8,.i .u8,.i .u8,.i .u8,.i .u8,.i .u8,.i .u8,.i .u8,.i .u8,.i .u8,.i .u8,.i .u8,.i .u8,.i .u8,.i .u8,.i .u8,.i .u8,.i .u8,.i .u8,.i .u8,.i .u8,.i .u8,.i .u8,.i .u8,.i .u8,.i .u8,.i .u8,.i .u8,.i .u8,.i .u8,.i .u8,.i .u8,.i .u8,.i .u8,.i .u8,.i .u8,.i .u8,.i .u8,.i .u8,.i .u8],false⟩),
 (222,⟨.func,1,8,[.f],false⟩),
 (223,⟨.func,1,8,[.f],false⟩),
 (224,⟨.array 20 5,20,20,[.i .u8,.i .u8,.i .u8,.i .u8,.i .u8,.i .u8,.i .u8,.i .u8,.i .u8,.i .u8,.i .u8,.i .u8,.i .u8,.i .u8,.i .u8,.i .u8,.i .u8,.i .u8,.i .u8,.i .u8],false⟩),
 (225,⟨.func,1,8,[.f],false⟩),
 (226,⟨.func,1,8,[.f],false⟩),
 (227,⟨.func,1,8,[.f],false⟩),
 (228,⟨.func,1,8,[.f],false⟩),
 (229,⟨.func,1,8,[.f],false⟩),
 (230,⟨.func,1,8,[.f],false⟩),
 (231,⟨.func,1,8,[.f],false⟩),
 (232,⟨.struct [(4,0),(4,1),(4,2),(4,3),(4,4)],5,5,[.b,.b,.b,.b,.b],true⟩),
 (233,⟨.struct [(4,0),(4,1),(4,2),(4,3),(4,4)],5,5,[.b,.b,.b,.b,.b],true⟩),
 (235,⟨.func,1,8,[.f],false⟩),
 (236,⟨.func,1,8,[.f],false⟩),
 (237,⟨.array 32 5,32,32,[.i .u8,.i .u8,.i .u8,.i .u8,.i .u8,.i .u8,.i .u8,.i .u8,.i .u8,.i .u8,.i .u8,.i .u8,.i .u8,.i .u8,.i .u8,.i .u8,.i .u8,.i .u8,.i .u8,.i .u8,.i .u8,.i .u8,.i .u8,.i .u8,.i .u8,.i .u8,.i .u8,.i .u8,.i .u8,.i .u8,.i .u8,.i .u8],false⟩),
 (238,⟨.array 64 5,64,64,[.i .u8,.i .u8,.i .u8,.i .u8,.i .u8,.i .u8,.i .u8,.i .u8,.i .u8,.i .u8,.i .u8,.i .u8,.i .u8,.i .u8,.i .u8,.i .u8,.i .u8,.i .u8,.i .u8,.i .u8,.i .u8,.i .u8,.i .u8,.i .u8,.i .u8,.i .u8,.i .u8,.i .u8,.i .u8,.i .u8,.i .u8,.i .u8,.i .u8,.i .u8,.i .u8,.i .u8,.i .u8,.i .u8,.i .u8,.i .u8,.i .u8,.i .u8,.i .u8,.i .u8,.i .u8,.i .u8,.i .u8,.i .u8,.i .u8,.i .u8,.i .u8,.i .u8,.i .u8,.i .u8,.i .u8,.i .u8,.i .u8,.i .u8,.i .u8,.i .u8,.i .u8,.i .u8,.i .u8,.i .u8],false⟩),
 (241,⟨.array 0 16,0,0,[],false⟩),
 (246,⟨.func,1,8,[.f],false⟩),
 (247,⟨.ptr 5,1,8,[.p],false⟩)]
set_option maxRecDepth 100000 in
theorem hT:TOk Tryz.prog T:=TOk.of_all (by kernel_rfl)
end Go.Proofs.YthboippafkcoiaaGreatDoor.am
namespace Go.Proofs.YthboippafkcoiaaGreatDoor.am
open Go Go.Proofs
theorem hmix : Tryz.prog.follows .mixedOrders=true:=by kernel_rfl
abbrev K (f:Nat) (args:List AV) (bin:List Blk) (res:AE) (bout:List (Option Blk)):Prop:=Ctr Tryz.prog f args bin res bout
structure Ins where
 kind:Int
 op:Int
 d:Int
 a:Int
 b:Int
 addr:Int
 to_:Int
 word:Int
 from_:Int
 deriving DecidableEq
structure Cor where
 name:ByteArray
 code:List Ins
structure Ob where
 memory:List Int
 shared:Int
 locks:Int
 buffer:Int
 cores:List Cor
def Ins.cells (i:Ins):List Tr:=[tu i.kind,tu i.op,ti i.d,ti i.a,ti i.b,ti i.addr,ti i.to_,ti i.word,ti i.from_]
def Ins.av (i:Ins):AV := .agg (i.cells.map .tr)
abbrev codeT (l:List Ins):Tr := .lst 9 64 (l.map Ins.cells)
def Cor.cells (c:Cor):List Tr:=[ts c.name,codeT c.code]
def Cor.av (c:Cor):AV := .agg (c.cells.map .tr)
abbrev coresT (l:List Cor):Tr := .lst 2 40 (l.map Cor.cells)
def irow (x:Int):List Tr:=[ti x]
abbrev intsT (l:List Int):Tr := .lst 1 8 (l.map irow)
def Ob.cells (o:Ob):List Tr:=[intsT o.memory,ti o.shared,ti o.locks,ti o.buffer,coresT o.cores]
def Ob.av (o:Ob):AV := .agg (o.cells.map .tr)
def knownB (op:Int):Bool:=decide (op > 0) && decide (op<19)
def two2 (op:Int):Bool:=knownB op && op != 17 && op != 18
theorem two2_eq (op:Int):two2 op=two op:=by
 unfold two2 two knownB
 rw [Bool.eq_iff_iff]
 simp
 omega
theorem k_known (op:Int):K 170 [.tr (tu op)] [] (.ret (.tr (tb (knownB op)))) []:=by
 refine Ctr.of hT hmix Tryz.func170 rfl (fun _ _=>by kernel_rfl) rfl fun hok => ?_
 conv=>whnf
 (repeat' (refine csplit (fun _ => ?_) (fun _ => ?_) <;> conv=>whnf)) <;> exact ⟨Or.inl (congrArg tb (by simp only [knownB, *] <;> rfl)),trivial⟩
theorem k_two (op:Int):K 152 [.tr (tu op)] [] (.ret (.tr (tb (two op)))) []:=by
 refine Ctr.of hT hmix Tryz.func152 rfl (fun _ _=>by kernel_rfl) rfl fun hok => ?_
 conv=>whnf
 refine acall.pure _ (k_known op) rfl rfl fun _ => ?_
 conv=>whnf
 (repeat' (refine csplit (fun _ => ?_) (fun _ => ?_) <;> conv=>whnf)) <;> exact ⟨Or.inl (congrArg tb (by rw [← two2_eq]; simp only [two2, *] <;> rfl)),trivial⟩
end Go.Proofs.YthboippafkcoiaaGreatDoor.am
namespace Go.Proofs.YthboippafkcoiaaGreatDoor.am
open Go Go.Proofs
theorem findI_at {l:List Decl} {s:ByteArray} {i:Nat} {d:Decl} (h:l[i]? = some d):findI (l.drop i) s i=if seq d.name s then (i:Int) else findI (l.drop (i+1)) s (i+1):=by
 rw [drop_cons h]; rfl
end Go.Proofs.YthboippafkcoiaaGreatDoor.am
namespace Go.Proofs.YthboippafkcoiaaGreatDoor.am
open Go Go.Proofs
end Go.Proofs.YthboippafkcoiaaGreatDoor.am
namespace Go.Proofs.YthboippafkcoiaaGreatDoor.am
open Go Go.Proofs
theorem size_kid {l:List Expr} {i:Nat} {d:Expr} (h:l[i]? = some d):SizeOf.sizeOf d<SizeOf.sizeOf l:=List.sizeOf_lt_of_mem (List.mem_of_getElem? h)
theorem size_kid2 {l:List Stmt} {i:Nat} {d:Stmt} (h:l[i]? = some d):SizeOf.sizeOf d<SizeOf.sizeOf l:=List.sizeOf_lt_of_mem (List.mem_of_getElem? h)
end Go.Proofs.YthboippafkcoiaaGreatDoor.am
namespace Go.Proofs.YthboippafkcoiaaGreatDoor.am
open Go Go.Proofs
end Go.Proofs.YthboippafkcoiaaGreatDoor.am
namespace Go.Proofs.YthboippafkcoiaaGreatDoor.am
open Go Go.Proofs
theorem k69 (c:Int):K 149 [.tr (tu c)] [] (.ret (.tr (tb (digB c)))) []:=by
 refine Ctr.of hT hmix Tryz.func149 rfl (fun _ _=>by kernel_rfl) rfl fun hok => ?_
 conv=>whnf
 (repeat' (refine csplit (fun _ => ?_) (fun _ => ?_) <;> conv=>whnf)) <;> refine ⟨Or.inl (congrArg tb ?_),trivial⟩ <;> (simp only [digB, *] <;> rfl)
theorem k71 (c:Int):K 151 [.tr (tu c)] [] (.ret (.tr (tb (letB c)))) []:=by
 refine Ctr.of hT hmix Tryz.func151 rfl (fun _ _=>by kernel_rfl) rfl fun hok => ?_
 conv=>whnf
 (repeat' (refine csplit (fun _ => ?_) (fun _ => ?_) <;> conv=>whnf)) <;> refine ⟨Or.inl (congrArg tb ?_),trivial⟩ <;> (simp only [letB, *] <;> rfl)
theorem k70 (s:ByteArray):K 150 [.tr (ts s)] [] (.ret (.tr (tb (wordB s)))) []:=by
 refine Ctr.of hT hmix Tryz.func150 rfl (fun _ _=>by kernel_rfl) rfl fun hok => ?_
 conv=>whnf
 (repeat' (refine csplit (fun _ => ?_) (fun _ => ?_) <;> conv=>whnf)) <;> refine ⟨Or.inl (congrArg tb ?_),trivial⟩ <;> first | (simp only [wordB,seq, *] <;> rfl) | simp_all
theorem k41 (s:ByteArray):K 108 [.tr (ts s)] [] (.ret (.tr (tb (nameB s)))) []:=by
 refine Ctr.of hT hmix Tryz.func108 rfl (fun _ _=>by kernel_rfl) rfl fun hok => ?_
 have hsz:=(hok.slot 0 rfl).tr.str
 clear hok
 conv=>whnf
 refine csplit (fun h1 => ?_) (fun h1 => ?_)
 ·have h1:=(noS_size s).symm.trans h1
  conv=>whnf
  exact ⟨Or.inl (congrArg tb (by simp only [nameB,h1] <;> rfl)),trivial⟩
 have h1:=(noS_size s).symm.trans h1
 conv=>whnf
 refine csplit (fun h2 => ?_) (fun h2 => ?_)
 ·conv=>whnf
  exact ⟨Or.inl (congrArg tb (by simp only [nameB,h1,h2] <;> rfl)),trivial⟩
 have hs0:0<s.size:=by have:=of_decide_eq_false h1; omega
 conv=>whnf
 refine ⟨by omega,by omega,fun b hb => ?_⟩
 have hc0:chI s 0=b.toNat:=by unfold chI; rw [show s[0]? = some b from hb]
 conv=>whnf
 refine acall.pure _ (k69 b.toNat) rfl rfl fun _ => ?_
 conv=>whnf
 refine csplit (fun h3 => ?_) (fun h3 => ?_)
 ·conv=>whnf
  exact ⟨Or.inl (congrArg tb (by rw [← hc0] at h3; simp only [nameB,h1,h2,h3] <;> rfl)),trivial⟩
 rw [← hc0] at h3
 conv=>whnf
 refine acall.pure _ (k70 s) rfl rfl fun _ => ?_
 conv=>whnf
 refine csplit (fun h4 => ?_) (fun h4 => ?_)
 ·conv=>whnf
  exact ⟨Or.inl (congrArg tb (by simp only [nameB,h1,h2,h3,h4] <;> rfl)),trivial⟩
 conv=>whnf
 have hE:nameB s=charsB s s.size:=by simp only [nameB,h1,h2,h3,h4] <;> rfl
 refine LoopL.by (fun i:Nat=>⟨[(0,.tr (ts s)),(21,.tr (ti s.size)),(22,.tr (ti i))],[],38⟩)
  (fun i=>i≤s.size∧nameB s=charsB s (s.size - i)) (fun i=>s.size - i) 0 [] [] (Sub.mk' rfl aut trivial rfl rfl) ⟨Nat.zero_le _,hE⟩ ?_
 rintro i ⟨hi,hf⟩ -
 conv=>whnf
 refine csplit (fun hlt => ?_) (fun hge => ?_)
 ·have hlt:i<s.size:=by simpa using hlt
  conv=>whnf
  refine ⟨by omega,by omega,fun b hb => ?_⟩
  rw [charsB_at (show s[i]? = some b from hb) hlt] at hf
  conv=>whnf
  refine acall.pure _ (k71 b.toNat) rfl rfl fun _ => ?_
  conv=>whnf
  refine csplit (fun h5 => ?_) (fun h5 => ?_)
  ·conv=>whnf
   refine ⟨by omega,by omega,fun b' hb' => ?_⟩
   have hbb:b'=b:=Option.some.inj ((show s[i]? = some b' from hb').symm.trans hb)
   subst hbb
   conv=>whnf
   refine acall.pure _ (k69 b'.toNat) rfl rfl fun _ => ?_
   conv=>whnf
   refine csplit (fun h6 => ?_) (fun h6 => ?_)
   ·rw [h5,h6] at hf
    conv=>whnf
    exact ⟨Or.inl (congrArg tb hf.symm),trivial⟩
   ·rw [h5,h6] at hf
    conv=>whnf
    exact ⟨i+1,[],[],Sub.mk' rfl ⟨.inl rfl,.inl rfl,.inl (ti_succ hlt hsz),trivial⟩ trivial rfl rfl,⟨by omega,hf⟩,by omega⟩
  ·rw [h5] at hf
   conv=>whnf
   exact ⟨i+1,[],[],Sub.mk' rfl ⟨.inl rfl,.inl rfl,.inl (ti_succ hlt hsz),trivial⟩ trivial rfl rfl,⟨by omega,hf⟩,by omega⟩
 ·have hge:s.size≤i:=by simpa using hge
  rw [show s.size - i=0 by omega] at hf
  conv=>whnf
  refine ⟨fun _ => ?_,fun h=>absurd rfl h⟩
  conv=>whnf
  exact ⟨Or.inl (congrArg tb hf.symm),trivial⟩
end Go.Proofs.YthboippafkcoiaaGreatDoor.am
namespace Go.Proofs.YthboippafkcoiaaGreatDoor.am
open Go Go.Proofs
end Go.Proofs.YthboippafkcoiaaGreatDoor.am
namespace Go.Proofs.YthboippafkcoiaaGreatDoor.am
open Go Go.Proofs
def whenI (rule:Int) (is:Bool):Int:=bif is then rule else 0
theorem k57 (rule:Int) (is:Bool):K 128 [.tr (ti rule),.tr (tb is)] [] (.ret (.tr (ti (whenI rule is)))) []:=by
 refine Ctr.of hT hmix Tryz.func128 rfl (fun _ _=>by kernel_rfl) rfl fun hok => ?_
 conv=>whnf
 (repeat' (refine csplit (fun _ => ?_) (fun _ => ?_) <;> conv=>whnf)) <;> exact ⟨Or.inl (congrArg ti (by simp only [whenI, *] <;> rfl)),trivial⟩
theorem k108 (op:Int):K 170 [.tr (tu op)] [] (.ret (.tr (tb (knownB op)))) []:=by
 refine Ctr.of hT hmix Tryz.func170 rfl (fun _ _=>by kernel_rfl) rfl fun hok => ?_
 conv=>whnf
 (repeat' (refine csplit (fun _ => ?_) (fun _ => ?_) <;> conv=>whnf)) <;> exact ⟨Or.inl (congrArg tb (by simp only [knownB, *] <;> rfl)),trivial⟩
theorem k106 (op:Int):K 152 [.tr (tu op)] [] (.ret (.tr (tb (two op)))) []:=by
 refine Ctr.of hT hmix Tryz.func152 rfl (fun _ _=>by kernel_rfl) rfl fun hok => ?_
 conv=>whnf
 refine acall.pure _ (k108 op) rfl rfl fun _ => ?_
 conv=>whnf
 (repeat' (refine csplit (fun _ => ?_) (fun _ => ?_) <;> conv=>whnf)) <;> exact ⟨Or.inl (congrArg tb (by rw [← two2_eq]; simp only [two2, *] <;> rfl)),trivial⟩
theorem k104 (e:Expr):K 198 [e.av] [] (.ret (.tr (tb (partsB e)))) []:=by
 refine Ctr.of hT hmix Tryz.func198 rfl (fun _ _=>by kernel_rfl) rfl fun hok => ?_
 clear hok
 obtain ⟨kind,op,word,name,kids,at_⟩:=e
 conv=>whnf
 (repeat' (first | (refine csplit (fun _ => ?_) (fun _ => ?_) <;> conv=>whnf) | (refine acall.pure _ (k106 op) rfl rfl fun _ => ?_; conv=>whnf))) <;>
  exact ⟨Or.inl (congrArg tb (by simp only [partsB,noS,seq, *,Bool.and_false,Bool.false_and,Bool.true_and,Bool.and_true,cond_true,cond_false,Bool.or_true,Bool.true_or,Bool.or_false,Bool.false_or] <;> rfl)),trivial⟩
def usesB (k:Int):Bool × Bool × Bool × Bool × Bool × Bool :=
 bif k == 1 then (true,false,true,false,false,true)
 else bif k == 2 then (true,true,true,false,false,true)
 else bif k == 3 then (false,false,true,true,true,true)
 else bif k == 4 then (false,false,true,true,false,true)
 else bif k == 5 then (true,false,false,true,false,true)
 else bif k == 6 then (false,false,true,false,false,true)
 else bif k == 7 then (false,false,false,false,false,true)
 else (false,false,false,false,false,false)
theorem k103 (k:Int):K 197 [.tr (tu k)] [] (.ret (.tup [.agg [.tr (tb (usesB k).1),.tr (tb (usesB k).2.1),.tr (tb (usesB k).2.2.1),.tr (tb (usesB k).2.2.2.1),.tr (tb (usesB k).2.2.2.2.1)],.tr (tb (usesB k).2.2.2.2.2)])) []:=by
 refine Ctr.of hT hmix Tryz.func197 rfl (fun _ _=>by kernel_rfl) rfl fun hok => ?_
 clear hok
 conv=>whnf
 (repeat' (first | (refine csplit (fun _ => ?_) (fun _ => ?_) <;> conv=>whnf) | (refine ⟨by kernel_rfl,fun _ => ?_⟩; conv=>whnf))) <;> first
  | exact ⟨⟨⟨Or.inl (congrArg tb (by simp only [usesB, *] <;> rfl)),Or.inl (congrArg tb (by simp only [usesB, *] <;> rfl)),Or.inl (congrArg tb (by simp only [usesB, *] <;> rfl)),Or.inl (congrArg tb (by simp only [usesB, *] <;> rfl)),Or.inl (congrArg tb (by simp only [usesB, *] <;> rfl)),trivial⟩,
   Or.inl (congrArg tb (by simp only [usesB, *] <;> rfl)),trivial⟩,trivial⟩
  | simp_all
def shapeB:Stmt→Bool
 | .mk kind name other e body els _=>(usesB kind).2.2.2.2.2 && ((Expr.rows e).length:Int) == (bif (usesB kind).2.2.1 then 1 else 0) && ((usesB kind).1 || noS name) && ((usesB kind).2.1 || noS other)
  && ((usesB kind).2.2.2.1 || ((Stmt.rows body).length:Int) == 0) && ((usesB kind).2.2.2.2.1 || ((Stmt.rows els).length:Int) == 0)
theorem uses_cases (k:Int):usesB k=(true,false,true,false,false,true)∧(k == 1)=true∨usesB k=(true,true,true,false,false,true)∧(k == 1)=false∧(k == 2)=true
  ∨ usesB k=(false,false,true,true,true,true)∧(k == 1)=false∧(k == 2)=false∧(k == 3)=true∨usesB k=(false,false,true,true,false,true)∧(k == 1)=false∧(k == 2)=false∧(k == 3)=false∧(k == 4)=true
  ∨ usesB k=(true,false,false,true,false,true)∧(k == 1)=false∧(k == 2)=false∧(k == 3)=false∧(k == 4)=false∧(k == 5)=true
  ∨ usesB k=(false,false,true,false,false,true)∧(k == 1)=false∧(k == 2)=false∧(k == 3)=false∧(k == 4)=false∧(k == 5)=false∧(k == 6)=true
  ∨ usesB k=(false,false,false,false,false,true)∧(k == 1)=false∧(k == 2)=false∧(k == 3)=false∧(k == 4)=false∧(k == 5)=false∧(k == 6)=false∧(k == 7)=true
  ∨ usesB k=(false,false,false,false,false,false)∧(k == 1)=false∧(k == 2)=false∧(k == 3)=false∧(k == 4)=false∧(k == 5)=false∧(k == 6)=false∧(k == 7)=false:=by
 unfold usesB
 cases h1:(k == 1) <;> cases h2:(k == 2) <;> cases h3:(k == 3) <;> cases h4:(k == 4) <;> cases h5:(k == 5) <;> cases h6:(k == 6) <;> cases h7:(k == 7) <;> simp
theorem pos_len (n:Nat):(!decide ((n:Int) > 0))=((n:Int) == 0):=by
 cases n with
 | zero=>rfl
 | succ n=>rw [Bool.eq_iff_iff]; simp; omega
theorem shape_eq (s:Stmt):shapeB s=fieldsB s:=by
 obtain ⟨kind,name,other,e,body,els,at_⟩:=s
 unfold shapeB fieldsB
 simp only [pos_len]
 rcases uses_cases kind with ⟨h,h1⟩ | ⟨h,h1,h2⟩ | ⟨h,h1,h2,h3⟩ | ⟨h,h1,h2,h3,h4⟩ | ⟨h,h1,h2,h3,h4,h5⟩ | ⟨h,h1,h2,h3,h4,h5,h6⟩ | ⟨h,h1,h2,h3,h4,h5,h6,h7⟩ | ⟨h,h1,h2,h3,h4,h5,h6,h7⟩ <;>
  simp only [*,cond_true,cond_false,Bool.true_and,Bool.and_true,Bool.true_or,Bool.false_or,Bool.false_and] <;>
  cases noS name <;> cases noS other <;> cases ((Expr.rows e).length:Int) == 0 <;> cases ((Expr.rows e).length:Int) == 1 <;> cases ((Stmt.rows body).length:Int) == 0 <;> cases ((Stmt.rows els).length:Int) == 0 <;> rfl
set_option maxRecDepth 100000 in
set_option maxHeartbeats 4000000 in
theorem k94 (s:Stmt):K 186 [s.av] [] (.ret (.tr (tb (fieldsB s)))) []:=by
 rw [← shape_eq]
 refine Ctr.of hT hmix Tryz.func186 rfl (fun _ _=>by kernel_rfl) rfl fun hok => ?_
 clear hok
 obtain ⟨kind,name,other,e,body,els,at_⟩:=s
 have hu:=k103 kind
 rcases uses_cases kind with ⟨h,h1⟩ | ⟨h,h1⟩ | ⟨h,h1⟩ | ⟨h,h1⟩ | ⟨h,h1⟩ | ⟨h,h1⟩ | ⟨h,h1⟩ | ⟨h,h1⟩ <;> clear h1 <;> rw [h] at hu <;> conv=>whnf
 all_goals
  refine acall.pure _ hu rfl rfl fun _ => ?_
  clear hu
  conv=>whnf
  (repeat' (refine csplit (fun _ => ?_) (fun _ => ?_) <;> conv=>whnf)) <;> exact ⟨Or.inl (congrArg tb (by simp only [shapeB,noS,seq, *,cond_true,cond_false,Bool.true_and,Bool.and_true,Bool.true_or,Bool.false_or,Bool.false_and,Bool.and_false] <;> rfl)),trivial⟩
end Go.Proofs.YthboippafkcoiaaGreatDoor.am
namespace Go.Proofs.YthboippafkcoiaaGreatDoor.am
open Go Go.Proofs
abbrev MI:=List (MK × Int)
def mapT (M:MI):List (MK × Tr):=M.map fun p=>(p.1,ti p.2)
def mgetI (M:MI) (q:MK):Int:=match M with
 | []=>0
 | (k,v)::r=>bif MK.same q k then v else mgetI r q
theorem mget_T : ∀ (M:MI) (q:MK),(mget (mapT M) q).getD (ti 0)=ti (mgetI M q)
 | [],q=>rfl
 | (k,v)::r,q=>by
   show (bif MK.same q k then some (ti v) else mget (mapT r) q).getD (ti 0)=ti (bif MK.same q k then v else mgetI r q)
   cases MK.same q k with
   | true=>rfl
   | false=>exact mget_T r q
theorem mgetZ (M:MI) (q:MK):(mget (mapT M) q).getD (Tr.v (Z.val (.i .i64)))=ti (mgetI M q):=mget_T M q
abbrev walkB (p:Prg):Blk := .cells 179 [.tr (declsT p.shared),.tr (declsT p.locks),.tr (threadsT p.threads),.mp 1,.mp 2]
abbrev wbin (p:Prg) (top locals:MI):List Blk:=[walkB p,.map .string (mapT top),.map .string (mapT locals)]
abbrev wbout (p:Prg) (top locals:MI):List (Option Blk):=(wbin p top locals).map some
def variableW (top locals:MI) (name:ByteArray) (alone:Bool):Int :=
 bif decide (mgetI locals (.ks name) > 0) then whenI 6 alone
 else bif mgetI top (.ks name) == 0 then 5
 else whenI 6 (mgetI top (.ks name) != 1)
theorem k95 (p:Prg) (top locals:MI) (name:ByteArray) (alone:Bool):K 187 [.ptr 0 0,.tr (ts name),.tr (tb alone)] (wbin p top locals) (.ret (.tr (ti (variableW top locals name alone)))) (wbout p top locals):=by
 refine Ctr.of hT hmix Tryz.func187 rfl (fun _ _=>by kernel_rfl) rfl fun hok => ?_
 clear hok
 conv=>whnf
 rw [mgetZ]
 conv=>whnf
 refine csplit (fun h1 => ?_) (fun h1 => ?_)
 ·conv=>whnf
  refine acall.pure _ (k57 6 alone) rfl rfl fun _ => ?_
  conv=>whnf
  exact ⟨Or.inl (congrArg ti (by simp only [variableW,h1] <;> rfl)),aut,⟨rfl,rfl⟩,⟨rfl,rfl⟩,trivial⟩
 conv=>whnf
 rw [mgetZ]
 conv=>whnf
 refine csplit (fun h2 => ?_) (fun h2 => ?_)
 ·conv=>whnf
  exact ⟨Or.inl (congrArg ti (by simp only [variableW,h1,h2] <;> rfl)),aut,⟨rfl,rfl⟩,⟨rfl,rfl⟩,trivial⟩
 conv=>whnf
 rw [mgetZ]
 conv=>whnf
 refine acall.pure _ (k57 6 (mgetI top (.ks name) != 1)) rfl rfl fun _ => ?_
 conv=>whnf
 exact ⟨Or.inl (congrArg ti (by simp only [variableW,h1,h2] <;> rfl)),aut,⟨rfl,rfl⟩,⟨rfl,rfl⟩,trivial⟩
def guardW (top locals:MI) (name:ByteArray):Int :=
 bif mgetI top (.ks name) == 0 && mgetI locals (.ks name) == 0 then 5
 else whenI 6 (decide (mgetI locals (.ks name) > 0) || mgetI top (.ks name) != 2)
theorem k96 (p:Prg) (top locals:MI) (name:ByteArray):K 188 [.ptr 0 0,.tr (ts name)] (wbin p top locals) (.ret (.tr (ti (guardW top locals name)))) (wbout p top locals):=by
 refine Ctr.cut [3] hT hmix Tryz.func188 rfl (fun _ _=>by kernel_rfl) rfl fun hok => ?_
 clear hok
 conv=>whnf
 refine CutL.by (fun _:Unit=>⟨[(0,.ptr 0 0),(1,.tr (ts name))],[(0,walkB p),(1,.map .string (mapT top)),(2,.map .string (mapT locals))],3⟩) (fun _=>(mgetI top (.ks name) == 0 && mgetI locals (.ks name) == 0)=false) ?_ ?_
 ·conv=>whnf
  rw [mgetZ]
  conv=>whnf
  refine csplit (fun h1 => ?_) (fun h1 => ?_)
  ·conv=>whnf
   rw [mgetZ]
   conv=>whnf
   refine csplit (fun h2 => ?_) (fun h2 => ?_)
   ·conv=>whnf
    exact ⟨Or.inl (congrArg ti (by simp only [guardW, *] <;> rfl)),aut,⟨rfl,rfl⟩,⟨rfl,rfl⟩,trivial⟩
   ·conv=>whnf
    exact ⟨(),[0,1,2],[],Sub.mk' rfl aut aut rfl rfl,by simp only [*] <;> rfl⟩
  ·conv=>whnf
   exact ⟨(),[0,1,2],[],Sub.mk' rfl aut aut rfl rfl,by simp only [*] <;> rfl⟩
 rintro _ h1 -
 conv=>whnf
 rw [mgetZ]
 conv=>whnf
 refine csplit (fun h2 => ?_) (fun h2 => ?_)
 ·conv=>whnf
  refine acall.pure _ (k57 6 true) rfl rfl fun _ => ?_
  conv=>whnf
  exact ⟨Or.inl (congrArg ti (by simp only [guardW, *] <;> rfl)),aut,⟨rfl,rfl⟩,⟨rfl,rfl⟩,trivial⟩
 conv=>whnf
 rw [mgetZ]
 conv=>whnf
 refine acall.pure _ (k57 6 (mgetI top (.ks name) != 2)) rfl rfl fun _ => ?_
 conv=>whnf
 exact ⟨Or.inl (congrArg ti (by simp only [guardW, *] <;> rfl)),aut,⟨rfl,rfl⟩,⟨rfl,rfl⟩,trivial⟩
end Go.Proofs.YthboippafkcoiaaGreatDoor.am
namespace Go.Proofs.YthboippafkcoiaaGreatDoor.am
open Go Go.Proofs
def leastW:List Int→Int→Int
 | [],a=>a
 | r::l,a=>leastW l (bif decide (r > 0) && ((a == 0) || decide (r<a)) then r else a)
theorem leastW_at {l:List Int} {i:Nat} {r a:Int} (h:l[i]? = some r):leastW (l.drop i) a=leastW (l.drop (i+1)) (bif decide (r > 0) && ((a == 0) || decide (r<a)) then r else a):=by
 rw [drop_cons h]; rfl
abbrev brk (at_ rule:Int):AV := .ifc 173 (.agg [.tr (ti at_),.tr (ti rule)])
def brkR (b:Bool) (at_ rule:Int):AE:=bif b then .pan (brk at_ rule) else .ret (.tup [])
theorem k56 (at_:Int) (rules:List Int) (b:Bool) (hb:decide (leastW rules 0 > 0)=b):K 127 [.tr (ti at_),.tr (intsT rules)] [] (brkR b at_ (leastW rules 0)) []:=by
 refine Ctr.cut [] hT hmix Tryz.func127 rfl (fun _ _=>by kernel_rfl) rfl fun hok => ?_
 obtain ⟨_,hl,_⟩:=(hok.slot 1 rfl).tr.lst
 rw [List.length_map] at hl
 clear hok
 conv=>whnf
 refine LoopL.by (fun x:Nat × Int=>⟨[(0,.tr (ti at_)),(4,.tr (ti x.2)),(7,.tr (intsT rules)),(8,.tr (ti (rules.map fun r=>[ti r]).length)),(9,.tr (ti x.1))],[],33⟩)
  (fun x=>x.1≤rules.length∧leastW rules 0=leastW (rules.drop x.1) x.2) (fun x=>rules.length - x.1) (0,0) [] []
  (Sub.mk' rfl aut trivial rfl rfl) ⟨Nat.zero_le _,rfl⟩ ?_
 rintro ⟨i,a⟩ ⟨hi,hf⟩ -
 have hi:i≤rules.length:=hi
 have hf:leastW rules 0=leastW (rules.drop i) a:=hf
 conv=>whnf
 refine csplit (fun hlt => ?_) (fun hge => ?_)
 ·have hlt:i<rules.length:=by rw [List.length_map] at hlt; simpa using hlt
  conv=>whnf
  refine ⟨rfl,by omega,by rw [List.length_map]; omega,fun row hrow => ?_⟩
  obtain ⟨r,hd,rfl⟩:=map_get hrow
  replace hd:rules[i]? = some r:=hd
  rw [leastW_at hd] at hf
  clear hrow
  conv=>whnf
  (repeat' (refine csplit (fun _ => ?_) (fun _ => ?_) <;> conv=>whnf)) <;>
   exact ⟨(i+1,_),[],[],Sub.mk' rfl ⟨.inl rfl,.inl rfl,.inl rfl,.inl rfl,.inl (ti_succ hlt hl),trivial⟩ trivial rfl rfl,⟨hlt,by rw [hf]; clear hf hb; simp only [*] <;> rfl⟩,by show rules.length - (i+1)<rules.length - i; omega⟩
 ·have hge:rules.length≤i:=by rw [List.length_map] at hge; simpa using hge
  rw [List.drop_eq_nil_of_le hge] at hf
  have hf:leastW rules 0=a:=hf
  conv=>whnf
  refine ⟨fun _ => ?_,fun h=>absurd rfl h⟩
  conv=>whnf
  rw [hf] at hb ⊢
  refine csplit (fun h => ?_) (fun h => ?_)
  ·have:b=true:=hb.symm.trans h
   subst this
   conv=>whnf
   exact ⟨⟨rfl,⟨Or.inl rfl,Or.inl rfl,trivial⟩⟩,trivial⟩
  ·have:b=false:=hb.symm.trans h
   subst this
   conv=>whnf
   exact ⟨trivial,trivial⟩
end Go.Proofs.YthboippafkcoiaaGreatDoor.am
namespace Go.Proofs.YthboippafkcoiaaGreatDoor.am
open Go Go.Proofs
def exprRules (top locals:MI) (kind op word:Int) (name:ByteArray) (kids:List Expr) (at_ deep:Int):List Int :=
 [whenI 4 (!partsB (.mk kind op word name kids at_)),(bif kind == 2 then variableW top locals name false else 0),whenI 7 (decide (deep > 64))]
mutual
def exprW (top locals:MI):Expr→Int→Option Flt
 | .mk kind op word name kids at_,deep=>bif decide (leastW (exprRules top locals kind op word name kids at_ deep) 0 > 0) then some ⟨at_,leastW (exprRules top locals kind op word name kids at_ deep) 0⟩
  else exprsW top locals kids (deep+1)
def exprsW (top locals:MI):List Expr→Int→Option Flt
 | [],_=>none
 | e::l,deep=>match exprW top locals e deep with
  | some f=>some f
  | none=>exprsW top locals l deep
end
theorem exprsW_at {top locals:MI} {l:List Expr} {i:Nat} {d:Expr} {dp:Int} (h:l[i]? = some d):exprsW top locals (l.drop i) dp=match exprW top locals d dp with | some f=>some f | none=>exprsW top locals (l.drop (i+1)) dp:=by
 rw [drop_cons h]; rfl
def resW:Option Flt→AE
 | some f => .pan (brk f.at_ f.rule)
 | none => .ret (.tup [])
theorem wrap_deep {deep:Int} {l:List Int} (h1 : -9223372036854775808≤deep) (h:decide (leastW (l++[whenI 7 (decide (deep > 64))]) 0 > 0)=false):deep≤64:=by
 have key : ∀ (l:List Int) (a:Int),0≤a→decide (leastW (l++[whenI 7 (decide (deep > 64))]) a > 0)=false→deep≤64:=by
  intro l
  induction l with
  | nil =>
   intro a ha h
   have h:=of_decide_eq_false h
   cases hq:decide (deep > 64) with
   | false=>have:=of_decide_eq_false hq; omega
   | true =>
    exfalso
    apply h
    show leastW [] (bif decide (whenI 7 (decide (deep > 64)) > 0) && ((a == 0) || decide (whenI 7 (decide (deep > 64))<a)) then whenI 7 (decide (deep > 64)) else a) > 0
    rw [hq]
    show (bif true && ((a == 0) || decide ((7:Int)<a)) then (7:Int) else a) > 0
    rw [Bool.true_and]
    cases hc:(a == 0) || decide ((7:Int)<a) with
    | true=>show (7:Int) > 0; omega
    | false =>
     show a > 0
     simp only [Bool.or_eq_false_iff] at hc
     have:a≠0:=by simpa using hc.1
     omega
  | cons r l ih =>
   intro a ha h
   refine ih (bif decide (r > 0) && ((a == 0) || decide (r<a)) then r else a) ?_ h
   cases hr:decide (r > 0) with
   | false=>exact ha
   | true =>
    have:=of_decide_eq_true hr
    rw [Bool.true_and]
    cases ((a == 0) || decide (r<a)) with
    | true=>show (0:Int)≤r; omega
    | false=>exact ha
 exact key l 0 (Int.le_refl 0) h
theorem k97 (p:Prg) (top locals:MI) : ∀ (n:Nat) (e:Expr) (deep:Int),SizeOf.sizeOf e<n→K 189 [.ptr 0 0,e.av,.tr (ti deep)] (wbin p top locals) (resW (exprW top locals e deep)) (wbout p top locals):=by
 intro n
 induction n with
 | zero=>intro e deep h; omega
 | succ n ih =>
 intro e deep hsz
 refine Ctr.cut [4] hT hmix Tryz.func189 rfl (fun _ _=>by kernel_rfl) rfl fun hok => ?_
 obtain ⟨kind,op,word,name,kids,at_⟩:=e
 have hdeep:=(hok.slot 2 rfl).tr.i64
 have hkl:=((hok.slot 1 rfl).agg _ (.tail _ (.tail _ (.tail _ (.tail _ (.head _)))))).tr.lst.2.1
 rw [erows_len] at hkl
 simp only [Expr.mk.sizeOf_spec] at hsz
 clear hok
 conv=>whnf
 refine CutL.by (fun r:Int=>⟨[(0,.ptr 0 0),(2,.tr (ti deep)),(4,.ptr 3 0),(6,.tr (ti r))],[(0,walkB p),(1,.map .string (mapT top)),(2,.map .string (mapT locals)),(3,.cells 143 ((Expr.mk kind op word name kids at_).cells.map .tr))],4⟩)
  (fun r=>r=bif kind == 2 then variableW top locals name false else 0) ?_ ?_
 ·conv=>whnf
  refine csplit (fun h2 => ?_) (fun h2 => ?_)
  ·conv=>whnf
   refine acall.gen [0,1,2] [] [.ptr 0 0,.tr (ts name),.tr (tb false)] (wbin p top locals) _ (wbout p top locals) (k95 p top locals name false) rfl rfl rfl rfl aut aut rfl rfl fun _ => ?_
   conv=>whnf
   exact ⟨_,[0,1,2,3],[],Sub.mk' rfl aut aut rfl rfl,by rw [h2]; rfl⟩
  ·conv=>whnf
   exact ⟨_,[0,1,2,3],[],Sub.mk' rfl aut aut rfl rfl,by rw [h2]; rfl⟩
 rintro r hr -
 have hL:exprRules top locals kind op word name kids at_ deep=[whenI 4 (!partsB (.mk kind op word name kids at_)),r,whenI 7 (decide (deep > 64))]:=by unfold exprRules; rw [hr]
 conv=>whnf
 refine acall.pure _ (k104 (.mk kind op word name kids at_)) rfl rfl ?_
 conv=>whnf
 refine acall.pure _ (k57 4 (!partsB (.mk kind op word name kids at_))) rfl rfl ?_
 conv=>whnf
 refine acall.pure _ (k57 7 (decide (deep > 64))) rfl rfl ?_
 conv=>whnf
 cases hb:decide (leastW [whenI 4 (!partsB (.mk kind op word name kids at_)),r,whenI 7 (decide (deep > 64))] 0 > 0) with
 | true =>
  have hE:exprW top locals (.mk kind op word name kids at_) deep=some ⟨at_,leastW [whenI 4 (!partsB (.mk kind op word name kids at_)),r,whenI 7 (decide (deep > 64))] 0⟩:=by unfold exprW; rw [hL,hb]; rfl
  rw [hE]
  refine acall.gen [] [14] [.tr (ti at_),.tr (intsT [whenI 4 (!partsB (.mk kind op word name kids at_)),r,whenI 7 (decide (deep > 64))])] [] _ [] (k56 at_ _ true hb) rfl rfl rfl rfl ⟨.inl rfl,⟨rfl,Nat.le_refl 3,rfl⟩,trivial⟩ trivial rfl rfl ?_
  conv=>whnf
  refine ⟨by kernel_rfl,by kernel_rfl,?_⟩
  conv=>whnf
  exact ⟨⟨rfl,Or.inl rfl,Or.inl rfl,trivial⟩,aut,⟨rfl,rfl⟩,⟨rfl,rfl⟩,trivial⟩
 | false =>
  have hE:exprW top locals (.mk kind op word name kids at_) deep=exprsW top locals kids (deep+1):=by unfold exprW; rw [hL,hb]; rfl
  rw [hE]
  have hd64:deep≤64:=wrap_deep (l:=[_,_]) hdeep.1 hb
  have hw:IntKind.i64.wrap (deep+1)=deep+1:=w64 (by omega) (by omega)
  refine acall.gen [] [14] [.tr (ti at_),.tr (intsT [whenI 4 (!partsB (.mk kind op word name kids at_)),r,whenI 7 (decide (deep > 64))])] [] _ [] (k56 at_ _ false hb) rfl rfl rfl rfl ⟨.inl rfl,⟨rfl,Nat.le_refl 3,rfl⟩,trivial⟩ trivial rfl rfl ?_
  conv=>whnf
  refine ⟨by kernel_rfl,fun _ => ?_⟩
  conv=>whnf
  refine LoopL.by (fun i:Nat=>⟨[(0,.ptr 0 0),(2,.tr (ti deep)),(29,.tr (exprsT kids)),(30,.tr (ti (Expr.rows kids).length)),(31,.tr (ti i))],[(0,walkB p),(1,.map .string (mapT top)),(2,.map .string (mapT locals))],3⟩)
   (fun i=>i≤kids.length∧exprsW top locals kids (deep+1)=exprsW top locals (kids.drop i) (deep+1)) (fun i=>kids.length - i) 0 [0,1,2] []
   (Sub.mk' rfl aut aut rfl rfl) ⟨Nat.zero_le _,rfl⟩ ?_
  rintro i ⟨hi,hf⟩ -
  conv=>whnf
  refine csplit (fun hlt => ?_) (fun hge => ?_)
  ·have hlt:i<kids.length:=by rw [erows_len] at hlt; simpa using hlt
   conv=>whnf
   refine ⟨rfl,by omega,by rw [erows_len]; omega,fun row hrow => ?_⟩
   obtain ⟨d,hd,rfl⟩:=erows_get hrow
   replace hd:kids[i]? = some d:=hd
   have hsd:=size_kid hd
   rw [exprsW_at hd] at hf
   clear hrow
   cases ho:exprW top locals d (deep+1) with
   | some f =>
    have hih:K 189 [.ptr 0 0,d.av,.tr (ti (IntKind.i64.wrap (deep+1)))] (wbin p top locals) (resW (some f)) (wbout p top locals):=by rw [hw,← ho]; exact ih d (deep+1) (by omega)
    rw [ho] at hf
    have hf:exprsW top locals kids (deep+1)=some f:=hf
    rw [hf]
    obtain ⟨k1,k2,k3,k4,k5,k6⟩:=d
    conv=>whnf
    refine acall.gen [0,1,2] [] _ (wbin p top locals) _ (wbout p top locals) hih rfl rfl rfl rfl aut aut rfl rfl fun _ => ?_
    conv=>whnf
    exact ⟨⟨rfl,Or.inl rfl,Or.inl rfl,trivial⟩,aut,⟨rfl,rfl⟩,⟨rfl,rfl⟩,trivial⟩
   | none =>
    have hih:K 189 [.ptr 0 0,d.av,.tr (ti (IntKind.i64.wrap (deep+1)))] (wbin p top locals) (resW none) (wbout p top locals):=by rw [hw,← ho]; exact ih d (deep+1) (by omega)
    rw [ho] at hf
    have hf:exprsW top locals kids (deep+1)=exprsW top locals (kids.drop (i+1)) (deep+1):=hf
    obtain ⟨k1,k2,k3,k4,k5,k6⟩:=d
    conv=>whnf
    refine acall.gen [0,1,2] [] _ (wbin p top locals) _ (wbout p top locals) hih rfl rfl rfl rfl aut aut rfl rfl fun _ => ?_
    conv=>whnf
    exact ⟨i+1,[0,1,2],[],Sub.mk' rfl ⟨⟨rfl,rfl⟩,.inl rfl,.inl rfl,.inl rfl,.inl (ti_succ hlt hkl),trivial⟩ aut rfl rfl,⟨hlt,hf⟩,by omega⟩
  ·have hge:kids.length≤i:=by rw [erows_len] at hge; simpa using hge
   rw [List.drop_eq_nil_of_le hge] at hf
   have hf:exprsW top locals kids (deep+1)=none:=hf
   rw [hf]
   conv=>whnf
   refine ⟨fun _ => ?_,fun h=>absurd rfl h⟩
   conv=>whnf
   exact aut
end Go.Proofs.YthboippafkcoiaaGreatDoor.am
namespace Go.Proofs.YthboippafkcoiaaGreatDoor.am
open Go Go.Proofs
theorem leastW_pos : ∀ (l:List Int) (a:Int),0≤a→(a > 0 ∨ ∃ r ∈ l,r > 0)→leastW l a > 0
 | [],a,_,h=>by
   rcases h with h | ⟨r,hr,_⟩
   ·exact h
   ·simp at hr
 | r::l,a,ha,h=>by
   have step:0≤(bif decide (r > 0) && ((a == 0) || decide (r<a)) then r else a)∧((a > 0∨r > 0)→(bif decide (r > 0) && ((a == 0) || decide (r<a)) then r else a) > 0):=by
    cases hr:decide (r > 0) with
    | false =>
     have:=of_decide_eq_false hr
     exact ⟨ha,fun h=>by show a > 0; omega⟩
    | true =>
     have hr':=of_decide_eq_true hr
     rw [Bool.true_and]
     cases hc:((a == 0) || decide (r<a)) with
     | true=>exact ⟨by show (0:Int)≤r; omega,fun _=>hr'⟩
     | false =>
      simp only [Bool.or_eq_false_iff] at hc
      have h0:a≠0:=by simpa using hc.1
      exact ⟨ha,fun _=>by show a > 0; omega⟩
   refine leastW_pos l _ step.1 ?_
   rcases h with h | ⟨x,hx,hp⟩
   ·exact .inl (step.2 (.inl h))
   ·rcases List.mem_cons.1 hx with rfl | hx
    ·exact .inl (step.2 (.inr hp))
    ·exact .inr ⟨x,hx,hp⟩
theorem deep_of {deep:Int} {l:List Int} (hm:whenI 7 (decide (deep > 64)) ∈ l) (h:decide (leastW l 0 > 0)=false):deep≤64:=by
 cases hq:decide (deep > 64) with
 | false=>have:=of_decide_eq_false hq; omega
 | true=>exact absurd (leastW_pos l 0 (Int.le_refl 0) (.inr ⟨_,hm,by rw [hq]; decide⟩)) (of_decide_eq_false h)
def stmtRules (top locals:MI) (kind:Int) (name other:ByteArray) (e:List Expr) (body els:List Stmt) (at_ deep:Int):List Int :=
 bif kind == 1 then [whenI 4 (!fieldsB (.mk kind name other e body els at_)),whenI 7 (decide (deep > 64)),variableW top locals name false]
 else bif kind == 2 then [whenI 4 (!fieldsB (.mk kind name other e body els at_)),whenI 7 (decide (deep > 64)),variableW top locals name false,variableW top locals other true]
 else bif kind == 5 then [whenI 4 (!fieldsB (.mk kind name other e body els at_)),whenI 7 (decide (deep > 64)),guardW top locals name]
 else [whenI 4 (!fieldsB (.mk kind name other e body els at_)),whenI 7 (decide (deep > 64))]
theorem stmtRules_deep (top locals:MI) (kind:Int) (name other:ByteArray) (e:List Expr) (body els:List Stmt) (at_ deep:Int):whenI 7 (decide (deep > 64)) ∈ stmtRules top locals kind name other e body els at_ deep:=by
 unfold stmtRules
 cases kind == 1 <;> cases kind == 2 <;> cases kind == 5 <;> simp
mutual
def stmtW (top locals:MI):Stmt→Int→Option Flt
 | .mk kind name other e body els at_,deep=>bif decide (leastW (stmtRules top locals kind name other e body els at_ deep) 0 > 0) then some ⟨at_,leastW (stmtRules top locals kind name other e body els at_ deep) 0⟩
  else match exprsW top locals e 1 with
   | some f=>some f
   | none=>match blockW top locals body (deep+1) with
    | some f=>some f
    | none=>blockW top locals els (deep+1)
def blockW (top locals:MI):List Stmt→Int→Option Flt
 | [],_=>none
 | e::l,deep=>match stmtW top locals e deep with
  | some f=>some f
  | none=>blockW top locals l deep
end
theorem blockW_at {top locals:MI} {l:List Stmt} {i:Nat} {d:Stmt} {dp:Int} (h:l[i]? = some d):blockW top locals (l.drop i) dp=match stmtW top locals d dp with | some f=>some f | none=>blockW top locals (l.drop (i+1)) dp:=by
 rw [drop_cons h]; rfl
set_option maxHeartbeats 1000000 in
theorem k90_82 (p:Prg) (top locals:MI) : ∀ (n:Nat),
  (∀ (s:Stmt) (deep:Int),SizeOf.sizeOf s<n→K 176 [.ptr 0 0,s.av,.tr (ti deep)] (wbin p top locals) (resW (stmtW top locals s deep)) (wbout p top locals)) ∧
  (∀ (l:List Stmt) (deep:Int),SizeOf.sizeOf l<n→K 162 [.ptr 0 0,.tr (stmtsT l),.tr (ti deep)] (wbin p top locals) (resW (blockW top locals l deep)) (wbout p top locals)):=by
 intro n
 induction n with
 | zero=>exact ⟨fun s deep h=>by omega,fun l deep h=>by omega⟩
 | succ n ih =>
 obtain ⟨ihs,ihl⟩:=ih
 constructor
 ·intro s deep hsz
  refine Ctr.cut [9] hT hmix Tryz.func176 rfl (fun _ _=>by kernel_rfl) rfl fun hok => ?_
  obtain ⟨kind,name,other,e,body,els,at_⟩:=s
  have hdeep:=(hok.slot 2 rfl).tr.i64
  have hel:=((hok.slot 1 rfl).agg _ (.tail _ (.tail _ (.tail _ (.head _))))).tr.lst.2.1
  rw [erows_len] at hel
  simp only [Stmt.mk.sizeOf_spec] at hsz
  clear hok
  conv=>whnf
  refine acall.pure _ (k94 (.mk kind name other e body els at_)) rfl rfl fun _ => ?_
  conv=>whnf
  refine acall.pure _ (k57 4 (!fieldsB (.mk kind name other e body els at_))) rfl rfl fun _ => ?_
  conv=>whnf
  refine acall.pure _ (k57 7 (decide (deep > 64))) rfl rfl fun _ => ?_
  conv=>whnf
  refine CutL.by (fun rules:List Int=>⟨[(0,.ptr 0 0),(2,.tr (ti deep)),(4,.ptr 3 0),(6,.sl 4 rules.length)],[(0,walkB p),(1,.map .string (mapT top)),(2,.map .string (mapT locals)),(3,.cells 105 ((Stmt.mk kind name other e body els at_).cells.map .tr)),(4,.vec 3 1 8 (rules.map fun r=>[ti r]))],5⟩)
   (fun rules=>rules=stmtRules top locals kind name other e body els at_ deep) ?_ ?_
  ·conv=>whnf
   refine csplit (fun h1 => ?_) (fun h1 => ?_)
   ·conv=>whnf
    refine acall.gen [0,1,2] [] [.ptr 0 0,.tr (ts name),.tr (tb false)] (wbin p top locals) _ (wbout p top locals) (k95 p top locals name false) rfl rfl rfl rfl aut aut rfl rfl fun _ => ?_
    conv=>whnf
    refine ⟨rfl,rfl,rfl,Nat.le_refl 2,Nat.le_of_ble_eq_true rfl,fun q hq => ?_,?_⟩
    ·cases hq with
     | head=>exact Nat.ne_of_beq_eq_false rfl
     | tail _ h=>cases h
    conv=>whnf
    exact ⟨[whenI 4 (!fieldsB (.mk kind name other e body els at_)),whenI 7 (decide (deep > 64)),variableW top locals name false],[0,1,2,3,23],[],Sub.mk' rfl aut aut rfl rfl,by simp only [stmtRules,h1] <;> rfl⟩
   conv=>whnf
   refine csplit (fun h2 => ?_) (fun h2 => ?_)
   ·conv=>whnf
    refine acall.gen [0,1,2] [] [.ptr 0 0,.tr (ts name),.tr (tb false)] (wbin p top locals) _ (wbout p top locals) (k95 p top locals name false) rfl rfl rfl rfl aut aut rfl rfl ?_
    conv=>whnf
    refine acall.gen [0,1,2] [] [.ptr 0 0,.tr (ts other),.tr (tb true)] (wbin p top locals) _ (wbout p top locals) (k95 p top locals other true) rfl rfl rfl rfl aut aut rfl rfl ?_
    conv=>whnf
    refine ⟨rfl,rfl,rfl,Nat.le_refl 2,Nat.le_of_ble_eq_true rfl,fun q hq => ?_,?_⟩
    ·cases hq with
     | head=>exact Nat.ne_of_beq_eq_false rfl
     | tail _ h=>cases h
    conv=>whnf
    refine ⟨by kernel_rfl,fun _ => ?_⟩
    conv=>whnf
    exact ⟨[whenI 4 (!fieldsB (.mk kind name other e body els at_)),whenI 7 (decide (deep > 64)),variableW top locals name false,variableW top locals other true],[0,1,2,3,29],[],Sub.mk' rfl aut aut rfl rfl,by simp only [stmtRules,h1,h2] <;> rfl⟩
   conv=>whnf
   refine csplit (fun h3 => ?_) (fun h3 => ?_)
   ·conv=>whnf
    refine acall.gen [0,1,2] [] [.ptr 0 0,.tr (ts name)] (wbin p top locals) _ (wbout p top locals) (k96 p top locals name) rfl rfl rfl rfl aut aut rfl rfl fun _ => ?_
    conv=>whnf
    refine ⟨rfl,rfl,rfl,Nat.le_refl 2,Nat.le_of_ble_eq_true rfl,fun q hq => ?_,?_⟩
    ·cases hq with
     | head=>exact Nat.ne_of_beq_eq_false rfl
     | tail _ h=>cases h
    conv=>whnf
    exact ⟨[whenI 4 (!fieldsB (.mk kind name other e body els at_)),whenI 7 (decide (deep > 64)),guardW top locals name],[0,1,2,3,27],[],Sub.mk' rfl aut aut rfl rfl,by simp only [stmtRules,h1,h2,h3] <;> rfl⟩
   conv=>whnf
   exact ⟨[whenI 4 (!fieldsB (.mk kind name other e body els at_)),whenI 7 (decide (deep > 64))],[0,1,2,3,11],[],Sub.mk' rfl aut aut rfl rfl,by simp only [stmtRules,h1,h2,h3] <;> rfl⟩
  rintro rules hr hok2
  have hlen:=(hok2.vec 4 rfl).2.1
  have hmem:whenI 7 (decide (deep > 64)) ∈ rules:=by rw [hr]; exact stmtRules_deep ..
  have hsee:intsT rules = .lst 1 8 ((rules.map fun r=>[ti r]).take rules.length):=by rw [List.take_of_length_le (by simp)]; rfl
  have hle:rules.length≤(rules.map fun r=>[ti r]).length:=by simp
  clear hok2
  conv=>whnf
  cases hb:decide (leastW rules 0 > 0) with
  | true =>
   have hE:stmtW top locals (.mk kind name other e body els at_) deep=some ⟨at_,leastW rules 0⟩:=by unfold stmtW; rw [← hr,hb]; rfl
   rw [hE]
   refine acall.gen [] [4] [.tr (ti at_),.tr (intsT rules)] [] _ [] (k56 at_ _ true hb) rfl rfl rfl rfl ⟨.inl rfl,⟨rfl,hle,hsee⟩,trivial⟩ trivial rfl rfl fun _ => ?_
   conv=>whnf
   exact ⟨⟨rfl,Or.inl rfl,Or.inl rfl,trivial⟩,aut,⟨rfl,rfl⟩,⟨rfl,rfl⟩,trivial⟩
  | false =>
   have hE:stmtW top locals (.mk kind name other e body els at_) deep=match exprsW top locals e 1 with
    | some f=>some f
    | none=>match blockW top locals body (deep+1) with
     | some f=>some f
     | none=>blockW top locals els (deep+1):=by
    show (bif decide (leastW (stmtRules top locals kind name other e body els at_ deep) 0 > 0) then _ else _)=_
    rw [← hr,hb]; rfl
   rw [hE]
   clear hE
   have hd64:deep≤64:=deep_of hmem hb
   have hw:IntKind.i64.wrap (deep+1)=deep+1:=w64 (by omega) (by omega)
   refine acall.gen [] [4] [.tr (ti at_),.tr (intsT rules)] [] _ [] (k56 at_ _ false hb) rfl rfl rfl rfl ⟨.inl rfl,⟨rfl,hle,hsee⟩,trivial⟩ trivial rfl rfl fun _ => ?_
   conv=>whnf
   refine LoopL.by (fun i:Nat=>⟨[(0,.ptr 0 0),(2,.tr (ti deep)),(4,.ptr 3 0),(55,.tr (exprsT e)),(56,.tr (ti (Expr.rows e).length)),(57,.tr (ti i))],[(0,walkB p),(1,.map .string (mapT top)),(2,.map .string (mapT locals)),(3,.cells 105 ((Stmt.mk kind name other e body els at_).cells.map .tr))],4⟩)
    (fun i=>i≤e.length∧exprsW top locals e 1=exprsW top locals (e.drop i) 1) (fun i=>e.length - i) 0 [0,1,2,3] []
    (Sub.mk' rfl aut aut rfl rfl) ⟨Nat.zero_le _,rfl⟩ ?_
   rintro i ⟨hi,hf⟩ -
   conv=>whnf
   refine csplit (fun hlt => ?_) (fun hge => ?_)
   ·have hlt:i<e.length:=by rw [erows_len] at hlt; simpa using hlt
    conv=>whnf
    refine ⟨rfl,by omega,by rw [erows_len]; omega,fun row hrow => ?_⟩
    obtain ⟨d,hd,rfl⟩:=erows_get hrow
    replace hd:e[i]? = some d:=hd
    rw [exprsW_at hd] at hf
    clear hrow
    have hih:=k97 p top locals (SizeOf.sizeOf d+1) d 1 (by omega)
    cases ho:exprW top locals d 1 with
    | some f =>
     rw [ho] at hf hih
     have hf:exprsW top locals e 1=some f:=hf
     rw [hf]
     obtain ⟨k1,k2,k3,k4,k5,k6⟩:=d
     conv=>whnf
     refine acall.gen [0,1,2] [] _ (wbin p top locals) _ (wbout p top locals) hih rfl rfl rfl rfl aut aut rfl rfl fun _ => ?_
     conv=>whnf
     exact ⟨⟨rfl,Or.inl rfl,Or.inl rfl,trivial⟩,aut,⟨rfl,rfl⟩,⟨rfl,rfl⟩,trivial⟩
    | none =>
     rw [ho] at hf hih
     have hf:exprsW top locals e 1=exprsW top locals (e.drop (i+1)) 1:=hf
     obtain ⟨k1,k2,k3,k4,k5,k6⟩:=d
     conv=>whnf
     refine acall.gen [0,1,2] [] _ (wbin p top locals) _ (wbout p top locals) hih rfl rfl rfl rfl aut aut rfl rfl fun _ => ?_
     conv=>whnf
     exact ⟨i+1,[0,1,2,3],[],Sub.mk' rfl ⟨⟨rfl,rfl⟩,.inl rfl,⟨rfl,rfl⟩,.inl rfl,.inl rfl,.inl (ti_succ hlt hel),trivial⟩ aut rfl rfl,⟨hlt,hf⟩,by omega⟩
   ·have hge:e.length≤i:=by rw [erows_len] at hge; simpa using hge
    rw [List.drop_eq_nil_of_le hge] at hf
    have hf:exprsW top locals e 1=none:=hf
    rw [hf]
    have hbd:K 162 [.ptr 0 0,.tr (stmtsT body),.tr (ti (IntKind.i64.wrap (deep+1)))] (wbin p top locals) (resW (blockW top locals body (deep+1))) (wbout p top locals):=by rw [hw]; exact ihl body (deep+1) (by omega)
    have hel2:K 162 [.ptr 0 0,.tr (stmtsT els),.tr (ti (IntKind.i64.wrap (deep+1)))] (wbin p top locals) (resW (blockW top locals els (deep+1))) (wbout p top locals):=by rw [hw]; exact ihl els (deep+1) (by omega)
    cases ho:blockW top locals body (deep+1) with
    | some f =>
     rw [ho] at hbd
     conv=>whnf
     refine ⟨fun _ => ?_,fun h=>absurd rfl h⟩
     conv=>whnf
     refine acall.gen [0,1,2] [] _ (wbin p top locals) _ (wbout p top locals) hbd rfl rfl rfl rfl aut aut rfl rfl fun _ => ?_
     conv=>whnf
     exact ⟨⟨rfl,Or.inl rfl,Or.inl rfl,trivial⟩,aut,⟨rfl,rfl⟩,⟨rfl,rfl⟩,trivial⟩
    | none =>
     rw [ho] at hbd
     cases ho2:blockW top locals els (deep+1) with
     | some f =>
      rw [ho2] at hel2
      conv=>whnf
      refine ⟨fun _ => ?_,fun h=>absurd rfl h⟩
      conv=>whnf
      refine acall.gen [0,1,2] [] _ (wbin p top locals) _ (wbout p top locals) hbd rfl rfl rfl rfl aut aut rfl rfl fun _ => ?_
      conv=>whnf
      refine acall.gen [0,1,2] [] _ (wbin p top locals) _ (wbout p top locals) hel2 rfl rfl rfl rfl aut aut rfl rfl fun _ => ?_
      conv=>whnf
      exact ⟨⟨rfl,Or.inl rfl,Or.inl rfl,trivial⟩,aut,⟨rfl,rfl⟩,⟨rfl,rfl⟩,trivial⟩
     | none =>
      rw [ho2] at hel2
      conv=>whnf
      refine ⟨fun _ => ?_,fun h=>absurd rfl h⟩
      conv=>whnf
      refine acall.gen [0,1,2] [] _ (wbin p top locals) _ (wbout p top locals) hbd rfl rfl rfl rfl aut aut rfl rfl fun _ => ?_
      conv=>whnf
      refine acall.gen [0,1,2] [] _ (wbin p top locals) _ (wbout p top locals) hel2 rfl rfl rfl rfl aut aut rfl rfl fun _ => ?_
      conv=>whnf
      exact aut
 ·intro l deep hsz
  refine Ctr.of hT hmix Tryz.func162 rfl (fun _ _=>by kernel_rfl) rfl fun hok => ?_
  have hkl:=(hok.slot 1 rfl).tr.lst.2.1
  rw [srows_len] at hkl
  clear hok
  conv=>whnf
  refine LoopL.by (fun i:Nat=>⟨[(0,.ptr 0 0),(2,.tr (ti deep)),(8,.tr (stmtsT l)),(9,.tr (ti (Stmt.rows l).length)),(10,.tr (ti i))],[(0,walkB p),(1,.map .string (mapT top)),(2,.map .string (mapT locals))],3⟩)
   (fun i=>i≤l.length∧blockW top locals l deep=blockW top locals (l.drop i) deep) (fun i=>l.length - i) 0 [0,1,2] []
   (Sub.mk' rfl aut aut rfl rfl) ⟨Nat.zero_le _,rfl⟩ ?_
  rintro i ⟨hi,hf⟩ -
  conv=>whnf
  refine csplit (fun hlt => ?_) (fun hge => ?_)
  ·have hlt:i<l.length:=by rw [srows_len] at hlt; simpa using hlt
   conv=>whnf
   refine ⟨rfl,by omega,by rw [srows_len]; omega,fun row hrow => ?_⟩
   obtain ⟨d,hd,rfl⟩:=srows_get hrow
   replace hd:l[i]? = some d:=hd
   have hsd:=size_kid2 hd
   rw [blockW_at hd] at hf
   clear hrow
   have hih:=ihs d deep (by omega)
   cases ho:stmtW top locals d deep with
   | some f =>
    rw [ho] at hf hih
    have hf:blockW top locals l deep=some f:=hf
    rw [hf]
    obtain ⟨k1,k2,k3,k4,k5,k6,k7⟩:=d
    conv=>whnf
    refine acall.gen [0,1,2] [] _ (wbin p top locals) _ (wbout p top locals) hih rfl rfl rfl rfl aut aut rfl rfl fun _ => ?_
    conv=>whnf
    exact ⟨⟨rfl,Or.inl rfl,Or.inl rfl,trivial⟩,aut,⟨rfl,rfl⟩,⟨rfl,rfl⟩,trivial⟩
   | none =>
    rw [ho] at hf hih
    have hf:blockW top locals l deep=blockW top locals (l.drop (i+1)) deep:=hf
    obtain ⟨k1,k2,k3,k4,k5,k6,k7⟩:=d
    conv=>whnf
    refine acall.gen [0,1,2] [] _ (wbin p top locals) _ (wbout p top locals) hih rfl rfl rfl rfl aut aut rfl rfl fun _ => ?_
    conv=>whnf
    exact ⟨i+1,[0,1,2],[],Sub.mk' rfl ⟨⟨rfl,rfl⟩,.inl rfl,.inl rfl,.inl rfl,.inl (ti_succ hlt hkl),trivial⟩ aut rfl rfl,⟨hlt,hf⟩,by omega⟩
  ·have hge:l.length≤i:=by rw [srows_len] at hge; simpa using hge
   rw [List.drop_eq_nil_of_le hge] at hf
   have hf:blockW top locals l deep=none:=hf
   rw [hf]
   conv=>whnf
   refine ⟨fun _ => ?_,fun h=>absurd rfl h⟩
   conv=>whnf
   exact aut
end Go.Proofs.YthboippafkcoiaaGreatDoor.am
namespace Go.Proofs.YthboippafkcoiaaGreatDoor.am
open Go Go.Proofs
def mputI:MI→MK→Int→MI
 | [],q,x=>[(q,x)]
 | (k,v)::r,q,x=>bif MK.same q k then (q,x)::r else (k,v)::mputI r q x
theorem mput_T : ∀ (M:MI) (q:MK) (x:Int),mput (mapT M) q (ti x)=mapT (mputI M q x)
 | [],q,x=>rfl
 | (k,v)::r,q,x=>by
   show (bif MK.same q k then (q,ti x)::mapT r else (k,ti v)::mput (mapT r) q (ti x))=mapT (bif MK.same q k then (q,x)::r else (k,v)::mputI r q x)
   rw [mput_T r q x]
   cases MK.same q k <;> rfl
def putTop (M:MI) (name:ByteArray) (s:Int):MI:=bif mgetI M (.ks name) == 0 then mputI M (.ks name) s else M
theorem k81 (M:MI) (name:ByteArray) (s:Int):K 161 [.tr (ts name),.tr (ti s),.ptr 0 0] [.cells 175 [.mp 1],.map .string (mapT M)] (.ret (.tup [])) [some (.cells 175 [.mp 1]),some (.map .string (mapT (putTop M name s)))]:=by
 refine Ctr.of hT hmix Tryz.func161 rfl (fun _ _=>by kernel_rfl) rfl fun hok => ?_
 clear hok
 conv=>whnf
 rw [mgetZ]
 conv=>whnf
 refine csplit (fun h1 => ?_) (fun h1 => ?_)
 ·conv=>whnf
  exact ⟨trivial,aut,⟨rfl,by unfold putTop; rw [h1]; exact mput_T M (.ks name) s⟩,trivial⟩
 ·conv=>whnf
  exact ⟨trivial,aut,⟨rfl,by unfold putTop; rw [h1]; rfl⟩,trivial⟩
end Go.Proofs.YthboippafkcoiaaGreatDoor.am
namespace Go.Proofs.YthboippafkcoiaaGreatDoor.am
open Go Go.Proofs
def putAll (M:MI) (l:List Decl) (s:Int):MI:=l.foldl (fun M d=>putTop M d.name s) M
def putThs (M:MI) (l:List Thread):MI:=l.foldl (fun M d=>putTop M d.name 3) M
def topOf (p:Prg):MI:=putThs (putAll (putAll [] p.shared 1) p.locks 2) p.threads
theorem k55 (p:Prg):K 126 [p.av] [] (.ret (.mp 0)) [some (.map .string (mapT (topOf p)))]:=by
 refine Ctr.new [] hT hmix Tryz.func126 rfl (fun _ _=>by kernel_rfl) rfl fun hok => ?_
 obtain ⟨_,hl1,_⟩:=((hok.slot 0 rfl).agg _ (.head _)).tr.lst
 obtain ⟨_,hl2,_⟩:=((hok.slot 0 rfl).agg _ (.tail _ (.head _))).tr.lst
 obtain ⟨_,hl3,_⟩:=((hok.slot 0 rfl).agg _ (.tail _ (.tail _ (.head _)))).tr.lst
 rw [List.length_map] at hl1 hl2 hl3
 clear hok
 conv=>whnf
 refine LoopL.by (fun i:Nat=>⟨[(1,.ptr 0 0),(3,.ptr 1 0),(4,.fn 161 [.ptr 1 0]),(14,.tr (declsT p.shared)),(15,.tr (ti (p.shared.map Decl.cells).length)),(16,.tr (ti i))],[(0,.cells 25 [.tr (declsT p.shared),.tr (declsT p.locks),.tr (threadsT p.threads)]),(1,.cells 175 [.mp 2]),(2,.map .string (mapT (putAll [] (p.shared.take i) 1)))],4⟩)
  (fun i=>i≤p.shared.length) (fun i=>p.shared.length - i) 0 [0,3,2] []
  (Sub.mk' rfl aut aut rfl rfl) (Nat.zero_le _) ?_
 intro i hi _
 conv=>whnf
 refine csplit (fun hlt => ?_) (fun hge => ?_)
 ·have hlt:i<p.shared.length:=by rw [List.length_map] at hlt; simpa using hlt
  conv=>whnf
  refine ⟨rfl,by omega,by rw [List.length_map]; omega,fun row hrow => ?_⟩
  obtain ⟨d,hd,rfl⟩:=map_get hrow
  replace hd:p.shared[i]? = some d:=hd
  clear hrow
  have hM:putAll [] (p.shared.take (i+1)) 1=putTop (putAll [] (p.shared.take i) 1) d.name 1:=by rw [take_snoc hd]; simp [putAll,putThs]
  obtain ⟨name,word,at_⟩:=d
  conv=>whnf
  refine acall.gen [1,2] [] [.tr (ts name),.tr (ti 1),.ptr 0 0] [.cells 175 [.mp 1],.map .string (mapT (putAll [] (p.shared.take i) 1))] _ _ (k81 (putAll [] (p.shared.take i) 1) name 1) rfl rfl rfl rfl aut aut rfl rfl fun _ => ?_
  conv=>whnf
  exact ⟨i+1,[0,1,2],[],Sub.mk' rfl ⟨⟨rfl,rfl⟩,⟨rfl,rfl⟩,aut,.inl rfl,.inl rfl,.inl (ti_succ hlt hl1),trivial⟩ ⟨aut,aut,⟨rfl,by rw [hM]⟩,trivial⟩ rfl rfl,hlt,by omega⟩
 ·have hge:p.shared.length≤i:=by rw [List.length_map] at hge; simpa using hge
  rw [List.take_of_length_le hge]
  conv=>whnf
  refine ⟨fun _ => ?_,fun h=>absurd rfl h⟩
  conv=>whnf
  refine LoopL.by (fun i:Nat=>⟨[(1,.ptr 0 0),(3,.ptr 1 0),(4,.fn 161 [.ptr 1 0]),(26,.tr (declsT p.locks)),(27,.tr (ti (p.locks.map Decl.cells).length)),(28,.tr (ti i))],[(0,.cells 25 [.tr (declsT p.shared),.tr (declsT p.locks),.tr (threadsT p.threads)]),(1,.cells 175 [.mp 2]),(2,.map .string (mapT (putAll (putAll [] p.shared 1) (p.locks.take i) 2)))],4⟩)
   (fun i=>i≤p.locks.length) (fun i=>p.locks.length - i) 0 [0,1,2] []
   (Sub.mk' rfl aut aut rfl rfl) (Nat.zero_le _) ?_
  intro i hi _
  conv=>whnf
  refine csplit (fun hlt => ?_) (fun hge => ?_)
  ·have hlt:i<p.locks.length:=by rw [List.length_map] at hlt; simpa using hlt
   conv=>whnf
   refine ⟨rfl,by omega,by rw [List.length_map]; omega,fun row hrow => ?_⟩
   obtain ⟨d,hd,rfl⟩:=map_get hrow
   replace hd:p.locks[i]? = some d:=hd
   clear hrow
   have hM:putAll (putAll [] p.shared 1) (p.locks.take (i+1)) 2=putTop (putAll (putAll [] p.shared 1) (p.locks.take i) 2) d.name 2:=by rw [take_snoc hd]; simp [putAll,putThs]
   obtain ⟨name,word,at_⟩:=d
   conv=>whnf
   refine acall.gen [1,2] [] [.tr (ts name),.tr (ti 2),.ptr 0 0] [.cells 175 [.mp 1],.map .string (mapT (putAll (putAll [] p.shared 1) (p.locks.take i) 2))] _ _ (k81 (putAll (putAll [] p.shared 1) (p.locks.take i) 2) name 2) rfl rfl rfl rfl aut aut rfl rfl fun _ => ?_
   conv=>whnf
   exact ⟨i+1,[0,1,2],[],Sub.mk' rfl ⟨⟨rfl,rfl⟩,⟨rfl,rfl⟩,aut,.inl rfl,.inl rfl,.inl (ti_succ hlt hl2),trivial⟩ ⟨aut,aut,⟨rfl,by rw [hM]⟩,trivial⟩ rfl rfl,hlt,by omega⟩
  ·have hge:p.locks.length≤i:=by rw [List.length_map] at hge; simpa using hge
   rw [List.take_of_length_le hge]
   conv=>whnf
   refine ⟨fun _ => ?_,fun h=>absurd rfl h⟩
   conv=>whnf
   refine LoopL.by (fun i:Nat=>⟨[(1,.ptr 0 0),(3,.ptr 1 0),(4,.fn 161 [.ptr 1 0]),(38,.tr (threadsT p.threads)),(39,.tr (ti (p.threads.map Thread.cells).length)),(40,.tr (ti i))],[(0,.cells 25 [.tr (declsT p.shared),.tr (declsT p.locks),.tr (threadsT p.threads)]),(1,.cells 175 [.mp 2]),(2,.map .string (mapT (putThs (putAll (putAll [] p.shared 1) p.locks 2) (p.threads.take i))))],4⟩)
    (fun i=>i≤p.threads.length) (fun i=>p.threads.length - i) 0 [0,1,2] []
    (Sub.mk' rfl aut aut rfl rfl) (Nat.zero_le _) ?_
   intro i hi _
   conv=>whnf
   refine csplit (fun hlt => ?_) (fun hge => ?_)
   ·have hlt:i<p.threads.length:=by rw [List.length_map] at hlt; simpa using hlt
    conv=>whnf
    refine ⟨rfl,by omega,by rw [List.length_map]; omega,fun row hrow => ?_⟩
    obtain ⟨d,hd,rfl⟩:=map_get hrow
    replace hd:p.threads[i]? = some d:=hd
    clear hrow
    have hM:putThs (putAll (putAll [] p.shared 1) p.locks 2) (p.threads.take (i+1))=putTop (putThs (putAll (putAll [] p.shared 1) p.locks 2) (p.threads.take i)) d.name 3:=by rw [take_snoc hd]; simp [putAll,putThs]
    obtain ⟨name,ls,body,at_⟩:=d
    conv=>whnf
    refine acall.gen [1,2] [] [.tr (ts name),.tr (ti 3),.ptr 0 0] [.cells 175 [.mp 1],.map .string (mapT (putThs (putAll (putAll [] p.shared 1) p.locks 2) (p.threads.take i)))] _ _ (k81 (putThs (putAll (putAll [] p.shared 1) p.locks 2) (p.threads.take i)) name 3) rfl rfl rfl rfl aut aut rfl rfl fun _ => ?_
    conv=>whnf
    exact ⟨i+1,[0,1,2],[],Sub.mk' rfl ⟨⟨rfl,rfl⟩,⟨rfl,rfl⟩,aut,.inl rfl,.inl rfl,.inl (ti_succ hlt hl3),trivial⟩ ⟨aut,aut,⟨rfl,by rw [hM]⟩,trivial⟩ rfl rfl,hlt,by omega⟩
   ·have hge:p.threads.length≤i:=by rw [List.length_map] at hge; simpa using hge
    rw [List.take_of_length_le hge]
    conv=>whnf
    refine ⟨fun _ => ?_,fun h=>absurd rfl h⟩
    conv=>whnf
    exact ⟨[2],rfl,rfl,rfl,⟨rfl,rfl⟩,trivial⟩
end Go.Proofs.YthboippafkcoiaaGreatDoor.am
namespace Go.Proofs.YthboippafkcoiaaGreatDoor.am
open Go Go.Proofs
def ones (M:MI) (l:List Decl):MI:=l.foldl (fun M d=>mputI M (.ks d.name) 1) M
def onesL (M:MI) (l:List (List Decl)):MI:=l.foldl ones M
def aboveM (p:Prg):MI:=onesL [] [p.shared,p.locks]
def localRules (above M:MI) (i:Nat) (d:Decl):List Int :=
 [whenI 1 (!nameB d.name),whenI 2 (decide (IntKind.i64.wrap (mgetI M (.ks d.name)+mgetI above (.ks d.name)) > 0)),whenI 3 ((i:Int) == 64),whenI 4 (d.word != 0)]
def localsW (above:MI):List Decl→Nat→MI→Option Flt
 | [],_,_=>none
 | d::l,i,M=>bif decide (leastW (localRules above M i d) 0 > 0) then some ⟨d.at_,leastW (localRules above M i d) 0⟩ else localsW above l (i+1) (mputI M (.ks d.name) 1)
theorem localsW_at {above M:MI} {l:List Decl} {i:Nat} {d:Decl} (h:l[i]? = some d) :
  localsW above (l.drop i) i M=bif decide (leastW (localRules above M i d) 0 > 0) then some ⟨d.at_,leastW (localRules above M i d) 0⟩ else localsW above (l.drop (i+1)) (i+1) (mputI M (.ks d.name) 1):=by
 rw [drop_cons h]; rfl
theorem ones_at {M:MI} {l:List Decl} {i:Nat} {d:Decl} (h:l[i]? = some d):ones M (l.take (i+1))=mputI (ones M (l.take i)) (.ks d.name) 1:=by
 rw [take_snoc h]; simp [ones]
theorem onesL_at {M:MI} {l:List (List Decl)} {i:Nat} {d:List Decl} (h:l[i]? = some d):onesL M (l.take (i+1))=ones (onesL M (l.take i)) d:=by
 rw [take_snoc h]; simp [onesL]
def threadW (p:Prg) (top:MI) (t:Thread):Option Flt :=
 match localsW (aboveM p) t.locals 0 [] with
 | some f=>some f
 | none=>blockW top (ones [] t.locals) t.body 1
abbrev walkN (p:Prg) (a:AV):Blk := .cells 179 [.tr (declsT p.shared),.tr (declsT p.locks),.tr (threadsT p.threads),.mp 1,a]
theorem k58a (p:Prg) (top:MI) (t:Thread):K 129 [.ptr 0 0,t.av] [walkN p (.tr (.v (.map none))),.map .string (mapT top)] (resW (threadW p top t))
  (match threadW p top t with | some _=>[none,none] | none=>[some (walkN p (.mp 2)),some (.map .string (mapT top)),some (.map .string (mapT (ones [] t.locals)))]):=by
 refine Ctr.new [12] hT hmix Tryz.func129 rfl (fun _ _=>by kernel_rfl) rfl fun hok => ?_
 obtain ⟨tname,locals,body,tat⟩:=t
 have hl0:=((hok.cells 0 rfl) _ (.head _)).tr.lst.2.1
 have hl1:=((hok.cells 0 rfl) _ (.tail _ (.head _))).tr.lst.2.1
 have hl2:=((hok.slot 1 rfl).agg _ (.tail _ (.head _))).tr.lst.2.1
 rw [List.length_map] at hl0 hl1 hl2
 have hlL : ∀ l ∈ [p.shared,p.locks],l.length≤9223372036854775807:=by
  intro l hl
  simp only [List.mem_cons,List.not_mem_nil,or_false] at hl
  rcases hl with rfl | rfl <;> assumption
 clear hok hl0 hl1
 conv=>whnf
 refine CutL.by (fun _:Unit=>⟨[(0,.ptr 0 0),(3,.ptr 3 0),(4,.mp 4)],[(0,walkN p (.mp 2)),(1,.map .string (mapT top)),(2,.map .string (mapT [])),(3,.cells 41 ((Thread.mk tname locals body tat).cells.map .tr)),(4,.map .string (mapT (aboveM p)))],5⟩) (fun _=>True) ?_ ?_
 ·conv=>whnf
  refine ⟨by kernel_rfl,fun _ => ?_⟩
  conv=>whnf
  refine LoopL.by (fun j:Nat=>⟨[(0,.ptr 0 0),(3,.ptr 3 0),(4,.mp 4),(26,.sl 5 2),(27,.tr (ti 2)),(28,.tr (ti j))],[(0,walkN p (.mp 2)),(1,.map .string (mapT top)),(2,.map .string (mapT [])),(3,.cells 41 ((Thread.mk tname locals body tat).cells.map .tr)),(4,.map .string (mapT (onesL [] ([p.shared,p.locks].take j)))),(5,.vec 22 1 24 ([p.shared,p.locks].map fun l=>[declsT l]))],6⟩)
   (fun j=>j≤2) (fun j=>2 - j) 0 [0,1,4,2,8,20] [] Sub.au (Nat.zero_le _) ?_
  intro j hj _
  conv=>whnf
  refine csplit (fun hlt => ?_) (fun hge => ?_)
  ·have hlt:j<2:=by have:=of_decide_eq_true hlt; omega
   conv=>whnf
   refine ⟨rfl,by omega,by omega,?_⟩
   conv=>whnf
   refine ⟨rfl,hlt,fun row hrow => ?_⟩
   obtain ⟨l,hd,rfl⟩:=map_get hrow
   replace hd:[p.shared,p.locks][j]? = some l:=hd
   have hll:=hlL l (List.mem_of_getElem? hd)
   clear hrow
   conv=>whnf
   refine ⟨Nat.le_refl _,fun t ht => ?_⟩
   obtain rfl:=Option.some.inj ht
   clear ht
   conv=>whnf
   refine LoopL.by (fun i:Nat=>⟨[(0,.ptr 0 0),(3,.ptr 3 0),(4,.mp 4),(26,.sl 5 2),(27,.tr (ti 2)),(28,.tr (ti j)),(32,.tr (declsT l)),(33,.tr (ti (l.map Decl.cells).length)),(34,.tr (ti i))],[(0,walkN p (.mp 2)),(1,.map .string (mapT top)),(2,.map .string (mapT [])),(3,.cells 41 ((Thread.mk tname locals body tat).cells.map .tr)),(4,.map .string (mapT (ones (onesL [] ([p.shared,p.locks].take j)) (l.take i)))),(5,.vec 22 1 24 ([p.shared,p.locks].map fun l=>[declsT l]))],6⟩)
    (fun i=>i≤l.length) (fun i=>l.length - i) 0 [0,1,2,3,4,5] [] Sub.au (Nat.zero_le _) ?_
   intro i hi _
   conv=>whnf
   refine csplit (fun hlt2 => ?_) (fun hge2 => ?_)
   ·have hlt2:i<l.length:=by rw [List.length_map] at hlt2; simpa using hlt2
    conv=>whnf
    refine ⟨rfl,by omega,by rw [List.length_map]; omega,fun row hrow => ?_⟩
    obtain ⟨d,hd2,rfl⟩:=map_get hrow
    replace hd2:l[i]? = some d:=hd2
    clear hrow
    have hM:=ones_at (M:=onesL [] ([p.shared,p.locks].take j)) hd2
    obtain ⟨name,word,at_⟩:=d
    conv=>whnf
    exact ⟨i+1,[0,1,2,3,4,5],[],Sub.mk' rfl aut ⟨aut,aut,aut,aut,⟨rfl,by rw [hM]; exact mput_T _ (.ks name) 1⟩,aut,trivial⟩ rfl rfl,hlt2,by omega⟩
   ·have hge2:l.length≤i:=by rw [List.length_map] at hge2; simpa using hge2
    rw [List.take_of_length_le hge2]
    conv=>whnf
    refine ⟨fun _ => ?_,fun h=>absurd rfl h⟩
    conv=>whnf
    exact ⟨j+1,[0,1,2,3,4,5],[],Sub.mk' rfl ⟨aut,aut,aut,aut,aut,.inl (ti_succ hlt (by omega)),trivial⟩ ⟨aut,aut,aut,aut,⟨rfl,by rw [onesL_at hd]⟩,aut,trivial⟩ rfl rfl,hlt,by omega⟩
  ·have hge:2≤j:=by have:=of_decide_eq_false hge; omega
   rw [List.take_of_length_le (by exact hge)]
   conv=>whnf
   refine ⟨fun _ => ?_,fun h=>absurd rfl h⟩
   conv=>whnf
   exact ⟨(),[0,1,2,3,4],[],Sub.au,trivial⟩
 ·rintro _ - -
  conv=>whnf
  refine LoopL.by (fun i:Nat=>⟨[(0,.ptr 0 0),(3,.ptr 3 0),(4,.mp 4),(44,.tr (declsT locals)),(45,.tr (ti (locals.map Decl.cells).length)),(46,.tr (ti i))],[(0,walkN p (.mp 2)),(1,.map .string (mapT top)),(2,.map .string (mapT (ones [] (locals.take i)))),(3,.cells 41 ((Thread.mk tname locals body tat).cells.map .tr)),(4,.map .string (mapT (aboveM p)))],5⟩)
   (fun i=>i≤locals.length∧localsW (aboveM p) locals 0 []=localsW (aboveM p) (locals.drop i) i (ones [] (locals.take i))) (fun i=>locals.length - i) 0 [0,1,2,3,4] [] Sub.au ⟨Nat.zero_le _,rfl⟩ ?_
  rintro i ⟨hi,hf⟩ -
  have hi:i≤locals.length:=hi
  conv=>whnf
  refine csplit (fun hlt => ?_) (fun hge => ?_)
  ·have hlt:i<locals.length:=by rw [List.length_map] at hlt; simpa using hlt
   conv=>whnf
   refine ⟨rfl,by omega,by rw [List.length_map]; omega,fun row hrow => ?_⟩
   obtain ⟨d,hd,rfl⟩:=map_get hrow
   replace hd:locals[i]? = some d:=hd
   rw [localsW_at hd] at hf
   clear hrow
   have hM:=ones_at (M:=[]) hd
   have hrl:localRules (aboveM p) (ones [] (locals.take i)) i d=[_,_,_,_]:=rfl
   obtain ⟨name,word,at_⟩:=d
   conv=>whnf
   refine acall.pure _ (k41 name) rfl rfl ?_
   conv=>whnf
   refine acall.pure _ (k57 1 (!nameB name)) rfl rfl ?_
   conv=>whnf
   rw [mgetZ]
   conv=>whnf
   rw [mgetZ]
   conv=>whnf
   refine acall.pure _ (k57 2 _) rfl rfl ?_
   conv=>whnf
   refine acall.pure _ (k57 3 _) rfl rfl ?_
   conv=>whnf
   refine acall.pure _ (k57 4 _) rfl rfl ?_
   conv=>whnf
   cases hb:decide (leastW (localRules (aboveM p) (ones [] (locals.take i)) i ⟨name,word,at_⟩) 0 > 0) with
   | true =>
    rw [hb] at hf
    have hE:threadW p top ⟨tname,locals,body,tat⟩=some ⟨at_,leastW (localRules (aboveM p) (ones [] (locals.take i)) i ⟨name,word,at_⟩) 0⟩:=by unfold threadW; rw [hf]; rfl
    rw [hE]
    refine acall.gen [] [40] _ _ _ _ (k56 at_ _ true hb) rfl rfl rfl rfl aut aut rfl rfl ?_
    conv=>whnf
    refine ⟨by kernel_rfl,by kernel_rfl,?_⟩
    conv=>whnf
    exact ⟨[0,1],rfl,rfl,⟨rfl,Or.inl rfl,Or.inl rfl,trivial⟩,trivial⟩
   | false =>
    rw [hb] at hf
    have hf:localsW (aboveM p) locals 0 []=localsW (aboveM p) (locals.drop (i+1)) (i+1) (ones [] (locals.take (i+1))):=by rw [hM]; exact hf
    refine acall.gen [] [40] _ _ _ _ (k56 at_ _ false hb) rfl rfl rfl rfl aut aut rfl rfl ?_
    conv=>whnf
    refine ⟨by kernel_rfl,fun _ => ?_⟩
    conv=>whnf
    refine ⟨by kernel_rfl,fun _ => ?_⟩
    conv=>whnf
    exact ⟨i+1,[0,1,2,3,4],[],Sub.mk' rfl aut ⟨aut,aut,⟨rfl,by rw [hM]; exact mput_T _ (.ks name) 1⟩,aut,aut,trivial⟩ rfl rfl,⟨hlt,hf⟩,by omega⟩
  ·have hge:locals.length≤i:=by rw [List.length_map] at hge; simpa using hge
   rw [List.drop_eq_nil_of_le hge] at hf
   have hf:localsW (aboveM p) locals 0 []=none:=hf
   rw [List.take_of_length_le hge]
   have hE:threadW p top ⟨tname,locals,body,tat⟩=blockW top (ones [] locals) body 1:=by unfold threadW; rw [hf]
   rw [hE]
   conv=>whnf
   refine ⟨fun _ => ?_,fun h=>absurd rfl h⟩
   have hbd:=(k90_82 p top (ones [] locals) (SizeOf.sizeOf body+1)).2 body 1 (by omega)
   cases ho:blockW top (ones [] locals) body 1 with
   | some f =>
    rw [ho] at hbd
    refine acall.au [0,1,2] [] (hbd) ?_
    intro _
    conv=>whnf
    exact ⟨[0,1],rfl,rfl,⟨rfl,Or.inl rfl,Or.inl rfl,trivial⟩,trivial⟩
   | none =>
    rw [ho] at hbd
    refine acall.au [0,1,2] [] (hbd) ?_
    intro _
    conv=>whnf
    exact ⟨[0,1,2],rfl,rfl,trivial,aut⟩
theorem k58b (p:Prg) (top:MI) (M0:MI) (t:Thread):K 129 [.ptr 0 0,t.av] [walkN p (.mp 2),.map .string (mapT top),.map .string (mapT M0)] (resW (threadW p top t))
  (match threadW p top t with | some _=>[none,none,none] | none=>[some (walkN p (.mp 3)),some (.map .string (mapT top)),none,some (.map .string (mapT (ones [] t.locals)))]):=by
 refine Ctr.new [12] hT hmix Tryz.func129 rfl (fun _ _=>by kernel_rfl) rfl fun hok => ?_
 obtain ⟨tname,locals,body,tat⟩:=t
 have hl0:=((hok.cells 0 rfl) _ (.head _)).tr.lst.2.1
 have hl1:=((hok.cells 0 rfl) _ (.tail _ (.head _))).tr.lst.2.1
 have hl2:=((hok.slot 1 rfl).agg _ (.tail _ (.head _))).tr.lst.2.1
 rw [List.length_map] at hl0 hl1 hl2
 have hlL : ∀ l ∈ [p.shared,p.locks],l.length≤9223372036854775807:=by
  intro l hl
  simp only [List.mem_cons,List.not_mem_nil,or_false] at hl
  rcases hl with rfl | rfl <;> assumption
 clear hok hl0 hl1
 conv=>whnf
 refine CutL.by (fun _:Unit=>⟨[(0,.ptr 0 0),(3,.ptr 4 0),(4,.mp 5)],[(0,walkN p (.mp 3)),(1,.map .string (mapT top)),(2,.map .string (mapT M0)),(3,.map .string (mapT [])),(4,.cells 41 ((Thread.mk tname locals body tat).cells.map .tr)),(5,.map .string (mapT (aboveM p)))],6⟩) (fun _=>True) ?_ ?_
 ·conv=>whnf
  refine ⟨by kernel_rfl,fun _ => ?_⟩
  conv=>whnf
  refine LoopL.by (fun j:Nat=>⟨[(0,.ptr 0 0),(3,.ptr 4 0),(4,.mp 5),(26,.sl 6 2),(27,.tr (ti 2)),(28,.tr (ti j))],[(0,walkN p (.mp 3)),(1,.map .string (mapT top)),(2,.map .string (mapT M0)),(3,.map .string (mapT [])),(4,.cells 41 ((Thread.mk tname locals body tat).cells.map .tr)),(5,.map .string (mapT (onesL [] ([p.shared,p.locks].take j)))),(6,.vec 22 1 24 ([p.shared,p.locks].map fun l=>[declsT l]))],7⟩)
   (fun j=>j≤2) (fun j=>2 - j) 0 [0,1,2,5,3,9,21] [] Sub.au (Nat.zero_le _) ?_
  intro j hj _
  conv=>whnf
  refine csplit (fun hlt => ?_) (fun hge => ?_)
  ·have hlt:j<2:=by have:=of_decide_eq_true hlt; omega
   conv=>whnf
   refine ⟨rfl,by omega,by omega,?_⟩
   conv=>whnf
   refine ⟨rfl,hlt,fun row hrow => ?_⟩
   obtain ⟨l,hd,rfl⟩:=map_get hrow
   replace hd:[p.shared,p.locks][j]? = some l:=hd
   have hll:=hlL l (List.mem_of_getElem? hd)
   clear hrow
   conv=>whnf
   refine ⟨Nat.le_refl _,fun t ht => ?_⟩
   obtain rfl:=Option.some.inj ht
   clear ht
   conv=>whnf
   refine LoopL.by (fun i:Nat=>⟨[(0,.ptr 0 0),(3,.ptr 4 0),(4,.mp 5),(26,.sl 6 2),(27,.tr (ti 2)),(28,.tr (ti j)),(32,.tr (declsT l)),(33,.tr (ti (l.map Decl.cells).length)),(34,.tr (ti i))],[(0,walkN p (.mp 3)),(1,.map .string (mapT top)),(2,.map .string (mapT M0)),(3,.map .string (mapT [])),(4,.cells 41 ((Thread.mk tname locals body tat).cells.map .tr)),(5,.map .string (mapT (ones (onesL [] ([p.shared,p.locks].take j)) (l.take i)))),(6,.vec 22 1 24 ([p.shared,p.locks].map fun l=>[declsT l]))],7⟩)
    (fun i=>i≤l.length) (fun i=>l.length - i) 0 [0,1,2,3,4,5,6] [] Sub.au (Nat.zero_le _) ?_
   intro i hi _
   conv=>whnf
   refine csplit (fun hlt2 => ?_) (fun hge2 => ?_)
   ·have hlt2:i<l.length:=by rw [List.length_map] at hlt2; simpa using hlt2
    conv=>whnf
    refine ⟨rfl,by omega,by rw [List.length_map]; omega,fun row hrow => ?_⟩
    obtain ⟨d,hd2,rfl⟩:=map_get hrow
    replace hd2:l[i]? = some d:=hd2
    clear hrow
    have hM:=ones_at (M:=onesL [] ([p.shared,p.locks].take j)) hd2
    obtain ⟨name,word,at_⟩:=d
    conv=>whnf
    exact ⟨i+1,[0,1,2,3,4,5,6],[],Sub.mk' rfl aut ⟨aut,aut,aut,aut,aut,⟨rfl,by rw [hM]; exact mput_T _ (.ks name) 1⟩,aut,trivial⟩ rfl rfl,hlt2,by omega⟩
   ·have hge2:l.length≤i:=by rw [List.length_map] at hge2; simpa using hge2
    rw [List.take_of_length_le hge2]
    conv=>whnf
    refine ⟨fun _ => ?_,fun h=>absurd rfl h⟩
    conv=>whnf
    exact ⟨j+1,[0,1,2,3,4,5,6],[],Sub.mk' rfl ⟨aut,aut,aut,aut,aut,.inl (ti_succ hlt (by omega)),trivial⟩ ⟨aut,aut,aut,aut,aut,⟨rfl,by rw [onesL_at hd]⟩,aut,trivial⟩ rfl rfl,hlt,by omega⟩
  ·have hge:2≤j:=by have:=of_decide_eq_false hge; omega
   rw [List.take_of_length_le (by exact hge)]
   conv=>whnf
   refine ⟨fun _ => ?_,fun h=>absurd rfl h⟩
   conv=>whnf
   exact ⟨(),[0,1,2,3,4,5],[],Sub.au,trivial⟩
 ·rintro _ - -
  conv=>whnf
  refine LoopL.by (fun i:Nat=>⟨[(0,.ptr 0 0),(3,.ptr 4 0),(4,.mp 5),(44,.tr (declsT locals)),(45,.tr (ti (locals.map Decl.cells).length)),(46,.tr (ti i))],[(0,walkN p (.mp 3)),(1,.map .string (mapT top)),(2,.map .string (mapT M0)),(3,.map .string (mapT (ones [] (locals.take i)))),(4,.cells 41 ((Thread.mk tname locals body tat).cells.map .tr)),(5,.map .string (mapT (aboveM p)))],6⟩)
   (fun i=>i≤locals.length∧localsW (aboveM p) locals 0 []=localsW (aboveM p) (locals.drop i) i (ones [] (locals.take i))) (fun i=>locals.length - i) 0 [0,1,2,3,4,5] [] Sub.au ⟨Nat.zero_le _,rfl⟩ ?_
  rintro i ⟨hi,hf⟩ -
  have hi:i≤locals.length:=hi
  conv=>whnf
  refine csplit (fun hlt => ?_) (fun hge => ?_)
  ·have hlt:i<locals.length:=by rw [List.length_map] at hlt; simpa using hlt
   conv=>whnf
   refine ⟨rfl,by omega,by rw [List.length_map]; omega,fun row hrow => ?_⟩
   obtain ⟨d,hd,rfl⟩:=map_get hrow
   replace hd:locals[i]? = some d:=hd
   rw [localsW_at hd] at hf
   clear hrow
   have hM:=ones_at (M:=[]) hd
   have hrl:localRules (aboveM p) (ones [] (locals.take i)) i d=[_,_,_,_]:=rfl
   obtain ⟨name,word,at_⟩:=d
   conv=>whnf
   refine acall.pure _ (k41 name) rfl rfl ?_
   conv=>whnf
   refine acall.pure _ (k57 1 (!nameB name)) rfl rfl ?_
   conv=>whnf
   rw [mgetZ]
   conv=>whnf
   rw [mgetZ]
   conv=>whnf
   refine acall.pure _ (k57 2 _) rfl rfl ?_
   conv=>whnf
   refine acall.pure _ (k57 3 _) rfl rfl ?_
   conv=>whnf
   refine acall.pure _ (k57 4 _) rfl rfl ?_
   conv=>whnf
   cases hb:decide (leastW (localRules (aboveM p) (ones [] (locals.take i)) i ⟨name,word,at_⟩) 0 > 0) with
   | true =>
    rw [hb] at hf
    have hE:threadW p top ⟨tname,locals,body,tat⟩=some ⟨at_,leastW (localRules (aboveM p) (ones [] (locals.take i)) i ⟨name,word,at_⟩) 0⟩:=by unfold threadW; rw [hf]; rfl
    rw [hE]
    refine acall.gen [] [41] _ _ _ _ (k56 at_ _ true hb) rfl rfl rfl rfl aut aut rfl rfl ?_
    conv=>whnf
    refine ⟨by kernel_rfl,by kernel_rfl,?_⟩
    conv=>whnf
    exact ⟨[0,1,2],rfl,rfl,⟨rfl,Or.inl rfl,Or.inl rfl,trivial⟩,trivial⟩
   | false =>
    rw [hb] at hf
    have hf:localsW (aboveM p) locals 0 []=localsW (aboveM p) (locals.drop (i+1)) (i+1) (ones [] (locals.take (i+1))):=by rw [hM]; exact hf
    refine acall.gen [] [41] _ _ _ _ (k56 at_ _ false hb) rfl rfl rfl rfl aut aut rfl rfl ?_
    conv=>whnf
    refine ⟨by kernel_rfl,fun _ => ?_⟩
    conv=>whnf
    refine ⟨by kernel_rfl,fun _ => ?_⟩
    conv=>whnf
    exact ⟨i+1,[0,1,2,3,4,5],[],Sub.mk' rfl aut ⟨aut,aut,aut,⟨rfl,by rw [hM]; exact mput_T _ (.ks name) 1⟩,aut,aut,trivial⟩ rfl rfl,⟨hlt,hf⟩,by omega⟩
  ·have hge:locals.length≤i:=by rw [List.length_map] at hge; simpa using hge
   rw [List.drop_eq_nil_of_le hge] at hf
   have hf:localsW (aboveM p) locals 0 []=none:=hf
   rw [List.take_of_length_le hge]
   have hE:threadW p top ⟨tname,locals,body,tat⟩=blockW top (ones [] locals) body 1:=by unfold threadW; rw [hf]
   rw [hE]
   conv=>whnf
   refine ⟨fun _ => ?_,fun h=>absurd rfl h⟩
   have hbd:=(k90_82 p top (ones [] locals) (SizeOf.sizeOf body+1)).2 body 1 (by omega)
   cases ho:blockW top (ones [] locals) body 1 with
   | some f =>
    rw [ho] at hbd
    refine acall.au [0,1,3] [] (hbd) ?_
    intro _
    conv=>whnf
    exact ⟨[0,1,2],rfl,rfl,⟨rfl,Or.inl rfl,Or.inl rfl,trivial⟩,trivial⟩
   | none =>
    rw [ho] at hbd
    refine acall.au [0,1,3] [] (hbd) ?_
    intro _
    conv=>whnf
    exact ⟨[0,1,2,3],rfl,rfl,trivial,aut⟩
end Go.Proofs.YthboippafkcoiaaGreatDoor.am
namespace Go.Proofs.YthboippafkcoiaaGreatDoor.am
open Go Go.Proofs
abbrev fltB (a b:Int):Blk := .cells 86 [.tr (ti a),.tr (ti b)]
theorem kd54r (a b:Int) (c:Bool) (at_ rule:Int):CtrD Tryz.prog 125 true [.ptr 0 0,.ptr 1 0] (brk at_ rule) [fltB a b,.cells 4 [.tr (tb c)]] [some (fltB at_ rule),some (.cells 4 [.tr (tb true)])]:=by
 refine CtrD.of hT hmix Tryz.func125 rfl (fun _ _=>by kernel_rfl) rfl rfl rfl rfl rfl rfl rfl (fun h=>by cases h) [] ?_
 conv=>whnf
 exact ⟨trivial,aut⟩
theorem kd54n (a b:Int) (c:Bool):CtrD Tryz.prog 125 false [.ptr 0 0,.ptr 1 0] (.tr (.v .nilIface)) [fltB a b,.cells 4 [.tr (tb c)]] [some (fltB a b),some (.cells 4 [.tr (tb c)])]:=by
 refine CtrD.of hT hmix Tryz.func125 rfl (fun _ _=>by kernel_rfl) rfl rfl rfl rfl rfl rfl rfl (fun _=>rfl) [] ?_
 conv=>whnf
 exact ⟨trivial,aut⟩
def topRules (seen:MI) (most:Int) (bad:Int→Bool) (i:Nat) (d:Decl):List Int :=
 [whenI 1 (!nameB d.name),whenI 2 (decide (mgetI seen (.ks d.name) > 0)),whenI 3 ((i:Int) == most),whenI 4 (bad d.word)]
def topsW (most:Int) (bad:Int→Bool):List Decl→Nat→MI→Option Flt
 | [],_,_=>none
 | d::l,i,M=>bif decide (leastW (topRules M most bad i d) 0 > 0) then some ⟨d.at_,leastW (topRules M most bad i d) 0⟩ else topsW most bad l (i+1) (mputI M (.ks d.name) 1)
theorem topsW_at {most:Int} {bad:Int→Bool} {M:MI} {l:List Decl} {i:Nat} {d:Decl} (h:l[i]? = some d) :
  topsW most bad (l.drop i) i M=bif decide (leastW (topRules M most bad i d) 0 > 0) then some ⟨d.at_,leastW (topRules M most bad i d) 0⟩ else topsW most bad (l.drop (i+1)) (i+1) (mputI M (.ks d.name) 1):=by
 rw [drop_cons h]; rfl
def thRules (seen:MI) (i:Nat) (t:Thread):List Int:=[whenI 1 (!nameB t.name),whenI 2 (decide (mgetI seen (.ks t.name) > 0)),whenI 3 ((i:Int) == 8)]
def thsW (p:Prg) (top:MI):List Thread→Nat→MI→Option Flt
 | [],_,_=>none
 | t::l,i,M=>bif decide (leastW (thRules M i t) 0 > 0) then some ⟨t.at_,leastW (thRules M i t) 0⟩ else match threadW p top t with
  | some f=>some f
  | none=>thsW p top l (i+1) (mputI M (.ks t.name) 1)
theorem thsW_at {p:Prg} {top M:MI} {l:List Thread} {i:Nat} {t:Thread} (h:l[i]? = some t) :
  thsW p top (l.drop i) i M=bif decide (leastW (thRules M i t) 0 > 0) then some ⟨t.at_,leastW (thRules M i t) 0⟩ else match threadW p top t with
  | some f=>some f
  | none=>thsW p top (l.drop (i+1)) (i+1) (mputI M (.ks t.name) 1):=by
 rw [drop_cons h]; rfl
def onesT (M:MI) (l:List Thread):MI:=l.foldl (fun M d=>mputI M (.ks d.name) 1) M
theorem onesT_at {M:MI} {l:List Thread} {i:Nat} {d:Thread} (h:l[i]? = some d):onesT M (l.take (i+1))=mputI (onesT M (l.take i)) (.ks d.name) 1:=by
 rw [take_snoc h]; simp [onesT]
def minW (w:Int):Bool:=w == -9223372036854775808
def anyW (w:Int):Bool:=w != 0
def firstW (p:Prg):Option Flt :=
 match topsW 64 minW p.shared 0 [] with
 | some f=>some f
 | none=>match topsW 16 anyW p.locks 0 (ones [] p.shared) with
  | some f=>some f
  | none=>thsW p (topOf p) p.threads 0 (ones (ones [] p.shared) p.locks)
def fltOf:Option Flt→Flt | some f=>f | none=>⟨0,0⟩
abbrev walkM (p:Prg) (a:AV):Blk := .cells 179 [.tr (declsT p.shared),.tr (declsT p.locks),.tr (threadsT p.threads),.mp 4,a]
theorem k29 (p:Prg):K 83 [p.av] [] (.ret (.tup [Flt.av (fltOf (firstW p)),.tr (tb (firstW p).isSome)])) []:=by
 refine Ctr.guard [] hT hmix Tryz.func83 rfl (fun _ _=>by kernel_rfl) rfl rfl rfl rfl rfl rfl rfl fun hok => ?_
 have hl0:=((hok.slot 0 rfl).agg _ (.head _)).tr.lst.2.1
 have hl1:=((hok.slot 0 rfl).agg _ (.tail _ (.head _))).tr.lst.2.1
 have hl2:=((hok.slot 0 rfl).agg _ (.tail _ (.tail _ (.head _)))).tr.lst.2.1
 rw [List.length_map] at hl0 hl1 hl2
 clear hok
 conv=>whnf
 refine ⟨rfl,rfl,_,rfl,?_⟩
 conv=>whnf
 refine acall.new [] [] _ _ _ _ (k55 p) rfl rfl rfl rfl aut aut rfl rfl ?_
 conv=>whnf
 refine ⟨by kernel_rfl,fun _ => ?_⟩
 conv=>whnf
 refine LoopL.by (fun i:Nat=>⟨[(1,.ptr 0 0),(2,.ptr 1 0),(3,.ptr 2 0),(4,.ptr 3 0),(5,.mp 5),(20,.tr (declsT p.shared)),(21,.tr (ti (p.shared.map Decl.cells).length)),(22,.tr (ti i))],[(0,.cells 25 [.tr (declsT p.shared),.tr (declsT p.locks),.tr (threadsT p.threads)]),(1,fltB 0 0),(2,.cells 4 [.tr (tb false)]),(3,walkM p (.tr (.v (.map none)))),(4,.map .string (mapT (topOf p))),(5,.map .string (mapT (ones [] (p.shared.take i))))],6⟩)
  (fun i=>i≤p.shared.length∧topsW 64 minW p.shared 0 []=topsW 64 minW (p.shared.drop i) i (ones [] (p.shared.take i))) (fun i=>p.shared.length - i) 0 [0,1,2,7,5,9] [] Sub.au ⟨Nat.zero_le _,rfl⟩ ?_
 rintro i ⟨hi,hf⟩ -
 have hi:i≤p.shared.length:=hi
 conv=>whnf
 refine csplit (fun hlt => ?_) (fun hge => ?_)
 ·have hlt:i<p.shared.length:=by rw [List.length_map] at hlt; simpa using hlt
  conv=>whnf
  refine ⟨rfl,by omega,by rw [List.length_map]; omega,fun row hrow => ?_⟩
  obtain ⟨d,hd,rfl⟩:=map_get hrow
  replace hd:p.shared[i]? = some d:=hd
  rw [topsW_at hd] at hf
  clear hrow
  have hM:=ones_at (M:=[]) hd
  obtain ⟨name,word,at_⟩:=d
  conv=>whnf
  refine acall.pure _ (k41 name) rfl rfl ?_
  conv=>whnf
  refine acall.pure _ (k57 1 (!nameB name)) rfl rfl ?_
  conv=>whnf
  rw [mgetZ]
  conv=>whnf
  refine acall.pure _ (k57 2 _) rfl rfl ?_
  conv=>whnf
  refine acall.pure _ (k57 3 _) rfl rfl ?_
  conv=>whnf
  refine acall.pure _ (k57 4 _) rfl rfl ?_
  conv=>whnf
  cases hb:decide (leastW (topRules (ones [] (p.shared.take i)) 64 minW i ⟨name,word,at_⟩) 0 > 0) with
  | true =>
   rw [hb] at hf
   have hE:firstW p=some ⟨at_,leastW (topRules (ones [] (p.shared.take i)) 64 minW i ⟨name,word,at_⟩) 0⟩:=by unfold firstW; rw [hf]; rfl
   refine acall.gen [] [33] _ _ _ _ (k56 at_ _ true hb) rfl rfl rfl rfl aut aut rfl rfl ?_
   rw [hE]
   conv=>whnf
   refine ⟨by kernel_rfl,by kernel_rfl,?_⟩
   conv=>whnf
   refine Dend.by [1,2] [] (kd54r 0 0 false at_ _) rfl rfl rfl rfl aut aut rfl [] rfl rfl ?_
   conv=>whnf
   exact ⟨⟨⟨Or.inl rfl,Or.inl rfl,trivial⟩,Or.inl rfl,trivial⟩,trivial⟩
  | false =>
   rw [hb] at hf
   have hf:topsW 64 minW p.shared 0 []=topsW 64 minW (p.shared.drop (i+1)) (i+1) (ones [] (p.shared.take (i+1))):=by rw [hM]; exact hf
   refine acall.gen [] [33] _ _ _ _ (k56 at_ _ false hb) rfl rfl rfl rfl aut aut rfl rfl ?_
   conv=>whnf
   refine ⟨by kernel_rfl,fun _ => ?_⟩
   conv=>whnf
   exact ⟨i+1,[0,1,2,3,4,5],[],Sub.mk' rfl aut ⟨aut,aut,aut,aut,aut,⟨rfl,by rw [hM]; exact mput_T _ (.ks name) 1⟩,trivial⟩ rfl rfl,⟨hlt,hf⟩,by omega⟩
 have hge:p.shared.length≤i:=by rw [List.length_map] at hge; simpa using hge
 rw [List.drop_eq_nil_of_le hge] at hf
 have f1:topsW 64 minW p.shared 0 []=none:=hf
 clear hf
 rw [List.take_of_length_le hge]
 conv=>whnf
 refine ⟨fun _ => ?_,fun h=>absurd rfl h⟩
 conv=>whnf
 refine LoopL.by (fun i:Nat=>⟨[(1,.ptr 0 0),(2,.ptr 1 0),(3,.ptr 2 0),(4,.ptr 3 0),(5,.mp 5),(54,.tr (declsT p.locks)),(55,.tr (ti (p.locks.map Decl.cells).length)),(56,.tr (ti i))],[(0,.cells 25 [.tr (declsT p.shared),.tr (declsT p.locks),.tr (threadsT p.threads)]),(1,fltB 0 0),(2,.cells 4 [.tr (tb false)]),(3,walkM p (.tr (.v (.map none)))),(4,.map .string (mapT (topOf p))),(5,.map .string (mapT (ones (ones [] p.shared) (p.locks.take i))))],6⟩)
  (fun i=>i≤p.locks.length∧topsW 16 anyW p.locks 0 (ones [] p.shared)=topsW 16 anyW (p.locks.drop i) i (ones (ones [] p.shared) (p.locks.take i))) (fun i=>p.locks.length - i) 0 [0,1,2,3,4,5] [] Sub.au ⟨Nat.zero_le _,rfl⟩ ?_
 rintro i ⟨hi,hf⟩ -
 have hi:i≤p.locks.length:=hi
 conv=>whnf
 refine csplit (fun hlt => ?_) (fun hge => ?_)
 ·have hlt:i<p.locks.length:=by rw [List.length_map] at hlt; simpa using hlt
  conv=>whnf
  refine ⟨rfl,by omega,by rw [List.length_map]; omega,fun row hrow => ?_⟩
  obtain ⟨d,hd,rfl⟩:=map_get hrow
  replace hd:p.locks[i]? = some d:=hd
  rw [topsW_at hd] at hf
  clear hrow
  have hM:=ones_at (M:=(ones [] p.shared)) hd
  obtain ⟨name,word,at_⟩:=d
  conv=>whnf
  refine acall.pure _ (k41 name) rfl rfl ?_
  conv=>whnf
  refine acall.pure _ (k57 1 (!nameB name)) rfl rfl ?_
  conv=>whnf
  rw [mgetZ]
  conv=>whnf
  refine acall.pure _ (k57 2 _) rfl rfl ?_
  conv=>whnf
  refine acall.pure _ (k57 3 _) rfl rfl ?_
  conv=>whnf
  refine acall.pure _ (k57 4 _) rfl rfl ?_
  conv=>whnf
  cases hb:decide (leastW (topRules (ones (ones [] p.shared) (p.locks.take i)) 16 anyW i ⟨name,word,at_⟩) 0 > 0) with
  | true =>
   rw [hb] at hf
   have hE:firstW p=some ⟨at_,leastW (topRules (ones (ones [] p.shared) (p.locks.take i)) 16 anyW i ⟨name,word,at_⟩) 0⟩:=by unfold firstW; rw [f1,hf]; rfl
   refine acall.gen [] [33] _ _ _ _ (k56 at_ _ true hb) rfl rfl rfl rfl aut aut rfl rfl ?_
   rw [hE]
   conv=>whnf
   refine ⟨by kernel_rfl,by kernel_rfl,?_⟩
   conv=>whnf
   refine Dend.by [1,2] [] (kd54r 0 0 false at_ _) rfl rfl rfl rfl aut aut rfl [] rfl rfl ?_
   conv=>whnf
   exact ⟨⟨⟨Or.inl rfl,Or.inl rfl,trivial⟩,Or.inl rfl,trivial⟩,trivial⟩
  | false =>
   rw [hb] at hf
   have hf:topsW 16 anyW p.locks 0 (ones [] p.shared)=topsW 16 anyW (p.locks.drop (i+1)) (i+1) (ones (ones [] p.shared) (p.locks.take (i+1))):=by rw [hM]; exact hf
   refine acall.gen [] [33] _ _ _ _ (k56 at_ _ false hb) rfl rfl rfl rfl aut aut rfl rfl ?_
   conv=>whnf
   refine ⟨by kernel_rfl,fun _ => ?_⟩
   conv=>whnf
   exact ⟨i+1,[0,1,2,3,4,5],[],Sub.mk' rfl aut ⟨aut,aut,aut,aut,aut,⟨rfl,by rw [hM]; exact mput_T _ (.ks name) 1⟩,trivial⟩ rfl rfl,⟨hlt,hf⟩,by omega⟩
 have hge:p.locks.length≤i:=by rw [List.length_map] at hge; simpa using hge
 rw [List.drop_eq_nil_of_le hge] at hf
 have f2:topsW 16 anyW p.locks 0 (ones [] p.shared)=none:=hf
 clear hf
 rw [List.take_of_length_le hge]
 conv=>whnf
 refine ⟨fun _ => ?_,fun h=>absurd rfl h⟩
 conv=>whnf
 refine LoopL.by (fun x:Option (Nat × MI)=>match x with
   | none=>⟨[(1,.ptr 0 0),(2,.ptr 1 0),(3,.ptr 2 0),(4,.ptr 3 0),(5,.mp 5),(88,.tr (threadsT p.threads)),(89,.tr (ti (p.threads.map Thread.cells).length)),(90,.tr (ti (0:Nat)))],[(0,.cells 25 [.tr (declsT p.shared),.tr (declsT p.locks),.tr (threadsT p.threads)]),(1,fltB 0 0),(2,.cells 4 [.tr (tb false)]),(3,walkM p (.tr (.v (.map none)))),(4,.map .string (mapT (topOf p))),(5,.map .string (mapT (onesT (ones (ones [] p.shared) p.locks) (p.threads.take 0))))],6⟩
   | some (i,M0)=>⟨[(1,.ptr 0 0),(2,.ptr 1 0),(3,.ptr 2 0),(4,.ptr 3 0),(5,.mp 5),(88,.tr (threadsT p.threads)),(89,.tr (ti (p.threads.map Thread.cells).length)),(90,.tr (ti i))],[(0,.cells 25 [.tr (declsT p.shared),.tr (declsT p.locks),.tr (threadsT p.threads)]),(1,fltB 0 0),(2,.cells 4 [.tr (tb false)]),(3,walkM p (.mp 6)),(4,.map .string (mapT (topOf p))),(5,.map .string (mapT (onesT (ones (ones [] p.shared) p.locks) (p.threads.take i)))),(6,.map .string (mapT M0))],7⟩)
  (fun x=>let i:=(x.map (·.1)).getD 0; i≤p.threads.length∧firstW p=thsW p (topOf p) (p.threads.drop i) i (onesT (ones (ones [] p.shared) p.locks) (p.threads.take i))) (fun x=>p.threads.length - (x.map (·.1)).getD 0) none [0,1,2,3,4,5] [] Sub.au ⟨Nat.zero_le _,by unfold firstW; rw [f1,f2]; rfl⟩ ?_
 rintro x ⟨hi,hf⟩ -
 cases x with
 | none =>
  have hi:0≤p.threads.length:=hi
  have hf:firstW p=thsW p (topOf p) (p.threads.drop 0) 0 (onesT (ones (ones [] p.shared) p.locks) (p.threads.take 0)):=hf
  conv=>whnf
  refine csplit (fun hlt => ?_) (fun hge => ?_)
  ·have hlt:0<p.threads.length:=by rw [List.length_map] at hlt; have:=of_decide_eq_true hlt; omega
   conv=>whnf
   refine ⟨rfl,by omega,by rw [List.length_map]; omega,fun row hrow => ?_⟩
   obtain ⟨t,hd,rfl⟩:=map_get hrow
   replace hd:p.threads[0]? = some t:=hd
   rw [thsW_at hd] at hf
   clear hrow
   have hM:=onesT_at (M:=(ones (ones [] p.shared) p.locks)) hd
   obtain ⟨name,locals,body,at_⟩:=t
   conv=>whnf
   refine acall.pure _ (k41 name) rfl rfl ?_
   conv=>whnf
   refine acall.pure _ (k57 1 (!nameB name)) rfl rfl ?_
   conv=>whnf
   rw [mgetZ]
   conv=>whnf
   refine acall.pure _ (k57 2 _) rfl rfl ?_
   conv=>whnf
   refine acall.pure _ (k57 3 _) rfl rfl ?_
   conv=>whnf
   cases hb:decide (leastW (thRules (onesT (ones (ones [] p.shared) p.locks) (p.threads.take 0)) 0 ⟨name,locals,body,at_⟩) 0 > 0) with
   | true =>
    rw [hb] at hf
    have hE:firstW p=some ⟨at_,leastW (thRules (onesT (ones (ones [] p.shared) p.locks) (p.threads.take 0)) 0 ⟨name,locals,body,at_⟩) 0⟩:=hf
    refine acall.gen [] [29] _ _ _ _ (k56 at_ _ true hb) rfl rfl rfl rfl aut aut rfl rfl ?_
    rw [hE]
    conv=>whnf
    refine ⟨by kernel_rfl,by kernel_rfl,?_⟩
    conv=>whnf
    refine Dend.by [1,2] [] (kd54r 0 0 false at_ _) rfl rfl rfl rfl aut aut rfl [] rfl rfl ?_
    conv=>whnf
    exact ⟨⟨⟨Or.inl rfl,Or.inl rfl,trivial⟩,Or.inl rfl,trivial⟩,trivial⟩
   | false =>
    rw [hb] at hf
    refine acall.gen [] [29] _ _ _ _ (k56 at_ _ false hb) rfl rfl rfl rfl aut aut rfl rfl ?_
    conv=>whnf
    refine ⟨by kernel_rfl,fun _ => ?_⟩
    conv=>whnf
    have hth:=k58a p (topOf p) ⟨name,locals,body,at_⟩
    cases ho:threadW p (topOf p) ⟨name,locals,body,at_⟩ with
    | some f =>
     rw [ho] at hth hf
     have hE:firstW p=some f:=hf
     refine acall.gen [3,4] [] _ _ _ _ hth rfl rfl rfl rfl aut ⟨aut,⟨rfl,rfl⟩,trivial⟩ rfl rfl fun _ => ?_
     rw [hE]
     conv=>whnf
     refine Dend.by [1,2] [] (kd54r 0 0 false f.at_ f.rule) rfl rfl rfl rfl aut aut rfl [] rfl rfl ?_
     conv=>whnf
     exact ⟨⟨⟨Or.inl rfl,Or.inl rfl,trivial⟩,Or.inl rfl,trivial⟩,trivial⟩
    | none =>
     rw [ho] at hth hf
     refine acall.new [3,4] [] _ _ _ _ hth rfl rfl rfl rfl aut ⟨aut,⟨rfl,rfl⟩,trivial⟩ rfl rfl fun _ => ?_
     conv=>whnf
     exact ⟨some (0+1,ones [] locals),[0,1,2,3,4,5,37],[],Sub.mk' rfl aut ⟨aut,aut,aut,aut,aut,⟨rfl,by rw [hM]; exact mput_T _ (.ks name) 1⟩,aut,trivial⟩ rfl rfl,⟨hlt,by show firstW p=thsW p (topOf p) (p.threads.drop (0+1)) (0+1) (onesT (ones (ones [] p.shared) p.locks) (p.threads.take (0+1))); rw [hM]; exact hf⟩,by show p.threads.length - (0+1)<p.threads.length - 0; omega⟩
  ·have hge:p.threads.length≤0:=by rw [List.length_map] at hge; have:=of_decide_eq_false hge; omega
   rw [List.drop_eq_nil_of_le hge] at hf
   have hE:firstW p=none:=hf
   rw [hE]
   conv=>whnf
   refine ⟨fun _ => ?_,fun h=>absurd rfl h⟩
   conv=>whnf
   refine Dend.by [1,2] [] (kd54n 0 0 false) rfl rfl rfl rfl aut aut rfl [] rfl rfl ?_
   conv=>whnf
   exact ⟨⟨⟨Or.inl rfl,Or.inl rfl,trivial⟩,Or.inl rfl,trivial⟩,trivial⟩
 | some x =>
  obtain ⟨i,M0⟩:=x
  have hi:i≤p.threads.length:=hi
  have hf:firstW p=thsW p (topOf p) (p.threads.drop i) i (onesT (ones (ones [] p.shared) p.locks) (p.threads.take i)):=hf
  conv=>whnf
  refine csplit (fun hlt => ?_) (fun hge => ?_)
  ·have hlt:i<p.threads.length:=by rw [List.length_map] at hlt; have:=of_decide_eq_true hlt; omega
   conv=>whnf
   refine ⟨rfl,by omega,by rw [List.length_map]; omega,fun row hrow => ?_⟩
   obtain ⟨t,hd,rfl⟩:=map_get hrow
   replace hd:p.threads[i]? = some t:=hd
   rw [thsW_at hd] at hf
   clear hrow
   have hM:=onesT_at (M:=(ones (ones [] p.shared) p.locks)) hd
   obtain ⟨name,locals,body,at_⟩:=t
   conv=>whnf
   refine acall.pure _ (k41 name) rfl rfl ?_
   conv=>whnf
   refine acall.pure _ (k57 1 (!nameB name)) rfl rfl ?_
   conv=>whnf
   rw [mgetZ]
   conv=>whnf
   refine acall.pure _ (k57 2 _) rfl rfl ?_
   conv=>whnf
   refine acall.pure _ (k57 3 _) rfl rfl ?_
   conv=>whnf
   cases hb:decide (leastW (thRules (onesT (ones (ones [] p.shared) p.locks) (p.threads.take i)) i ⟨name,locals,body,at_⟩) 0 > 0) with
   | true =>
    rw [hb] at hf
    have hE:firstW p=some ⟨at_,leastW (thRules (onesT (ones (ones [] p.shared) p.locks) (p.threads.take i)) i ⟨name,locals,body,at_⟩) 0⟩:=hf
    refine acall.gen [] [30] _ _ _ _ (k56 at_ _ true hb) rfl rfl rfl rfl aut aut rfl rfl ?_
    rw [hE]
    conv=>whnf
    refine ⟨by kernel_rfl,by kernel_rfl,?_⟩
    conv=>whnf
    refine Dend.by [1,2] [] (kd54r 0 0 false at_ _) rfl rfl rfl rfl aut aut rfl [] rfl rfl ?_
    conv=>whnf
    exact ⟨⟨⟨Or.inl rfl,Or.inl rfl,trivial⟩,Or.inl rfl,trivial⟩,trivial⟩
   | false =>
    rw [hb] at hf
    refine acall.gen [] [30] _ _ _ _ (k56 at_ _ false hb) rfl rfl rfl rfl aut aut rfl rfl ?_
    conv=>whnf
    refine ⟨by kernel_rfl,fun _ => ?_⟩
    conv=>whnf
    have hth:=k58b p (topOf p) M0 ⟨name,locals,body,at_⟩
    cases ho:threadW p (topOf p) ⟨name,locals,body,at_⟩ with
    | some f =>
     rw [ho] at hth hf
     have hE:firstW p=some f:=hf
     refine acall.gen [3,4,6] [] _ _ _ _ hth rfl rfl rfl rfl aut ⟨aut,⟨rfl,rfl⟩,⟨rfl,rfl⟩,trivial⟩ rfl rfl fun _ => ?_
     rw [hE]
     conv=>whnf
     refine Dend.by [1,2] [] (kd54r 0 0 false f.at_ f.rule) rfl rfl rfl rfl aut aut rfl [] rfl rfl ?_
     conv=>whnf
     exact ⟨⟨⟨Or.inl rfl,Or.inl rfl,trivial⟩,Or.inl rfl,trivial⟩,trivial⟩
    | none =>
     rw [ho] at hth hf
     refine acall.new [3,4,6] [] _ _ _ _ hth rfl rfl rfl rfl aut ⟨aut,⟨rfl,rfl⟩,⟨rfl,rfl⟩,trivial⟩ rfl rfl fun _ => ?_
     conv=>whnf
     exact ⟨some (i+1,ones [] locals),[0,1,2,3,4,5,38],[],Sub.mk' rfl aut ⟨aut,aut,aut,aut,aut,⟨rfl,by rw [hM]; exact mput_T _ (.ks name) 1⟩,aut,trivial⟩ rfl rfl,⟨hlt,by show firstW p=thsW p (topOf p) (p.threads.drop (i+1)) (i+1) (onesT (ones (ones [] p.shared) p.locks) (p.threads.take (i+1))); rw [hM]; exact hf⟩,by show p.threads.length - (i+1)<p.threads.length - i; omega⟩
  ·have hge:p.threads.length≤i:=by rw [List.length_map] at hge; have:=of_decide_eq_false hge; omega
   rw [List.drop_eq_nil_of_le hge] at hf
   have hE:firstW p=none:=hf
   rw [hE]
   conv=>whnf
   refine ⟨fun _ => ?_,fun h=>absurd rfl h⟩
   conv=>whnf
   refine Dend.by [1,2] [] (kd54n 0 0 false) rfl rfl rfl rfl aut aut rfl [] rfl rfl ?_
   conv=>whnf
   exact ⟨⟨⟨Or.inl rfl,Or.inl rfl,trivial⟩,Or.inl rfl,trivial⟩,trivial⟩
def checkW (p:Prg):Int × Flt:=match firstW p with
 | some f=>(50,f)
 | none=>(0,⟨0,0⟩)
theorem k10 (p:Prg):K 40 [p.av] [] (.ret (.tup [.tr (ti (checkW p).1),Flt.av (checkW p).2])) []:=by
 refine Ctr.of hT hmix Tryz.func40 rfl (fun _ _=>by kernel_rfl) rfl fun hok => ?_
 clear hok
 have hk:=k29 p
 unfold checkW
 cases hE:firstW p with
 | some f =>
  rw [hE] at hk
  conv=>whnf
  refine acall.pure _ (hk) rfl rfl fun _ => ?_
  conv=>whnf
  refine ⟨by kernel_rfl,fun _ => ?_⟩
  conv=>whnf
  exact ⟨⟨Or.inl rfl,⟨Or.inl rfl,Or.inl rfl,trivial⟩,trivial⟩,trivial⟩
 | none =>
  rw [hE] at hk
  conv=>whnf
  refine acall.pure _ (hk) rfl rfl fun _ => ?_
  conv=>whnf
  exact ⟨⟨Or.inl rfl,⟨Or.inl rfl,Or.inl rfl,trivial⟩,trivial⟩,trivial⟩
end Go.Proofs.YthboippafkcoiaaGreatDoor.am
namespace Go.Proofs.YthboippafkcoiaaGreatDoor.am
open Go Go.Proofs
abbrev strB (s:ByteArray):Blk := .cells 9 [.tr (ts s)]
theorem k68 (d:Decl) (name:ByteArray):K 178 [d.av,.ptr 0 0] [strB name] (.ret (.tr (tb (seq d.name name)))) [some (strB name)]:=by
 refine Ctr.of hT hmix Tryz.func178 rfl (fun _ _=>by kernel_rfl) rfl fun hok => ?_
 clear hok
 obtain ⟨n,w,a⟩:=d
 conv=>whnf
 exact ⟨Or.inl rfl,aut⟩
theorem k67 (l:List Decl) (name:ByteArray):K 177 [.tr (declsT l),.fn 178 [.ptr 0 0]] [strB name] (.ret (.tr (ti (findI l name 0)))) [some (strB name)]:=by
 refine Ctr.of hT hmix Tryz.func177 rfl (fun _ _=>by kernel_rfl) rfl fun hok => ?_
 have hl:=(hok.slot 0 rfl).tr.lst.2.1
 rw [List.length_map] at hl
 clear hok
 conv=>whnf
 refine LoopL.by (fun i:Nat=>⟨[(0,.tr (declsT l)),(1,.fn 178 [.ptr 0 0]),(7,.tr (ti (l.map Decl.cells).length)),(8,.tr (ti i))],[(0,strB name)],1⟩)
  (fun i=>i≤l.length∧findI l name 0=findI (l.drop i) name i) (fun i=>l.length - i) 0 [0] [] Sub.au ⟨Nat.zero_le _,rfl⟩ ?_
 rintro i ⟨hi,hf⟩ -
 conv=>whnf
 refine csplit (fun hlt => ?_) (fun hge => ?_)
 ·have hlt:i<l.length:=by rw [List.length_map] at hlt; simpa using hlt
  conv=>whnf
  refine ⟨rfl,by omega,by rw [List.length_map]; omega,fun row hrow => ?_⟩
  obtain ⟨d,hd,rfl⟩:=map_get hrow
  replace hd:l[i]? = some d:=hd
  rw [findI_at hd] at hf
  clear hrow
  obtain ⟨n,w,a⟩:=d
  conv=>whnf
  refine acall.gen [0] [] _ _ _ _ (k68 ⟨n,w,a⟩ name) rfl rfl rfl rfl aut aut rfl rfl fun _ => ?_
  conv=>whnf
  refine csplit (fun h1 => ?_) (fun h1 => ?_)
  ·conv=>whnf
   have h1:seq n name=true:=h1
   exact ⟨Or.inl (congrArg ti (by rw [hf,if_pos h1])),aut⟩
  ·conv=>whnf
   have h1 : ¬ seq n name=true:=by rw [show seq n name=false from h1]; simp
   exact ⟨i+1,[0],[],Sub.au,⟨hlt,by rw [hf,if_neg h1]⟩,by omega⟩
 ·have hge:l.length≤i:=by rw [List.length_map] at hge; simpa using hge
  rw [List.drop_eq_nil_of_le hge] at hf
  conv=>whnf
  refine ⟨fun _ => ?_,fun h=>absurd rfl h⟩
  conv=>whnf
  exact ⟨Or.inl (congrArg ti (by rw [hf]; rfl)),aut⟩
theorem k38 (l:List Decl) (name:ByteArray):K 163 [.tr (declsT l),.tr (ts name)] [] (.ret (.tr (ti (findI l name 0)))) []:=by
 refine Ctr.of hT hmix Tryz.func163 rfl (fun _ _=>by kernel_rfl) rfl fun hok => ?_
 clear hok
 conv=>whnf
 refine acall.gen [0] [] _ _ _ _ (k67 l name) rfl rfl rfl rfl aut aut rfl rfl fun _ => ?_
 conv=>whnf
 exact ⟨Or.inl rfl,trivial⟩
theorem k16 (p:Prg) (name:ByteArray):K 132 [p.av,.tr (ts name)] [] (.ret (.tr (ti (findI p.shared name 0)))) []:=by
 refine Ctr.of hT hmix Tryz.func132 rfl (fun _ _=>by kernel_rfl) rfl fun hok => ?_
 clear hok
 conv=>whnf
 refine acall.pure _ (k38 p.shared name) rfl rfl fun _ => ?_
 conv=>whnf
 exact ⟨Or.inl rfl,trivial⟩
theorem k20 (p:Prg) (t:Int) (name:ByteArray):K 133 [p.av,.tr (ti t),.tr (ts name)] [] (.ret (.tr (ti (localI p t name)))) []:=by
 refine Ctr.of hT hmix Tryz.func133 rfl (fun _ _=>by kernel_rfl) rfl fun hok => ?_
 have hl:=((hok.slot 0 rfl).agg _ (.tail _ (.tail _ (.head _)))).tr.lst.2.1
 rw [List.length_map] at hl
 clear hok
 conv=>whnf
 refine csplit (fun h1 => ?_) (fun h1 => ?_)
 ·conv=>whnf
  have h1:t<0:=of_decide_eq_true h1
  exact ⟨Or.inl (congrArg ti (by unfold localI; rw [if_pos h1])),trivial⟩
 have h1 : ¬ t<0:=of_decide_eq_false h1
 conv=>whnf
 refine csplit (fun h2 => ?_) (fun h2 => ?_)
 ·conv=>whnf
  have h2:(p.threads.length:Int)≤t:=by have:=of_decide_eq_true h2; rw [List.length_map] at this; exact this
  have:p.threads[t.toNat]? = none:=List.getElem?_eq_none (by omega)
  exact ⟨Or.inl (congrArg ti (by unfold localI; rw [if_neg h1,this])),trivial⟩
 have h2 : ¬ (p.threads.length:Int)≤t:=by have:=of_decide_eq_false h2; rw [List.length_map] at this; exact this
 conv=>whnf
 refine ⟨rfl,by omega,by rw [List.length_map]; omega,fun row hrow => ?_⟩
 obtain ⟨d,hd,rfl⟩:=map_get hrow
 clear hrow
 have hE:localI p t name=findI d.locals name 0:=by unfold localI; rw [if_neg h1,hd]
 obtain ⟨n,ls,b,a⟩:=d
 conv=>whnf
 refine acall.pure _ (k38 ls name) rfl rfl fun _ => ?_
 conv=>whnf
 exact ⟨Or.inl (congrArg ti (by rw [hE])),trivial⟩
end Go.Proofs.YthboippafkcoiaaGreatDoor.am
namespace Go.Proofs.YthboippafkcoiaaGreatDoor.am
open Go Go.Proofs
theorem k18 (p:Prg) (name:ByteArray):K 137 [p.av,.tr (ts name)] [] (.ret (.tr (ti (findI p.locks name 0)))) []:=by
 refine Ctr.of hT hmix Tryz.func137 rfl (fun _ _=>by kernel_rfl) rfl fun hok => ?_
 clear hok
 conv=>whnf
 refine acall.pure _ (k38 p.locks name) rfl rfl fun _ => ?_
 conv=>whnf
 exact ⟨Or.inl rfl,trivial⟩
end Go.Proofs.YthboippafkcoiaaGreatDoor.am
