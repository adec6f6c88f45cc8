/- The types of the translation, as the abstract machine has them (printed by gen_ty.py). Contracts of target: the kinds and fields of instructions. -/
import Derived.Test.YtbflekglkkdipaaGreatDoorW4
import Derived.Test.YtbflekglkkdipaaGreatDoorProg
import Derived.KernelRfl
import Derived.Test.YtbflekglkkdipaaGreatDoorW5
set_option linter.all false
namespace Go.Proofs.YtbflekglkkdipaaGreatDoor.am
open Go
set_option maxRecDepth 100000 in
def T:Ty:=[
 (1,⟨.func,1,8,[.f],false⟩),
 (2,⟨.int .i64,1,8,[.i .i64],false⟩),
 (3,⟨.int .i64,1,8,[.i .i64],false⟩),
 (4,⟨.bool,1,1,[.b],false⟩),
 (5,⟨.int .u8,1,1,[.i .u8],false⟩),
 (9,⟨.string,1,16,[.s],false⟩),
 (12,⟨.int .u64,1,8,[.i .u64],false⟩),
 (15,⟨.ptr 219,1,8,[.p],false⟩),
 (16,⟨.ptr 222,1,8,[.p],false⟩),
 (20,⟨.iface,1,16,[.n],false⟩),
 (21,⟨.int .i32,1,4,[.i .i32],false⟩),
 (22,⟨.slice 2,1,24,[.sl],false⟩),
 (23,⟨.slice 82,1,24,[.sl],false⟩),
 (24,⟨.struct [(22,0),(3,1),(3,2),(3,3),(23,4)],5,72,[.sl,.i .i64,.i .i64,.i .i64,.sl],true⟩),
 (25,⟨.struct [(22,0),(3,1),(3,2),(3,3),(23,4)],5,72,[.sl,.i .i64,.i .i64,.i .i64,.sl],true⟩),
 (26,⟨.slice 34,1,24,[.sl],false⟩),
 (27,⟨.slice 52,1,24,[.sl],false⟩),
 (28,⟨.func,1,8,[.f],false⟩),
 (29,⟨.int .i64,1,8,[.i .i64],false⟩),
 (31,⟨.func,1,8,[.f],false⟩),
 (32,⟨.int .u8,1,1,[.i .u8],false⟩),
 (33,⟨.struct [(32,0),(3,1)],2,16,[.i .u8,.i .i64],true⟩),
 (34,⟨.struct [(32,0),(3,1)],2,16,[.i .u8,.i .i64],true⟩),
 (35,⟨.func,1,8,[.f],false⟩),
 (36,⟨.func,1,8,[.f],false⟩),
 (38,⟨.func,1,8,[.f],false⟩),
 (39,⟨.func,1,8,[.f],false⟩),
 (40,⟨.struct [(3,0),(3,1)],2,16,[.i .i64,.i .i64],true⟩),
 (41,⟨.struct [(3,0),(3,1)],2,16,[.i .i64,.i .i64],true⟩),
 (42,⟨.slice 41,1,24,[.sl],false⟩),
 (44,⟨.func,1,8,[.f],false⟩),
 (46,⟨.func,1,8,[.f],false⟩),
 (47,⟨.func,1,8,[.f],false⟩),
 (49,⟨.func,1,8,[.f],false⟩),
 (50,⟨.func,1,8,[.f],false⟩),
 (51,⟨.struct [(3,0),(2,1)],2,16,[.i .i64,.i .i64],true⟩),
 (52,⟨.struct [(3,0),(2,1)],2,16,[.i .i64,.i .i64],true⟩),
 (53,⟨.func,1,8,[.f],false⟩),
 (54,⟨.func,1,8,[.f],false⟩),
 (55,⟨.func,1,8,[.f],false⟩),
 (56,⟨.func,1,8,[.f],false⟩),
 (57,⟨.ptr 103,1,8,[.p],false⟩),
 (59,⟨.func,1,8,[.f],false⟩),
 (60,⟨.func,1,8,[.f],false⟩),
 (61,⟨.func,1,8,[.f],false⟩),
 (62,⟨.ptr 65,1,8,[.p],false⟩),
 (63,⟨.slice 69,1,24,[.sl],false⟩),
 (64,⟨.struct [(63,0),(3,1)],2,32,[.sl,.i .i64],true⟩),
 (65,⟨.struct [(63,0),(3,1)],2,32,[.sl,.i .i64],true⟩),
 (66,⟨.func,1,8,[.f],false⟩),
 (67,⟨.func,1,8,[.f],false⟩),
 (68,⟨.struct [(34,0),(3,2),(3,3)],4,32,[.i .u8,.i .i64,.i .i64,.i .i64],true⟩),
 (69,⟨.struct [(34,0),(3,2),(3,3)],4,32,[.i .u8,.i .i64,.i .i64,.i .i64],true⟩),
 (70,⟨.func,1,8,[.f],false⟩),
 (71,⟨.int .u8,1,1,[.i .u8],false⟩),
 (72,⟨.struct [(71,0),(3,1),(3,2),(3,3),(2,4),(2,5),(4,6)],7,56,[.i .u8,.i .i64,.i .i64,.i .i64,.i .i64,.i .i64,.b],true⟩),
 (73,⟨.struct [(71,0),(3,1),(3,2),(3,3),(2,4),(2,5),(4,6)],7,56,[.i .u8,.i .i64,.i .i64,.i .i64,.i .i64,.i .i64,.b],true⟩),
 (75,⟨.func,1,8,[.f],false⟩),
 (76,⟨.int .u8,1,1,[.i .u8],false⟩),
 (77,⟨.int .u8,1,1,[.i .u8],false⟩),
 (78,⟨.struct [(76,0),(77,1),(3,2),(3,3),(3,4),(3,5),(3,6),(2,7),(3,8)],9,64,[.i .u8,.i .u8,.i .i64,.i .i64,.i .i64,.i .i64,.i .i64,.i .i64,.i .i64],true⟩),
 (79,⟨.struct [(76,0),(77,1),(3,2),(3,3),(3,4),(3,5),(3,6),(2,7),(3,8)],9,64,[.i .u8,.i .u8,.i .i64,.i .i64,.i .i64,.i .i64,.i .i64,.i .i64,.i .i64],true⟩),
 (80,⟨.slice 79,1,24,[.sl],false⟩),
 (81,⟨.struct [(9,0),(80,1)],2,40,[.s,.sl],true⟩),
 (82,⟨.struct [(9,0),(80,1)],2,40,[.s,.sl],true⟩),
 (83,⟨.func,1,8,[.f],false⟩),
 (84,⟨.slice 9,1,24,[.sl],false⟩),
 (85,⟨.func,1,8,[.f],false⟩),
 (86,⟨.func,1,8,[.f],false⟩),
 (87,⟨.func,1,8,[.f],false⟩),
 (89,⟨.func,1,8,[.f],false⟩),
 (90,⟨.func,1,8,[.f],false⟩),
 (91,⟨.func,1,8,[.f],false⟩),
 (92,⟨.func,1,8,[.f],false⟩),
 (93,⟨.func,1,8,[.f],false⟩),
 (94,⟨.func,1,8,[.f],false⟩),
 (95,⟨.func,1,8,[.f],false⟩),
 (96,⟨.func,1,8,[.f],false⟩),
 (97,⟨.slice 26,1,24,[.sl],false⟩),
 (98,⟨.func,1,8,[.f],false⟩),
 (99,⟨.func,1,8,[.f],false⟩),
 (100,⟨.slice 136,1,24,[.sl],false⟩),
 (101,⟨.func,1,8,[.f],false⟩),
 (102,⟨.struct [(25,0),(100,5),(22,6),(27,7)],8,144,[.sl,.i .i64,.i .i64,.i .i64,.sl,.sl,.sl,.sl],true⟩),
 (103,⟨.struct [(25,0),(100,5),(22,6),(27,7)],8,144,[.sl,.i .i64,.i .i64,.i .i64,.sl,.sl,.sl,.sl],true⟩),
 (104,⟨.func,1,8,[.f],false⟩),
 (105,⟨.func,1,8,[.f],false⟩),
 (106,⟨.iface,1,16,[.n],false⟩),
 (107,⟨.iface,1,16,[.n],false⟩),
 (108,⟨.func,1,8,[.f],false⟩),
 (109,⟨.func,1,8,[.f],false⟩),
 (110,⟨.func,1,8,[.f],false⟩),
 (111,⟨.func,1,8,[.f],false⟩),
 (112,⟨.ptr 115,1,8,[.p],false⟩),
 (113,⟨.slice 5,1,24,[.sl],false⟩),
 (114,⟨.struct [(112,0),(113,1)],2,32,[.p,.sl],true⟩),
 (115,⟨.struct [(112,0),(113,1)],2,32,[.p,.sl],true⟩),
 (116,⟨.func,1,8,[.f],false⟩),
 (117,⟨.iface,1,16,[.n],false⟩),
 (118,⟨.iface,1,16,[.n],false⟩),
 (120,⟨.func,1,8,[.f],false⟩),
 (121,⟨.func,1,8,[.f],false⟩),
 (122,⟨.func,1,8,[.f],false⟩),
 (123,⟨.func,1,8,[.f],false⟩),
 (125,⟨.func,1,8,[.f],false⟩),
 (127,⟨.func,1,8,[.f],false⟩),
 (128,⟨.ptr 136,1,8,[.p],false⟩),
 (129,⟨.ptr 73,1,8,[.p],false⟩),
 (130,⟨.struct [(57,0),(128,1),(79,2),(129,11)],12,88,[.p,.p,.i .u8,.i .u8,.i .i64,.i .i64,.i .i64,.i .i64,.i .i64,.i .i64,.i .i64,.p],true⟩),
 (131,⟨.struct [(57,0),(128,1),(79,2),(129,11)],12,88,[.p,.p,.i .u8,.i .u8,.i .i64,.i .i64,.i .i64,.i .i64,.i .i64,.i .i64,.i .i64,.p],true⟩),
 (132,⟨.func,1,8,[.f],false⟩),
 (133,⟨.array 16 2,16,128,[.i .i64,.i .i64,.i .i64,.i .i64,.i .i64,.i .i64,.i .i64,.i .i64,.i .i64,.i .i64,.i .i64,.i .i64,.i .i64,.i .i64,.i .i64,.i .i64],false⟩),
 (134,⟨.slice 155,1,24,[.sl],false⟩),
 (135,⟨.struct [(3,0),(4,1),(133,2),(134,18)],19,168,[.i .i64,.b,.i .i64,.i .i64,.i .i64,.i .i64,.i .i64,.i .i64,.i .i64,.i .i64,.i .i64,.i .i64,.i .i64,.i .i64,.i .i64,.i .i64,.i .i64,.i .i64,.sl],true⟩),
 (136,⟨.struct [(3,0),(4,1),(133,2),(134,18)],19,168,[.i .i64,.b,.i .i64,.i .i64,.i .i64,.i .i64,.i .i64,.i .i64,.i .i64,.i .i64,.i .i64,.i .i64,.i .i64,.i .i64,.i .i64,.i .i64,.i .i64,.i .i64,.sl],true⟩),
 (137,⟨.func,1,8,[.f],false⟩),
 (138,⟨.func,1,8,[.f],false⟩),
 (139,⟨.func,1,8,[.f],false⟩),
 (140,⟨.func,1,8,[.f],false⟩),
 (141,⟨.func,1,8,[.f],false⟩),
 (142,⟨.int .u8,1,1,[.i .u8],false⟩),
 (144,⟨.func,1,8,[.f],false⟩),
 (145,⟨.func,1,8,[.f],false⟩),
 (146,⟨.func,1,8,[.f],false⟩),
 (147,⟨.func,1,8,[.f],false⟩),
 (148,⟨.func,1,8,[.f],false⟩),
 (149,⟨.func,1,8,[.f],false⟩),
 (150,⟨.func,1,8,[.f],false⟩),
 (151,⟨.func,1,8,[.f],false⟩),
 (152,⟨.func,1,8,[.f],false⟩),
 (153,⟨.func,1,8,[.f],false⟩),
 (154,⟨.struct [(3,0),(3,1),(2,2)],3,24,[.i .i64,.i .i64,.i .i64],true⟩),
 (155,⟨.struct [(3,0),(3,1),(2,2)],3,24,[.i .i64,.i .i64,.i .i64],true⟩),
 (156,⟨.func,1,8,[.f],false⟩),
 (157,⟨.ptr 5,1,8,[.p],false⟩),
 (158,⟨.func,1,8,[.f],false⟩),
 (159,⟨.func,1,8,[.f],false⟩),
 (161,⟨.func,1,8,[.f],false⟩),
 (162,⟨.func,1,8,[.f],false⟩),
 (163,⟨.func,1,8,[.f],false⟩),
 (164,⟨.func,1,8,[.f],false⟩),
 (165,⟨.array 4 142,4,4,[.i .u8,.i .u8,.i .u8,.i .u8],false⟩),
 (166,⟨.struct [(9,0),(165,1)],5,24,[.s,.i .u8,.i .u8,.i .u8,.i .u8],true⟩),
 (167,⟨.struct [(9,0),(165,1)],5,24,[.s,.i .u8,.i .u8,.i .u8,.i .u8],true⟩),
 (169,⟨.func,1,8,[.f],false⟩),
 (170,⟨.func,1,8,[.f],false⟩),
 (171,⟨.array 19 9,19,304,[.s,.s,.s,.s,.s,.s,.s,.s,.s,.s,.s,.s,.s,.s,.s,.s,.s,.s,.s],false⟩),
 (172,⟨.array 11 152,11,88,[.f,.f,.f,.f,.f,.f,.f,.f,.f,.f,.f],false⟩),
 (173,⟨.array 24 5,24,24,[.i .u8,.i .u8,.i .u8,.i .u8,.i .u8,.i .u8,.i .u8,.i .u8,.i .u8,.i .u8,.i .u8,.i .u8,.i .u8,.i .u8,.i .u8,.i .u8,.i .u8,.i .u8,.i .u8,.i .u8,.i .u8,.i .u8,.i .u8,.i .u8],false⟩),
 (174,⟨.int .u64,1,8,[.i .u64],false⟩),
 (175,⟨.func,1,8,[.f],false⟩),
 (176,⟨.func,1,8,[.f],false⟩),
 (178,⟨.func,1,8,[.f],false⟩),
 (180,⟨.func,1,8,[.f],false⟩),
 (181,⟨.func,1,8,[.f],false⟩),
 (182,⟨.func,1,8,[.f],false⟩),
 (184,⟨.func,1,8,[.f],false⟩),
 (185,⟨.func,1,8,[.f],false⟩),
 (187,⟨.func,1,8,[.f],false⟩),
 (188,⟨.func,1,8,[.f],false⟩),
 (189,⟨.array 11 167,55,264,[.s,.i .u8,.i .u8,.i .u8,.i .u8,.s,.i .u8,.i .u8,.i .u8,.i .u8,.s,.i .u8,.i .u8,.i .u8,.i .u8,.s,.i .u8,.i .u8,.i .u8,.i .u8,.s,.i .u8,.i .u8,.i .u8,.i .u8,.s,.i .u8,.i .u8,.i .u8,.i .u8,.s,.i .u8,.i .u8,.i .u8,.i .u8,.s,.i .u8,.i .u8,.i .u8,.i .u8,.s,.i .u8,.i .u8,.i .u8,.i .u8,.s,.i .u8,.i .u8,.i .u8,.i .u8,.s,.i .u8,.i .u8,.i .u8,.i .u8],false⟩),
 (191,⟨.func,1,8,[.f],false⟩),
 (192,⟨.func,1,8,[.f],false⟩),
 (193,⟨.func,1,8,[.f],false⟩),
 (194,⟨.func,1,8,[.f],false⟩),
 (195,⟨.array 20 174,20,160,[.i .u64,.i .u64,.i .u64,.i .u64,.i .u64,.i .u64,.i .u64,.i .u64,.i .u64,.i .u64,.i .u64,.i .u64,.i .u64,.i .u64,.i .u64,.i .u64,.i .u64,.i .u64,.i .u64,.i .u64],false⟩),
 (196,⟨.int .u32,1,4,[.i .u32],false⟩),
 (197,⟨.array 65 5,65,65,[.i .u8,.i .u8,.i .u8,.i .u8,.i .u8,.i .u8,.i .u8,.i .u8,.i .u8,.i .u8,.i .u8,.i .u8,.i .u8,.i .u8,.i .u8,.i .u8,.i .u8,.i .u8,.i .u8,.i .u8,.i .u8,.i .u8,.i .u8,.i .u8,.i .u8,.i .u8,.i .u8,.i .u8,.i .u8,.i .u8,.i .u8,.i .u8,.i .u8,.i .u8,.i .u8,.i .u8,.i .u8,.i .u8,.i .u8,.i .u8,.i .u8,.i .u8,.i .u8,.i .u8,.i .u8,.i .u8,.i .u8,.i .u8,.i .u8,.i .u8,.i .u8,.i .u8,.i .u8,.i .u8,.i .u8,.i .u8,.i .u8,.i .u8,.i .u8,.i .u8,.i .u8,.i .u8,.i .u8,.i .u8,.i .u8],false⟩),
 (198,⟨.int .u64,1,8,[.i .u64],false⟩),
 (199,⟨.func,1,8,[.f],false⟩),
 (200,⟨.func,1,8,[.f],false⟩),
 (201,⟨.func,1,8,[.f],false⟩),
 (202,⟨.struct [(200,0),(201,1)],2,16,[.f,.f],true⟩),
 (203,⟨.struct [(200,0),(201,1)],2,16,[.f,.f],true⟩),
 (204,⟨.array 19 203,38,304,[.f,.f,.f,.f,.f,.f,.f,.f,.f,.f,.f,.f,.f,.f,.f,.f,.f,.f,.f,.f,.f,.f,.f,.f,.f,.f,.f,.f,.f,.f,.f,.f,.f,.f,.f,.f,.f,.f],false⟩),
 (205,⟨.func,1,8,[.f],false⟩),
 (206,⟨.int .i64,1,8,[.i .i64],false⟩),
 (207,⟨.func,1,8,[.f],false⟩),
 (208,⟨.array 256 5,256,256,[.i .u8,.i .u8,.i .u8,.i .u8,.i .u8,.i .u8,.i .u8,.i .u8,.i .u8,.i .u8,.i .u8,.i .u8,.i .u8,.i .u8,.i .u8,.i .u8,.i .u8,.i .u8,.i .u8,.i .u8,.i .u8,.i .u8,.i .u8,.i .u8,.i .u8,.i .u8,.i .u8,.i .u8,.i .u8,.i .u8,.i .u8,.i .u8,.i .u8,.i .u8,.i .u8,.i .u8,.i .u8,.i .u8,.i .u8,.i .u8,.i .u8,.i .u8,.i .u8,.i .u8,.i .u8,.i .u8,.i .u8,.i .u8,.i .u8,.i .u8,.i .u8,.i .u8,.i .u8,.i .u8,.i .u8,.i .u8,.i .u8,.i .u8,.i .u8,.i .u8,.i .u8,.i .u8,.i .u8,.i .u8,.i .u8,.i .u8,.i .u8,.i .u8,.i .u8,.i .u8,.i .u8,.i .u8,.i .u8,.i .u8,.i .u8,.i .u8,.i .u8,.i .u8,.i .u8,.i .u8,.i .u8,.i .u8,.i .u8,.i .u8,.i .u8,.i .u8,.i .u8,.i .u8,.i .u8,.i .u8,.i .u8,.i .u8,.i .u8,.i .u8,.i .u8,.i .u8,.i .u8,.i .u8,.i .u8,.i .u8,.i .u8,.i .u8,.i .u8,.i .u8,.i .u8,.i .u8,.i .u8,.i .u8,.i .u8,.i .u8,.i .u8,.i .u8,.i .u8,.i .u8,.i .u8,.i .u8,.i .u8,.i .u8,.i .u8,.i .u8,.i .u8,.i .u8,.i .u8,.i .u8,.i .u8,.i .u8,.i .u8,.i .u8,.i .u8,.i .u8,.i .u8,.i .u8,.i .u8,.i .u8,.i .u8,.i .u8,.i .u8,.i .u8,.i .u8,.i .u8,.i .u8,.i .u8,.i .u8,.i .u8,.i .u8,.i .u8,.i .u8,.i .u8,.i .u8,.i .u8,.i .u8,.i .u8,.i .u8,.i .u8,.i .u8,.i .u8,.i .u8,.i .u8,.i .u8,.i .u8,.i .u8,.i .u8,.i .u8,.i .u8,.i .u8,.i .u8,.i .u8,.i .u8,.i .u8,.i .u8,.i .u8,.i .u8,.i .u8,.i .u8,.i .u8,.i .u8,.i .u8,.i .u8,.i .u8,.i .u8,.i .u8,.i .u8,.i .u8,.i .u8,.i .u8,.i .u8,.i .u8,.i .u8,.i .u8,.i .u8,.i .u8,.i .u8,.i .u8,.i .u8,.i .u8,.i .u8,.i .u8,.i .u8,.i .u8,.i .u8,.i .u8,.i .u8,.i .u8,.i .u8,.i .u8,.i .u8,.i .u8,.i .u8,.i .u8,.i .u8,.i .u8,.i .u8,.i .u8,.i .u8,.i .u8,.i .u8,.i .u8,.i .u8,.i .u8,.i .u8,.i .u8,.i .u8,.i .u8,.i .u8,.i .u8,.i .u8,.i .u8,.i .u8,.i .u8,.i .u8,.i .u8,.i .u8,.i .u8,.i .u8,.i .u8,.i .u8,.i .u8,.i .u8,.i .u8,.i .u8,.i .u8,.i .u8,.i .u8,.i .u8,.i .u8,.i .u8,.i .u8,.i .u8,.i .u8,.i .u8,.i .u8,.i .u8,.i .u8,.i .u8,.i .u8,.i .u8],false⟩),
 (209,⟨.struct [(5,0),(5,1)],2,2,[.i .u8,.i .u8],true⟩),
 (210,⟨.struct [(5,0),(5,1)],2,2,[.i .u8,.i .u8],true⟩),
 (211,⟨.array 16 210,32,32,[.i .u8,.i .u8,.i .u8,.i .u8,.i .u8,.i .u8,.i .u8,.i .u8,.i .u8,.i .u8,.i .u8,.i .u8,.i .u8,.i .u8,.i .u8,.i .u8,.i .u8,.i .u8,.i .u8,.i .u8,.i .u8,.i .u8,.i .u8,.i .u8,.i .u8,.i .u8,.i .u8,.i .u8,.i .u8,.i .u8,.i .u8,.i .u8],false⟩),
 (213,⟨.func,1,8,[.f],false⟩),
 (214,⟨.func,1,8,[.f],false⟩),
 (215,⟨.array 32 5,32,32,[.i .u8,.i .u8,.i .u8,.i .u8,.i .u8,.i .u8,.i .u8,.i .u8,.i .u8,.i .u8,.i .u8,.i .u8,.i .u8,.i .u8,.i .u8,.i .u8,.i .u8,.i .u8,.i .u8,.i .u8,.i .u8,.i .u8,.i .u8,.i .u8,.i .u8,.i .u8,.i .u8,.i .u8,.i .u8,.i .u8,.i .u8,.i .u8],false⟩),
 (216,⟨.array 64 5,64,64,[.i .u8,.i .u8,.i .u8,.i .u8,.i .u8,.i .u8,.i .u8,.i .u8,.i .u8,.i .u8,.i .u8,.i .u8,.i .u8,.i .u8,.i .u8,.i .u8,.i .u8,.i .u8,.i .u8,.i .u8,.i .u8,.i .u8,.i .u8,.i .u8,.i .u8,.i .u8,.i .u8,.i .u8,.i .u8,.i .u8,.i .u8,.i .u8,.i .u8,.i .u8,.i .u8,.i .u8,.i .u8,.i .u8,.i .u8,.i .u8,.i .u8,.i .u8,.i .u8,.i .u8,.i .u8,.i .u8,.i .u8,.i .u8,.i .u8,.i .u8,.i .u8,.i .u8,.i .u8,.i .u8,.i .u8,.i .u8,.i .u8,.i .u8,.i .u8,.i .u8,.i .u8,.i .u8,.i .u8,.i .u8],false⟩),
 (217,⟨.func,1,8,[.f],false⟩),
 (220,⟨.array 0 16,0,0,[],false⟩),
 (225,⟨.func,1,8,[.f],false⟩)]
set_option maxRecDepth 100000 in
theorem hT:TOk Tryz.prog T:=TOk.of_all (by kernel_rfl)
end Go.Proofs.YtbflekglkkdipaaGreatDoor.am
namespace Go.Proofs.YtbflekglkkdipaaGreatDoor.am
open Go Go.Proofs
theorem hmix : Tryz.prog.follows .mixedOrders=true:=by kernel_rfl
abbrev K (f:Nat) (args:List AV) (bin:List Blk) (res:AE) (bout:List (Option Blk)):Prop:=Ctr Tryz.prog f args bin res bout
structure Ins where
 kind:Int
 op:Int
 d:Int
 a:Int
 b:Int
 addr:Int
 to_:Int
 word:Int
 from_:Int
 deriving DecidableEq
structure Cor where
 name:ByteArray
 code:List Ins
structure Ob where
 memory:List Int
 shared:Int
 locks:Int
 buffer:Int
 cores:List Cor
def Ins.cells (i:Ins):List Tr:=[tu i.kind,tu i.op,ti i.d,ti i.a,ti i.b,ti i.addr,ti i.to_,ti i.word,ti i.from_]
def Ins.av (i:Ins):AV := .agg (i.cells.map .tr)
abbrev codeT (l:List Ins):Tr := .lst 9 64 (l.map Ins.cells)
def Cor.cells (c:Cor):List Tr:=[ts c.name,codeT c.code]
def Cor.av (c:Cor):AV := .agg (c.cells.map .tr)
abbrev coresT (l:List Cor):Tr := .lst 2 40 (l.map Cor.cells)
def irow (x:Int):List Tr:=[ti x]
abbrev intsT (l:List Int):Tr := .lst 1 8 (l.map irow)
def Ob.cells (o:Ob):List Tr:=[intsT o.memory,ti o.shared,ti o.locks,ti o.buffer,coresT o.cores]
def Ob.av (o:Ob):AV := .agg (o.cells.map .tr)
def knownB (op:Int):Bool:=decide (op > 0) && decide (op<19)
def two2 (op:Int):Bool:=knownB op && op != 17 && op != 18
theorem two2_eq (op:Int):two2 op=two op:=by
 unfold two2 two knownB
 rw [Bool.eq_iff_iff]
 simp
 omega
theorem k_known (op:Int):K 107 [.tr (tu op)] [] (.ret (.tr (tb (knownB op)))) []:=by
 refine Ctr.of hT hmix Tryz.func107 rfl (fun _ _=>by kernel_rfl) rfl fun hok => ?_
 conv=>whnf
 (repeat' (refine csplit (fun _ => ?_) (fun _ => ?_) <;> conv=>whnf)) <;> exact ⟨Or.inl (congrArg tb (by simp only [knownB, *] <;> rfl)),trivial⟩
theorem k_two (op:Int):K 84 [.tr (tu op)] [] (.ret (.tr (tb (two op)))) []:=by
 refine Ctr.of hT hmix Tryz.func84 rfl (fun _ _=>by kernel_rfl) rfl fun hok => ?_
 conv=>whnf
 refine acall.pure _ (k_known op) rfl rfl fun _ => ?_
 conv=>whnf
 (repeat' (refine csplit (fun _ => ?_) (fun _ => ?_) <;> conv=>whnf)) <;> exact ⟨Or.inl (congrArg tb (by rw [← two2_eq]; simp only [two2, *] <;> rfl)),trivial⟩
def byK {α:Type} (l:List α) (d:α) (k:Int):α:=l.getD k.toNat d
def kwords:List ByteArray:=[⟨#[]⟩,⟨#[115,101,116]⟩,⟨#[]⟩,⟨#[108,111,97,100]⟩,⟨#[115,116,111,114,101]⟩,⟨#[115,119,97,112]⟩,⟨#[102,101,110,99,101]⟩,⟨#[112,114,105,110,116]⟩,⟨#[106,117,109,112]⟩,⟨#[122,101,114,111]⟩,⟨#[104,97,108,116]⟩]
def kuses:List (List Int):=[[0,0,0,0],[2,64,0,0],[1,2,4,8],[2,16,0,0],[4,16,0,0],[2,16,0,0],[0,0,0,0],[4,0,0,0],[32,0,0,0],[4,32,0,0],[0,0,0,0]]
def kword (k:Int):ByteArray:=byK kwords ⟨#[]⟩ k
def kuse (k:Int):List Int:=byK kuses [0,0,0,0] k
def kmask (k:Int):Int:=byK [0,66,15,18,20,18,0,4,32,36,0] 0 k
def kok (k:Int):Bool:=decide (1≤k) && decide (k<11)
def formAV (k:Int):AV := .agg (.tr (ts (kword k))::(kuse k).map fun u => .tr (tu u))
theorem kcases {k:Int} (h0:0≤k):k=0∨k=1∨k=2∨k=3∨k=4∨k=5∨k=6∨k=7∨k=8∨k=9∨k=10∨11≤k:=by omega
theorem byK_big {α:Type} {l:List α} {d:α} {k:Int} (hl:l.length=11) (h:11≤k):byK l d k=d:=by
 unfold byK
 rw [List.getD_eq_getElem?_getD,List.getElem?_eq_none (by omega)]; rfl
theorem kok_big {k:Int} (h:11≤k):kok k=false:=by
 unfold kok
 rw [show decide (k<11)=false from decide_eq_false (by omega),Bool.and_false]
set_option maxRecDepth 100000 in
theorem k_forms (k:Int):K 83 [.tr (tu k)] [] (.ret (.tup [formAV k,.tr (tb (kok k))])) []:=by
 refine Ctr.of hT hmix Tryz.func83 rfl (fun _ _=>by kernel_rfl) rfl fun hok => ?_
 have hk:=(hok.slot 0 rfl).tr.u8
 clear hok
 rcases kcases hk.1 with h | h | h | h | h | h | h | h | h | h | h | h
 case inr.inr.inr.inr.inr.inr.inr.inr.inr.inr.inr =>
  have e0:(k == 0)=false:=beq_eq_false_iff_ne.2 (by omega)
  have e1:decide (k ≥ 11)=true:=decide_eq_true (by omega)
  have ew:IntKind.i64.wrap k=k:=w64 (by omega) (by omega)
  rw [show formAV k=formAV 0 by unfold formAV kword kuse; rw [byK_big rfl h,byK_big rfl h]; rfl,kok_big h]
  conv=>whnf
  refine csplit (fun h1 => ?_) (fun h1 => ?_)
  ·rw [e0] at h1; cases h1
  conv=>whnf
  refine csplit (fun h2 => ?_) (fun h2 => ?_)
  ·conv=>whnf
   exact ⟨⟨⟨.inl rfl,.inl rfl,.inl rfl,.inl rfl,.inl rfl,trivial⟩,.inl rfl,trivial⟩,trivial⟩
  ·rw [ew,e1] at h2; cases h2
 all_goals
  subst h
  conv=>whnf
  first
   | exact ⟨⟨⟨.inl rfl,.inl rfl,.inl rfl,.inl rfl,.inl rfl,trivial⟩,.inl rfl,trivial⟩,trivial⟩
   | (refine ⟨by decide,by decide,?_⟩; (conv=>whnf); exact ⟨⟨⟨.inl rfl,.inl rfl,.inl rfl,.inl rfl,.inl rfl,trivial⟩,.inl rfl,trivial⟩,trivial⟩)
end Go.Proofs.YtbflekglkkdipaaGreatDoor.am
namespace Go.Proofs.YtbflekglkkdipaaGreatDoor.am
open Go Go.Proofs
def opwords:List ByteArray:=[⟨#[]⟩,⟨#[97,100,100]⟩,⟨#[115,117,98]⟩,⟨#[109,117,108]⟩,⟨#[100,105,118]⟩,⟨#[114,101,109]⟩,⟨#[97,110,100]⟩,⟨#[111,114]⟩,⟨#[120,111,114]⟩,⟨#[115,104,108]⟩,⟨#[115,104,114]⟩,⟨#[105,115]⟩,⟨#[105,115,110,111,116]⟩,
 ⟨#[108,101,115,115]⟩,⟨#[109,111,115,116]⟩,⟨#[97,98,111,118,101]⟩,⟨#[108,101,97,115,116]⟩,⟨#[109,105,110,117,115]⟩,⟨#[110,111,116]⟩]
def opword (op:Int):ByteArray:=byK opwords ⟨#[]⟩ op
theorem opword_big {op:Int} (h:19≤op):opword op=⟨#[]⟩:=by
 unfold opword byK
 rw [List.getD_eq_getElem?_getD,List.getElem?_eq_none (by simp [opwords]; omega)]; rfl
set_option maxRecDepth 100000 in
theorem k_operator (op:Int):K 64 [.tr (tu op)] [] (.ret (.tr (ts (opword op)))) []:=by
 refine Ctr.of hT hmix Tryz.func64 rfl (fun _ _=>by kernel_rfl) rfl fun hok => ?_
 have hk:=(hok.slot 0 rfl).tr.u8
 clear hok
 by_cases hbig:19≤op
 ·have e1:decide (op ≥ 19)=true:=decide_eq_true (by omega)
  have ew:IntKind.i64.wrap op=op:=w64 (by omega) (by omega)
  rw [opword_big hbig]
  conv=>whnf
  refine csplit (fun h2 => ?_) (fun h2 => ?_)
  ·conv=>whnf
   exact ⟨.inl rfl,trivial⟩
  ·rw [ew,e1] at h2; cases h2
 have hc:op=0∨op=1∨op=2∨op=3∨op=4∨op=5∨op=6∨op=7∨op=8∨op=9∨op=10∨op=11∨op=12∨op=13∨op=14∨op=15∨op=16∨op=17∨op=18:=by omega
 rcases hc with h | h | h | h | h | h | h | h | h | h | h | h | h | h | h | h | h | h | h
 all_goals
  subst h
  conv=>whnf
  refine ⟨by decide,by decide,?_⟩
  conv=>whnf
  exact ⟨.inl rfl,trivial⟩
def usedM (kind op:Int):Int:=bif kind == 2 && !two op then 7 else kmask kind
theorem form_big {k:Int} (h:11≤k):formAV k=formAV 0:=by unfold formAV kword kuse; rw [byK_big rfl h,byK_big rfl h]; rfl
theorem kmask_big {k:Int} (h:11≤k):kmask k=0:=by unfold kmask; exact byK_big rfl h
set_option maxRecDepth 100000 in
theorem k_used (i:Ins):K 62 [i.av] [] (.ret (.tup [.tr (tu (usedM i.kind i.op)),.tr (tb (kok i.kind))])) []:=by
 refine Ctr.of hT hmix Tryz.func62 rfl (fun _ _=>by kernel_rfl) rfl fun hok => ?_
 have hk:=((hok.slot 0 rfl).agg _ (.head _)).tr.u8
 clear hok
 obtain ⟨kind,op,d,a,b,addr,to_,word,from_⟩:=i
 have hk:0≤kind∧kind≤255:=hk
 rcases kcases hk.1 with h | h | h | h | h | h | h | h | h | h | h | h
 case inr.inr.inr.inr.inr.inr.inr.inr.inr.inr.inr =>
  have hf:=k_forms kind
  rw [form_big h] at hf
  have e2:(kind == 2)=false:=beq_eq_false_iff_ne.2 (by omega)
  have em:usedM kind op=0:=by unfold usedM; rw [e2,kmask_big h]; rfl
  conv=>whnf
  refine acall.pure _ (hf) rfl rfl fun _ => ?_
  conv=>whnf
  refine LoopL.un 5 ?_
  conv=>whnf
  iterate 4 (refine ⟨by decide,by decide,rfl,by decide,fun a ha => ?_⟩; cases ha; conv=>whnf)
  refine ⟨fun _ => ?_,fun h=>absurd rfl h⟩
  conv=>whnf
  refine csplit (fun h2 => ?_) (fun h2 => ?_)
  ·rw [e2] at h2; cases h2
  ·conv=>whnf
   exact ⟨⟨.inl (congrArg tu em.symm),.inl rfl,trivial⟩,trivial⟩
 case inr.inr.inl =>
  subst h
  conv=>whnf
  refine acall.pure _ (k_forms 2) rfl rfl fun _ => ?_
  conv=>whnf
  refine LoopL.un 5 ?_
  conv=>whnf
  iterate 4 (refine ⟨by decide,by decide,rfl,by decide,fun a ha => ?_⟩; cases ha; conv=>whnf)
  refine ⟨fun _ => ?_,fun h=>absurd rfl h⟩
  conv=>whnf
  refine acall.pure _ (k_two op) rfl rfl fun _ => ?_
  conv=>whnf
  refine csplit (fun h2 => ?_) (fun h2 => ?_)
  ·conv=>whnf
   exact ⟨⟨.inl (congrArg tu (by unfold usedM; rw [h2]; rfl)),.inl rfl,trivial⟩,trivial⟩
  ·conv=>whnf
   exact ⟨⟨.inl (congrArg tu (by unfold usedM; rw [h2]; rfl)),.inl rfl,trivial⟩,trivial⟩
 all_goals
  subst h
  conv=>whnf
  refine acall.pure _ (k_forms _) rfl rfl fun _ => ?_
  conv=>whnf
  refine LoopL.un 5 ?_
  conv=>whnf
  iterate 4 (refine ⟨by decide,by decide,rfl,by decide,fun a ha => ?_⟩; cases ha; conv=>whnf)
  refine ⟨fun _ => ?_,fun h=>absurd rfl h⟩
  conv=>whnf
  exact ⟨⟨.inl rfl,.inl rfl,trivial⟩,trivial⟩
end Go.Proofs.YtbflekglkkdipaaGreatDoor.am
namespace Go.Proofs.YtbflekglkkdipaaGreatDoor.am
open Go Go.Proofs
theorem k_digit (c:Int):K 79 [.tr (tu c)] [] (.ret (.tr (tb (digB c)))) []:=by
 refine Ctr.of hT hmix Tryz.func79 rfl (fun _ _=>by kernel_rfl) rfl fun hok => ?_
 conv=>whnf
 (repeat' (refine csplit (fun _ => ?_) (fun _ => ?_) <;> conv=>whnf)) <;> refine ⟨Or.inl (congrArg tb ?_),trivial⟩ <;> (simp only [digB, *] <;> rfl)
theorem k_letter (c:Int):K 81 [.tr (tu c)] [] (.ret (.tr (tb (letB c)))) []:=by
 refine Ctr.of hT hmix Tryz.func81 rfl (fun _ _=>by kernel_rfl) rfl fun hok => ?_
 conv=>whnf
 (repeat' (refine csplit (fun _ => ?_) (fun _ => ?_) <;> conv=>whnf)) <;> refine ⟨Or.inl (congrArg tb ?_),trivial⟩ <;> (simp only [letB, *] <;> rfl)
theorem k_word (s:ByteArray):K 80 [.tr (ts s)] [] (.ret (.tr (tb (wordB s)))) []:=by
 refine Ctr.of hT hmix Tryz.func80 rfl (fun _ _=>by kernel_rfl) rfl fun hok => ?_
 conv=>whnf
 (repeat' (refine csplit (fun _ => ?_) (fun _ => ?_) <;> conv=>whnf)) <;> refine ⟨Or.inl (congrArg tb ?_),trivial⟩ <;> first | (simp only [wordB,seq, *] <;> rfl) | simp_all
theorem k_name (s:ByteArray):K 60 [.tr (ts s)] [] (.ret (.tr (tb (nameB s)))) []:=by
 refine Ctr.of hT hmix Tryz.func60 rfl (fun _ _=>by kernel_rfl) rfl fun hok => ?_
 have hsz:=(hok.slot 0 rfl).tr.str
 clear hok
 conv=>whnf
 refine csplit (fun h1 => ?_) (fun h1 => ?_)
 ·have h1:=(noS_size s).symm.trans h1
  conv=>whnf
  exact ⟨Or.inl (congrArg tb (by simp only [nameB,h1] <;> rfl)),trivial⟩
 have h1:=(noS_size s).symm.trans h1
 conv=>whnf
 refine csplit (fun h2 => ?_) (fun h2 => ?_)
 ·conv=>whnf
  exact ⟨Or.inl (congrArg tb (by simp only [nameB,h1,h2] <;> rfl)),trivial⟩
 have hs0:0<s.size:=by have:=of_decide_eq_false h1; omega
 conv=>whnf
 refine ⟨by omega,by omega,fun b hb => ?_⟩
 have hc0:chI s 0=b.toNat:=by unfold chI; rw [show s[0]? = some b from hb]
 conv=>whnf
 refine acall.pure _ (k_digit b.toNat) rfl rfl fun _ => ?_
 conv=>whnf
 refine csplit (fun h3 => ?_) (fun h3 => ?_)
 ·conv=>whnf
  exact ⟨Or.inl (congrArg tb (by rw [← hc0] at h3; simp only [nameB,h1,h2,h3] <;> rfl)),trivial⟩
 rw [← hc0] at h3
 conv=>whnf
 refine acall.pure _ (k_word s) rfl rfl fun _ => ?_
 conv=>whnf
 refine csplit (fun h4 => ?_) (fun h4 => ?_)
 ·conv=>whnf
  exact ⟨Or.inl (congrArg tb (by simp only [nameB,h1,h2,h3,h4] <;> rfl)),trivial⟩
 conv=>whnf
 have hE:nameB s=charsB s s.size:=by simp only [nameB,h1,h2,h3,h4] <;> rfl
 refine LoopL.by (fun i:Nat=>⟨[(0,.tr (ts s)),(21,.tr (ti s.size)),(22,.tr (ti i))],[],38⟩)
  (fun i=>i≤s.size∧nameB s=charsB s (s.size - i)) (fun i=>s.size - i) 0 [] [] (Sub.mk' rfl ⟨.inl rfl,.inl rfl,.inl rfl,trivial⟩ trivial rfl rfl) ⟨Nat.zero_le _,hE⟩ ?_
 rintro i ⟨hi,hf⟩ -
 conv=>whnf
 refine csplit (fun hlt => ?_) (fun hge => ?_)
 ·have hlt:i<s.size:=by simpa using hlt
  conv=>whnf
  refine ⟨by omega,by omega,fun b hb => ?_⟩
  rw [charsB_at (show s[i]? = some b from hb) hlt] at hf
  conv=>whnf
  refine acall.pure _ (k_letter b.toNat) rfl rfl fun _ => ?_
  conv=>whnf
  refine csplit (fun h5 => ?_) (fun h5 => ?_)
  ·conv=>whnf
   refine ⟨by omega,by omega,fun b' hb' => ?_⟩
   have hbb:b'=b:=Option.some.inj ((show s[i]? = some b' from hb').symm.trans hb)
   subst hbb
   conv=>whnf
   refine acall.pure _ (k_digit b'.toNat) rfl rfl fun _ => ?_
   conv=>whnf
   refine csplit (fun h6 => ?_) (fun h6 => ?_)
   ·rw [h5,h6] at hf
    conv=>whnf
    exact ⟨Or.inl (congrArg tb hf.symm),trivial⟩
   ·rw [h5,h6] at hf
    conv=>whnf
    exact ⟨i+1,[],[],Sub.mk' rfl ⟨.inl rfl,.inl rfl,.inl (ti_succ hlt hsz),trivial⟩ trivial rfl rfl,⟨by omega,hf⟩,by omega⟩
  ·rw [h5] at hf
   conv=>whnf
   exact ⟨i+1,[],[],Sub.mk' rfl ⟨.inl rfl,.inl rfl,.inl (ti_succ hlt hsz),trivial⟩ trivial rfl rfl,⟨by omega,hf⟩,by omega⟩
 ·have hge:s.size≤i:=by simpa using hge
  rw [show s.size - i=0 by omega] at hf
  conv=>whnf
  refine ⟨fun _ => ?_,fun h=>absurd rfl h⟩
  conv=>whnf
  exact ⟨Or.inl (congrArg tb hf.symm),trivial⟩
end Go.Proofs.YtbflekglkkdipaaGreatDoor.am
namespace Go.Proofs.YtbflekglkkdipaaGreatDoor.am
open Go Go.Proofs
def band (a b:Int):Int:=IntKind.u8.wrap (BitVec.ofInt IntKind.u8.bits a &&& BitVec.ofInt IntKind.u8.bits b).toNat
def withinB (all n u most:Int):Bool:=(band all u == 0 && n == 0) || (band all u != 0 && decide (n ≥ 0) && decide (n<most))
theorem k_within (all n u most:Int):K 63 [.tr (ti n),.tr (tu u),.tr (ti most),.ptr 0 0] [.cells 142 [.tr (tu all)]] (.ret (.tr (tb (withinB all n u most)))) [some (.cells 142 [.tr (tu all)])]:=by
 refine Ctr.of hT hmix Tryz.func63 rfl (fun _ _=>by kernel_rfl) rfl fun hok => ?_
 clear hok
 conv=>whnf
 (repeat' (refine csplit (fun _ => ?_) (fun _ => ?_) <;> conv=>whnf)) <;> (repeat' (first | exact trivial | exact Or.inl rfl | exact rfl | (refine Or.inl (congrArg _ ?_); simp only [withinB,band, *] <;> rfl) | apply And.intro))
def opB (all op:Int):Bool:=(band all 1 == 0 && op == 0) || (band all 1 != 0 && !seq (opword op) ⟨#[]⟩)
def rightB (i:Ins) (code memory:Int):Bool :=
 !(!kok i.kind || decide (i.from_<0) || decide (i.from_ > 4096)) &&
 (opB (usedM i.kind i.op) i.op && withinB (usedM i.kind i.op) i.d 2 16 && withinB (usedM i.kind i.op) i.a 4 16 && withinB (usedM i.kind i.op) i.b 8 16 &&
  withinB (usedM i.kind i.op) i.addr 16 memory && withinB (usedM i.kind i.op) i.to_ 32 code && (band (usedM i.kind i.op) 64 != 0 || i.word == 0))
theorem k_right (i:Ins) (code memory:Int):K 37 [i.av,.tr (ti code),.tr (ti memory)] [] (.ret (.tr (tb (rightB i code memory)))) []:=by
 refine Ctr.of hT hmix Tryz.func37 rfl (fun _ _=>by kernel_rfl) rfl fun hok => ?_
 clear hok
 have hu:=k_used i
 have hr:rightB i code memory=rightB i code memory:=rfl
 conv at hr=>rhs; unfold rightB
 generalize hB:rightB i code memory=B at hr ⊢
 clear hB
 generalize hm:usedM i.kind i.op=all at hu hr
 obtain ⟨kind,op,d,a,b,addr,to_,word,from_⟩:=i
 simp only at hr hu
 conv=>whnf
 refine acall.pure _ (hu) rfl rfl fun _ => ?_
 conv=>whnf
 (repeat' (first | (refine csplit (fun _ => ?_) (fun _ => ?_) <;> conv=>whnf) | (refine acall.pure _ (k_operator op) rfl rfl fun _ => ?_; conv=>whnf) | (refine acall.gen [7] [] _ _ _ _ (k_within all _ _ _) rfl rfl rfl rfl aut aut rfl rfl fun _ => ?_; conv=>whnf)))
 all_goals exact ⟨.inl (congrArg tb (by rw [hr]; simp only [opB,band, *] <;> rfl)),trivial⟩
end Go.Proofs.YtbflekglkkdipaaGreatDoor.am
namespace Go.Proofs.YtbflekglkkdipaaGreatDoor.am
open Go Go.Proofs
theorem k_same (c d:Cor):K 59 [d.av,.ptr 0 0] [.cells 82 (c.cells.map .tr)] (.ret (.tr (tb (seq d.name c.name)))) [some (.cells 82 (c.cells.map .tr))]:=by
 refine Ctr.of hT hmix Tryz.func59 rfl (fun _ _=>by kernel_rfl) rfl fun hok => ?_
 clear hok
 conv=>whnf
 exact ⟨.inl rfl,⟨rfl,.inl rfl,.inl rfl,trivial⟩,trivial⟩
def idxN (n:ByteArray):List Cor→Nat→Int
 | [],_ => -1
 | d::l,k=>bif seq d.name n then k else idxN n l (k+1)
theorem idxN_at {l:List Cor} {n:ByteArray} {i:Nat} {d:Cor} (h:l[i]? = some d):idxN n (l.drop i) i=bif seq d.name n then (i:Int) else idxN n (l.drop (i+1)) (i+1):=by
 rw [drop_cons h]; rfl
theorem k_indexFunc (l:List Cor) (c:Cor):K 82 [.tr (coresT l),.fn 59 [.ptr 0 0]] [.cells 82 (c.cells.map .tr)]
  (.ret (.tr (ti (idxN c.name l 0)))) [some (.cells 82 (c.cells.map .tr))]:=by
 refine Ctr.of hT hmix Tryz.func82 rfl (fun _ _=>by kernel_rfl) rfl fun hok => ?_
 obtain ⟨_,hl,_⟩:=(hok.slot 0 rfl).tr.lst
 rw [List.length_map] at hl
 clear hok
 obtain ⟨cn,cc⟩:=c
 conv=>whnf
 refine LoopL.by (fun i:Nat=>⟨[(0,.tr (coresT l)),(1,.fn 59 [.ptr 0 0]),(7,.tr (ti l.length)),(8,.tr (ti i))],[(0,.cells 82 [.tr (ts cn),.tr (codeT cc)])],40⟩)
  (fun i=>i≤l.length∧idxN cn l 0=idxN cn (l.drop i) i) (fun i=>l.length - i) 0 [0] [] (Sub.mk' rfl ⟨.inl rfl,⟨rfl,⟨rfl,rfl⟩,trivial⟩,.inl (by simp),.inl rfl,trivial⟩ ⟨⟨rfl,.inl rfl,.inl rfl,trivial⟩,trivial⟩ rfl rfl) ⟨Nat.zero_le _,rfl⟩ ?_
 rintro i ⟨hi,hf⟩ -
 conv=>whnf
 refine csplit (fun hlt => ?_) (fun hge => ?_)
 ·have hlt:i<l.length:=by simpa using hlt
  conv=>whnf
  refine ⟨rfl,by omega,by simpa using hlt,fun row hrow => ?_⟩
  obtain ⟨d,hd,rfl⟩:=map_get hrow
  replace hd:l[i]? = some d:=hd
  rw [idxN_at hd] at hf
  obtain ⟨dn,dc⟩:=d
  conv=>whnf
  refine acall.au [0] [] (k_same ⟨cn,cc⟩ ⟨dn,dc⟩) ?_
  intro _
  conv=>whnf
  refine csplit (fun h => ?_) (fun h => ?_)
  ·rw [h] at hf
   conv=>whnf
   exact ⟨.inl (congrArg ti hf.symm),⟨rfl,.inl rfl,.inl rfl,trivial⟩,trivial⟩
  ·rw [h] at hf
   conv=>whnf
   exact ⟨i+1,[0],[],Sub.mk' rfl ⟨.inl rfl,⟨rfl,⟨rfl,rfl⟩,trivial⟩,.inl rfl,.inl (ti_succ hlt hl),trivial⟩ ⟨⟨rfl,.inl rfl,.inl rfl,trivial⟩,trivial⟩ rfl rfl,⟨by omega,hf⟩,by omega⟩
 ·have hge:l.length≤i:=by simpa using hge
  rw [List.drop_eq_nil_of_le hge] at hf
  conv=>whnf
  refine ⟨fun _ => ?_,fun h=>absurd rfl h⟩
  conv=>whnf
  exact ⟨.inl (congrArg ti hf.symm),⟨rfl,.inl rfl,.inl rfl,trivial⟩,trivial⟩
def hasN (n:ByteArray) (l:List Cor):Bool:=decide (idxN n l 0 ≥ 0)
theorem k_containsFunc (l:List Cor) (c:Cor):K 61 [.tr (coresT l),.fn 59 [.ptr 0 0]] [.cells 82 (c.cells.map .tr)]
  (.ret (.tr (tb (hasN c.name l)))) [some (.cells 82 (c.cells.map .tr))]:=by
 refine Ctr.of hT hmix Tryz.func61 rfl (fun _ _=>by kernel_rfl) rfl fun hok => ?_
 clear hok
 obtain ⟨cn,cc⟩:=c
 conv=>whnf
 refine acall.au [0] [] (k_indexFunc l ⟨cn,cc⟩) ?_
 intro _
 conv=>whnf
 exact ⟨.inl rfl,⟨rfl,.inl rfl,.inl rfl,trivial⟩,trivial⟩
def coreBad (pre:List Cor) (c:Cor):Bool :=
 !nameB c.name || hasN c.name pre || decide ((c.code.length:Int)<1) || decide ((c.code.length:Int) > 16384)
def lastBad (c:Cor):Bool:=match c.code[c.code.length - 1]? with
 | some i=>i.kind != 10 && i.kind != 8
 | none=>true
def coresOk:List Cor→List Cor→Bool
 | _,[]=>true
 | pre,c::l=>bif coreBad pre c || lastBad c then false else coresOk (pre++[c]) l
theorem coresOk_at {l:List Cor} {i:Nat} {c:Cor} (h:l[i]? = some c):coresOk (l.take i) (l.drop i)=bif coreBad (l.take i) c || lastBad c then false else coresOk (l.take (i+1)) (l.drop (i+1)):=by
 rw [drop_cons h,take_snoc h]; rfl
def headBad (o:Ob):Bool :=
 decide (o.shared<0) || decide (o.shared > 64) || decide (o.locks<0) || decide (o.locks > 16) || decide ((o.memory.length:Int)<IntKind.i64.wrap (o.shared+o.locks)) || decide ((o.memory.length:Int) > 4096) ||
 decide (o.buffer<1) || decide (o.buffer > 16) || decide ((o.cores.length:Int) > 8)
def shapedB (o:Ob):Bool:=bif headBad o then false else coresOk [] o.cores
set_option maxRecDepth 100000 in
theorem k_shaped (o:Ob):K 36 [o.av] [] (.ret (.tr (tb (shapedB o)))) []:=by
 refine Ctr.of hT hmix Tryz.func36 rfl (fun _ _=>by kernel_rfl) rfl fun hok => ?_
 obtain ⟨memory,shared,locks,buffer,cores⟩:=o
 obtain ⟨_,hl,hcs⟩:=((hok.slot 0 rfl).agg _ (.tail _ (.tail _ (.tail _ (.tail _ (.head _)))))).tr.lst
 obtain ⟨_,hml,_⟩:=((hok.slot 0 rfl).agg _ (.head _)).tr.lst
 rw [List.length_map] at hl hml
 clear hok
 have hS:shapedB ⟨memory,shared,locks,buffer,cores⟩=bif headBad ⟨memory,shared,locks,buffer,cores⟩ then false else coresOk [] cores:=rfl
 generalize hB:shapedB ⟨memory,shared,locks,buffer,cores⟩=B at hS ⊢
 clear hB
 have hH:headBad ⟨memory,shared,locks,buffer,cores⟩=(decide (shared<0) || decide (shared > 64) || decide (locks<0) || decide (locks > 16) || decide ((memory.length:Int)<IntKind.i64.wrap (shared+locks)) || decide ((memory.length:Int) > 4096) ||
  decide (buffer<1) || decide (buffer > 16) || decide ((cores.length:Int) > 8)):=rfl
 rw [hH] at hS
 clear hH
 have em:(memory.length:Int)=((memory.map irow).length:Int):=by rw [List.length_map]
 have ec:(cores.length:Int)=((cores.map Cor.cells).length:Int):=by rw [List.length_map]
 rw [em,ec] at hS
 conv=>whnf
 refine csplit (fun h1 => ?_) (fun h1 => ?_)
 ·conv=>whnf
  exact ⟨.inl (congrArg tb (by rw [hS]; simp only [*,Bool.or_true,Bool.true_or,cond_true])),trivial⟩
 conv=>whnf
 refine csplit (fun h2 => ?_) (fun h2 => ?_)
 ·conv=>whnf
  exact ⟨.inl (congrArg tb (by rw [hS]; simp only [*,Bool.or_true,Bool.true_or,cond_true])),trivial⟩
 conv=>whnf
 refine csplit (fun h3 => ?_) (fun h3 => ?_)
 ·conv=>whnf
  exact ⟨.inl (congrArg tb (by rw [hS]; simp only [*,Bool.or_true,Bool.true_or,cond_true])),trivial⟩
 conv=>whnf
 refine csplit (fun h4 => ?_) (fun h4 => ?_)
 ·conv=>whnf
  exact ⟨.inl (congrArg tb (by rw [hS]; simp only [*,Bool.or_true,Bool.true_or,cond_true])),trivial⟩
 conv=>whnf
 refine csplit (fun h5 => ?_) (fun h5 => ?_)
 ·conv=>whnf
  exact ⟨.inl (congrArg tb (by rw [hS]; simp only [*,Bool.or_true,Bool.true_or,cond_true])),trivial⟩
 conv=>whnf
 refine csplit (fun h6 => ?_) (fun h6 => ?_)
 ·conv=>whnf
  exact ⟨.inl (congrArg tb (by rw [hS]; simp only [*,Bool.or_true,Bool.true_or,cond_true])),trivial⟩
 conv=>whnf
 refine csplit (fun h7 => ?_) (fun h7 => ?_)
 ·conv=>whnf
  exact ⟨.inl (congrArg tb (by rw [hS]; simp only [*,Bool.or_true,Bool.true_or,cond_true])),trivial⟩
 conv=>whnf
 refine csplit (fun h8 => ?_) (fun h8 => ?_)
 ·conv=>whnf
  exact ⟨.inl (congrArg tb (by rw [hS]; simp only [*,Bool.or_true,Bool.true_or,cond_true])),trivial⟩
 conv=>whnf
 refine csplit (fun h9 => ?_) (fun h9 => ?_)
 ·conv=>whnf
  exact ⟨.inl (congrArg tb (by rw [hS]; simp only [*,Bool.or_true,Bool.true_or,cond_true])),trivial⟩
 conv=>whnf
 replace hS:B=coresOk [] cores:=by rw [hS]; simp only [*,Bool.or_false,cond_false]
 rw [hS]
 clear h1 h2 h3 h4 h5 h6 h7 h8 hS em ec
 refine LoopL.by (fun i:Nat=>⟨[(1,.ptr 0 0),(60,.tr (coresT cores)),(61,.tr (ti cores.length)),(62,.tr (ti i))],[(0,.cells 25 [.tr (intsT memory),.tr (ti shared),.tr (ti locks),.tr (ti buffer),.tr (coresT cores)])],200⟩)
  (fun i=>i≤cores.length∧coresOk [] cores=coresOk (cores.take i) (cores.drop i)) (fun i=>cores.length - i) 0 [0] [] (Sub.mk' rfl ⟨⟨rfl,rfl⟩,.inl rfl,.inl (by simp),.inl rfl,trivial⟩ ⟨⟨rfl,.inl rfl,.inl rfl,.inl rfl,.inl rfl,.inl rfl,trivial⟩,trivial⟩ rfl rfl) ⟨Nat.zero_le _,rfl⟩ ?_
 rintro i ⟨hi,hf⟩ -
 conv=>whnf
 refine csplit (fun hlt => ?_) (fun hge => ?_)
 ·have hlt:i<cores.length:=by simpa using hlt
  replace hl:cores.length≤9223372036854775807:=hl
  clear hml
  conv=>whnf
  refine ⟨rfl,by omega,by simpa using hlt,fun row hrow => ?_⟩
  obtain ⟨c,hd,rfl⟩:=map_get hrow
  replace hd:cores[i]? = some c:=hd
  rw [coresOk_at hd] at hf
  obtain ⟨_,hcl,hci⟩:=((hcs _ (List.mem_of_getElem? hrow)).2 (codeT c.code) (.tail _ (.head _))).lst
  rw [List.length_map] at hcl
  obtain ⟨cn,cc⟩:=c
  have hB:coreBad (cores.take i) ⟨cn,cc⟩=(!nameB cn || hasN cn (cores.take i) || decide ((cc.length:Int)<1) || decide ((cc.length:Int) > 16384)):=rfl
  rw [show (cc.length:Int)=((cc.map Ins.cells).length:Int) by rw [List.length_map]] at hB
  replace hcl:cc.length≤9223372036854775807:=hcl
  have bad : ∀ {x:Bool},coreBad (cores.take i) ⟨cn,cc⟩=true→x=false→x=coresOk [] cores:=fun h1 h2=>by rw [hf,h1,h2]; rfl
  conv=>whnf
  refine acall.pure _ (k_name cn) rfl rfl fun _ => ?_
  conv=>whnf
  refine csplit (fun h1 => ?_) (fun h1 => ?_)
  ·conv=>whnf
   exact ⟨.inl (congrArg tb (bad (by simp only [hB,h1,Bool.true_or]) rfl)),trivial⟩
  conv=>whnf
  refine ⟨rfl,by simp,by simp,by simp; omega,?_⟩
  conv=>whnf
  refine acall.gen [204] [] _ _ _ _ (k_containsFunc (cores.take i) ⟨cn,cc⟩) rfl rfl rfl rfl ⟨.inl (by simp [List.map_take]),⟨rfl,⟨rfl,rfl⟩,trivial⟩,trivial⟩ aut rfl rfl fun _ => ?_
  conv=>whnf
  refine csplit (fun h2 => ?_) (fun h2 => ?_)
  ·conv=>whnf
   exact ⟨.inl (congrArg tb (bad (by simp only [hB,h2,Bool.or_true,Bool.true_or]) rfl)),trivial⟩
  conv=>whnf
  refine csplit (fun h3 => ?_) (fun h3 => ?_)
  ·conv=>whnf
   exact ⟨.inl (congrArg tb (bad (by simp only [hB,h3,Bool.or_true,Bool.true_or]) rfl)),trivial⟩
  conv=>whnf
  refine csplit (fun h4 => ?_) (fun h4 => ?_)
  ·conv=>whnf
   exact ⟨.inl (congrArg tb (bad (by simp only [hB,h4,Bool.or_true]) rfl)),trivial⟩
  have hB:coreBad (cores.take i) ⟨cn,cc⟩=false:=by simp only [hB,h1,h2,h3,h4,Bool.or_false]
  rw [hB,Bool.false_or] at hf
  have h3' : ¬ ((cc.length:Int)<1):=by have:=of_decide_eq_false h3; rwa [List.length_map] at this
  obtain ⟨n,hn⟩ : ∃ n,n=cc.length:=⟨_,rfl⟩
  rw [← hn] at h3'
  have hcl':n≤9223372036854775807:=by rw [hn]; exact hcl
  have ew:IntKind.i64.wrap (((cc.map Ins.cells).length:Int) - 1)=((cc.length - 1:Nat):Int):=by rw [List.length_map,← hn,w64 (by omega) (by omega)]; omega
  conv=>whnf
  rw [ew]
  refine ⟨rfl,by omega,by rw [List.length_map]; show ((cc.length - 1:Nat):Int)<(cc.length:Int); rw [← hn]; omega,fun row hrow => ?_⟩
  obtain ⟨x,hx,rfl⟩:=map_get hrow
  replace hx:cc[cc.length - 1]? = some x:=hx
  have hL:lastBad ⟨cn,cc⟩=(x.kind != 10 && x.kind != 8):=by unfold lastBad; simp only [hx]
  rw [hL] at hf
  conv=>whnf
  refine csplit (fun h5 => ?_) (fun h5 => ?_)
  ·conv=>whnf
   refine csplit (fun h6 => ?_) (fun h6 => ?_)
   ·rw [h5,h6] at hf
    conv=>whnf
    exact ⟨.inl (congrArg tb hf.symm),trivial⟩
   ·rw [h5,h6] at hf
    conv=>whnf
    exact ⟨i+1,[0],[],Sub.mk' rfl ⟨⟨rfl,rfl⟩,.inl rfl,.inl rfl,.inl (ti_succ hlt hl),trivial⟩ ⟨⟨rfl,.inl rfl,.inl rfl,.inl rfl,.inl rfl,.inl rfl,trivial⟩,trivial⟩ rfl rfl,⟨by omega,hf⟩,by omega⟩
  ·rw [h5] at hf
   conv=>whnf
   exact ⟨i+1,[0],[],Sub.mk' rfl ⟨⟨rfl,rfl⟩,.inl rfl,.inl rfl,.inl (ti_succ hlt hl),trivial⟩ ⟨⟨rfl,.inl rfl,.inl rfl,.inl rfl,.inl rfl,.inl rfl,trivial⟩,trivial⟩ rfl rfl,⟨by omega,hf⟩,by omega⟩
 ·have hge:cores.length≤i:=by simpa using hge
  rw [List.drop_eq_nil_of_le hge] at hf
  conv=>whnf
  refine ⟨fun _ => ?_,fun h=>absurd rfl h⟩
  conv=>whnf
  exact ⟨.inl (congrArg tb hf.symm),trivial⟩
end Go.Proofs.YtbflekglkkdipaaGreatDoor.am
namespace Go.Proofs.YtbflekglkkdipaaGreatDoor.am
open Go Go.Proofs
def badAt (code mem:Int):List Ins→Nat→Int
 | [],_ => -1
 | i::l,n=>bif !rightB i code mem then n else badAt code mem l (n+1)
def coresCk (mem:Int):List Cor→Nat→Int × Int × Int
 | [],_=>(0,0,0)
 | c::l,k=>bif decide (badAt c.code.length mem c.code 0 ≥ 0) then (160,(k:Int),badAt c.code.length mem c.code 0) else coresCk mem l (k+1)
def checkO (o:Ob):Int × Int × Int:=bif !shapedB o then (160,0,0) else coresCk o.memory.length o.cores 0
theorem badAt_at {code mem:Int} {l:List Ins} {i:Nat} {x:Ins} (h:l[i]? = some x):badAt code mem (l.drop i) i=bif !rightB x code mem then (i:Int) else badAt code mem (l.drop (i+1)) (i+1):=by
 rw [drop_cons h]; rfl
theorem coresCk_at {mem:Int} {l:List Cor} {k:Nat} {c:Cor} (h:l[k]? = some c):coresCk mem (l.drop k) k=bif decide (badAt c.code.length mem c.code 0 ≥ 0) then (160,(k:Int),badAt c.code.length mem c.code 0) else coresCk mem (l.drop (k+1)) (k+1):=by
 rw [drop_cons h]; rfl
def tri (x:Int × Int × Int):AV := .tup [.tr (ti x.1),.tr (ti x.2.1),.tr (ti x.2.2)]
set_option maxRecDepth 100000 in
theorem k_check (o:Ob):K 12 [o.av] [] (.ret (tri (checkO o))) []:=by
 refine Ctr.of hT hmix Tryz.func12 rfl (fun _ _=>by kernel_rfl) rfl fun hok => ?_
 obtain ⟨memory,shared,locks,buffer,cores⟩:=o
 obtain ⟨_,hl0,hcs⟩:=((hok.slot 0 rfl).agg _ (.tail _ (.tail _ (.tail _ (.tail _ (.head _)))))).tr.lst
 rw [List.length_map] at hl0
 have hl:cores.length≤9223372036854775807:=hl0
 clear hok hl0
 have hS:checkO ⟨memory,shared,locks,buffer,cores⟩=bif !shapedB ⟨memory,shared,locks,buffer,cores⟩ then (160,0,0) else coresCk memory.length cores 0:=rfl
 generalize hR:checkO ⟨memory,shared,locks,buffer,cores⟩=R at hS ⊢
 clear hR
 conv=>whnf
 refine acall.pure _ (k_shaped ⟨memory,shared,locks,buffer,cores⟩) rfl rfl fun _ => ?_
 conv=>whnf
 refine csplit (fun h1 => ?_) (fun h1 => ?_)
 ·rw [h1] at hS
  rw [hS]
  conv=>whnf
  exact ⟨⟨.inl rfl,.inl rfl,.inl rfl,trivial⟩,trivial⟩
 rw [h1] at hS
 replace hS:R=coresCk memory.length cores 0:=hS
 rw [hS]
 clear hS h1
 conv=>whnf
 refine LoopL.by (fun i:Nat=>⟨[(1,.ptr 0 0),(13,.tr (coresT cores)),(14,.tr (ti cores.length)),(15,.tr (ti i))],[(0,.cells 25 [.tr (intsT memory),.tr (ti shared),.tr (ti locks),.tr (ti buffer),.tr (coresT cores)])],60⟩)
  (fun i=>i≤cores.length∧coresCk memory.length cores 0=coresCk memory.length (cores.drop i) i) (fun i=>cores.length - i) 0 [0] [] (Sub.mk' rfl ⟨⟨rfl,rfl⟩,.inl rfl,.inl (by simp),.inl rfl,trivial⟩ ⟨⟨rfl,.inl rfl,.inl rfl,.inl rfl,.inl rfl,.inl rfl,trivial⟩,trivial⟩ rfl rfl) ⟨Nat.zero_le _,rfl⟩ ?_
 rintro i ⟨hi,hf⟩ -
 conv=>whnf
 refine csplit (fun hlt => ?_) (fun hge => ?_)
 ·have hlt:i<cores.length:=by simpa using hlt
  conv=>whnf
  refine ⟨rfl,by omega,by simpa using hlt,fun row hrow => ?_⟩
  obtain ⟨c,hd,rfl⟩:=map_get hrow
  replace hd:cores[i]? = some c:=hd
  rw [coresCk_at hd] at hf
  obtain ⟨_,hcl0,hci⟩:=((hcs _ (List.mem_of_getElem? hrow)).2 (codeT c.code) (.tail _ (.head _))).lst
  obtain ⟨cn,cc⟩:=c
  rw [List.length_map] at hcl0
  have hcl:cc.length≤9223372036854775807:=hcl0
  clear hcl0
  generalize hN:badAt (cc.length:Int) (memory.length:Int) cc 0=N at hf
  conv=>whnf
  refine LoopL.by (fun k:Nat=>⟨[(1,.ptr 0 0),(5,.tr (ti i)),(6,.ptr 1 0),(13,.tr (coresT cores)),(14,.tr (ti cores.length)),(15,.tr (ti i)),(21,.tr (codeT cc)),(22,.tr (ti cc.length)),(23,.tr (ti k))],
    [(0,.cells 25 [.tr (intsT memory),.tr (ti shared),.tr (ti locks),.tr (ti buffer),.tr (coresT cores)]),(1,.cells 82 [.tr (ts cn),.tr (codeT cc)])],60⟩)
   (fun k=>k≤cc.length∧N=badAt cc.length memory.length (cc.drop k) k) (fun k=>cc.length - k) 0 [0,64] []
   (Sub.mk' rfl ⟨⟨rfl,rfl⟩,.inl rfl,⟨rfl,rfl⟩,.inl rfl,.inl rfl,.inl rfl,.inl rfl,.inl (by simp),.inl rfl,trivial⟩ aut rfl rfl) ⟨Nat.zero_le _,hN.symm⟩ ?_
  rintro k ⟨hk,hg⟩ -
  conv=>whnf
  refine csplit (fun hlt2 => ?_) (fun hge2 => ?_)
  ·have hlt2:k<cc.length:=by simpa using hlt2
   conv=>whnf
   refine ⟨rfl,by omega,by simpa using hlt2,fun row hrow => ?_⟩
   obtain ⟨x,hx,rfl⟩:=map_get hrow
   replace hx:cc[k]? = some x:=hx
   rw [badAt_at hx] at hg
   have hr:=k_right x cc.length memory.length
   obtain ⟨x1,x2,x3,x4,x5,x6,x7,x8,x9⟩:=x
   conv=>whnf
   refine acall.gen [] [] _ _ _ _ hr rfl rfl rfl rfl ⟨aut,.inl (by simp),.inl (by simp),trivial⟩ trivial rfl rfl fun _ => ?_
   conv=>whnf
   refine csplit (fun h2 => ?_) (fun h2 => ?_)
   ·rw [h2] at hg
    replace hg:N=(k:Int):=hg
    subst hg
    rw [show decide ((k:Int) ≥ 0)=true from decide_eq_true (by omega)] at hf
    rw [hf]
    conv=>whnf
    exact ⟨⟨.inl rfl,.inl rfl,.inl rfl,trivial⟩,trivial⟩
   ·rw [h2] at hg
    conv=>whnf
    exact ⟨k+1,[0,1],[],Sub.mk' rfl ⟨⟨rfl,rfl⟩,.inl rfl,⟨rfl,rfl⟩,.inl rfl,.inl rfl,.inl rfl,.inl rfl,.inl rfl,.inl (ti_succ hlt2 hcl),trivial⟩ aut rfl rfl,⟨by omega,hg⟩,by omega⟩
  ·have hge2:cc.length≤k:=by simpa using hge2
   rw [List.drop_eq_nil_of_le hge2] at hg
   replace hg:N = -1:=hg
   subst hg
   conv=>whnf
   refine ⟨fun _ => ?_,fun h=>absurd rfl h⟩
   conv=>whnf
   exact ⟨i+1,[0],[],Sub.mk' rfl ⟨⟨rfl,rfl⟩,.inl rfl,.inl rfl,.inl (ti_succ hlt hl),trivial⟩ ⟨⟨rfl,.inl rfl,.inl rfl,.inl rfl,.inl rfl,.inl rfl,trivial⟩,trivial⟩ rfl rfl,⟨by omega,hf⟩,by omega⟩
 ·have hge:cores.length≤i:=by simpa using hge
  rw [List.drop_eq_nil_of_le hge] at hf
  rw [hf]
  conv=>whnf
  refine ⟨fun _ => ?_,fun h=>absurd rfl h⟩
  conv=>whnf
  exact ⟨⟨.inl rfl,.inl rfl,.inl rfl,trivial⟩,trivial⟩
end Go.Proofs.YtbflekglkkdipaaGreatDoor.am
namespace Go.Proofs.YtbflekglkkdipaaGreatDoor.am
open Go Go.Proofs
structure Good (o:Ob):Prop where
 shared:0≤o.shared∧o.shared≤64
 locks:0≤o.locks∧o.locks≤16
 mem:o.memory.length≤4096
 room:o.shared+o.locks≤o.memory.length
 buffer:1≤o.buffer∧o.buffer≤16
 cores:o.cores.length≤8
 name : ∀ c ∈ o.cores,nameB c.name=true
 code : ∀ c ∈ o.cores,1≤c.code.length∧c.code.length≤16384
 right : ∀ c ∈ o.cores,∀ i ∈ c.code,rightB i c.code.length o.memory.length=true
theorem badAt_ge (code mem:Int) (l:List Ins) (n:Nat):badAt code mem l n = -1∨(n:Int)≤badAt code mem l n:=by
 induction l generalizing n with
 | nil=>exact .inl rfl
 | cons i l ih =>
  unfold badAt
  cases h : !rightB i code mem
  ·rcases ih (n+1) with h' | h'
   ·exact .inl h'
   ·right; show (n:Int)≤badAt code mem l (n+1); omega
  ·right; exact Int.le_refl _
theorem badAt_good {code mem:Int} {l:List Ins} {n:Nat}:badAt code mem l n = -1 ↔ ∀ i ∈ l,rightB i code mem=true:=by
 induction l generalizing n with
 | nil=>simp [badAt]
 | cons i l ih =>
  unfold badAt
  cases h:rightB i code mem
  ·constructor
   ·intro h'; simp only [Bool.not_false,cond_true] at h'; omega
   ·intro h'; rw [h' i (.head _)] at h; cases h
  ·simp only [Bool.not_true,cond_false,ih]
   constructor
   ·rintro h' x (_ | ⟨_,hx⟩)
    ·exact h
    ·exact h' x hx
   ·exact fun h' x hx=>h' x (.tail _ hx)
theorem coresCk_ok {mem:Int} {l:List Cor} {k:Nat}:(coresCk mem l k).1=0 ↔ ∀ c ∈ l,∀ i ∈ c.code,rightB i c.code.length mem=true:=by
 induction l generalizing k with
 | nil=>simp [coresCk]
 | cons c l ih =>
  unfold coresCk
  have hb:=badAt_ge c.code.length mem c.code 0
  by_cases h:badAt c.code.length mem c.code 0 = -1
  ·rw [h]
   simp only [show decide ((-1:Int) ≥ 0)=false from rfl,cond_false,ih]
   have h2:=badAt_good.1 h
   constructor
   ·rintro h' x (_ | ⟨_,hx⟩)
    ·exact h2
    ·exact h' x hx
   ·exact fun h' x hx=>h' x (.tail _ hx)
  ·rw [show decide (badAt c.code.length mem c.code 0 ≥ 0)=true from decide_eq_true (by omega)]
   constructor
   ·intro h'; simp at h'
   ·intro h'; exact absurd (badAt_good.2 (h' c (.head _))) h
theorem coresOk_mem {l pre:List Cor} (h:coresOk pre l=true) : ∀ c ∈ l,nameB c.name=true∧1≤c.code.length∧c.code.length≤16384∧lastBad c=false:=by
 induction l generalizing pre with
 | nil=>intro c hc; cases hc
 | cons d l ih =>
  unfold coresOk at h
  cases hb:coreBad pre d || lastBad d
  ·rw [hb] at h
   rintro c (_ | ⟨_,hc⟩)
   ·simp only [Bool.or_eq_false_iff,coreBad,Bool.not_eq_false',decide_eq_false_iff_not] at hb
    exact ⟨hb.1.1.1.1,by omega,by omega,hb.2⟩
   ·exact ih h c hc
  ·rw [hb] at h; cases h
theorem check_iff {o:Ob}:(checkO o).1=0↔shapedB o=true ∧ ∀ c ∈ o.cores,∀ i ∈ c.code,rightB i c.code.length o.memory.length=true:=by
 unfold checkO
 cases hs:shapedB o
 ·simp
 ·simp [coresCk_ok]
theorem check_good {o:Ob} (h:(checkO o).1=0):Good o:=by
 obtain ⟨h1,h2⟩:=check_iff.1 h
 unfold shapedB at h1
 cases hb:headBad o
 ·rw [hb] at h1
  have hc:=coresOk_mem h1
  simp only [headBad,Bool.or_eq_false_iff,decide_eq_false_iff_not,Int.not_lt,Int.not_le,gt_iff_lt] at hb
  obtain ⟨⟨⟨⟨⟨⟨⟨⟨a1,a2⟩,a3⟩,a4⟩,a5⟩,a6⟩,a7⟩,a8⟩,a9⟩:=hb
  have e:IntKind.i64.wrap (o.shared+o.locks)=o.shared+o.locks:=w64 (by omega) (by omega)
  rw [e] at a5
  exact ⟨⟨by omega,by omega⟩,⟨by omega,by omega⟩,by omega,by omega,⟨by omega,by omega⟩,by omega,fun c h=>(hc c h).1,fun c h=>⟨(hc c h).2.1,(hc c h).2.2.1⟩,h2⟩
 ·rw [hb] at h1; cases h1
theorem right_kind {i:Ins} {code mem:Int} (h:rightB i code mem=true):1≤i.kind∧i.kind<11:=by
 unfold rightB at h
 simp only [Bool.and_eq_true,Bool.not_eq_true',Bool.or_eq_false_iff,Bool.not_eq_false'] at h
 have:=h.1.1.1
 unfold kok at this
 simp only [Bool.and_eq_true,decide_eq_true_eq] at this
 exact this
end Go.Proofs.YtbflekglkkdipaaGreatDoor.am
namespace Go.Proofs.YtbflekglkkdipaaGreatDoor.am
open Go Go.Proofs
structure Sto where
 at_:Int
 addr:Int
 word:Int
def Sto.row (s:Sto):List Tr:=[ti s.at_,ti s.addr,ti s.word]
abbrev bufT (l:List Sto):Tr := .lst 3 24 (l.map Sto.row)
structure Cst where
 at_:Int
 halted:Bool
 regs:List Int
 buf:List Sto
def Cst.row (c:Cst):List Tr:=ti c.at_::tb c.halted::(c.regs.map ti++[bufT c.buf])
structure Did where
 kind:Int
 core:Int
 at_:Int
 addr:Int
 word:Int
 put:Int
 own:Bool
def Did.cells (d:Did):List Tr:=[tu d.kind,ti d.core,ti d.at_,ti d.addr,ti d.word,ti d.put,tb d.own]
def Did.av (d:Did):AV := .agg (d.cells.map .tr)
structure Prn where
 thread:Int
 word:Int
def Prn.row (p:Prn):List Tr:=[ti p.thread,ti p.word]
structure Mst where
 o:Ob
 cores:List Cst
 mem:List Int
 prints:List Prn
abbrev csB (l:List Cst):Blk := .own 19 168 (l.map Cst.row) []
abbrev meB (l:List Int):Blk := .vec 2 1 8 (l.map irow)
abbrev prB (l:List Prn):Blk := .vec 52 2 16 (l.map Prn.row)
abbrev diB (d:Did):Blk := .cells 73 (d.cells.map .tr)
abbrev maB (s:Mst):Blk := .cells 103 [.tr (.v (.slice none 0 0)),.tr (ti s.o.shared),.tr (ti s.o.locks),.tr (ti s.o.buffer),.tr (coresT s.o.cores),.sl 1 s.cores.length,.sl 2 s.mem.length,.sl 3 s.prints.length]
abbrev Mst.blks (s:Mst):List Blk:=[maB s,csB s.cores,meB s.mem,prB s.prints]
abbrev tuA (k:Nat) (i:Ins):AV := .agg [.ptr 0 0,.vpt 1 19 k 0,.tr (tu i.kind),.tr (tu i.op),.tr (ti i.d),.tr (ti i.a),.tr (ti i.b),.tr (ti i.addr),.tr (ti i.to_),.tr (ti i.word),.tr (ti i.from_),.ptr 4 0]
def Cst.setReg (c:Cst) (d:Int) (w:Int):Cst := { c with regs:=c.regs.set d.toNat w }
def Mst.setCore (s:Mst) (k:Nat) (c:Cst):Mst := { s with cores:=s.cores.set k c }
theorem row_len {c:Cst} (h:c.regs.length=16):c.row.length=19:=by simp [Cst.row,h]
theorem row_reg {c:Cst} (h:c.regs.length=16) {d:Int} (h0:0≤d) (h1:d<16):c.row[2+d.toNat]? = some (ti (c.regs.getD d.toNat 0)):=by
 show (ti c.at_::tb c.halted::(c.regs.map ti++[bufT c.buf]))[2+d.toNat]? = _
 rw [Nat.add_comm,List.getElem?_cons_succ,List.getElem?_cons_succ,List.getElem?_append_left (by rw [List.length_map]; omega),List.getElem?_map,List.getD_eq_getElem?_getD]
 rw [List.getElem?_eq_getElem (by omega)]; rfl
theorem row_set {c:Cst} (h:c.regs.length=16) {d:Int} (h0:0≤d) (h1:d<16) (w:Int):c.row.take (2+d.toNat)++[ti w]++c.row.drop (2+d.toNat+1)=(c.setReg d w).row:=by
 obtain ⟨n,rfl⟩:=Int.eq_ofNat_of_zero_le h0
 have hn:n<16:=by omega
 show (ti c.at_::tb c.halted::(c.regs.map ti++[bufT c.buf])).take (2+n)++[ti w]++(ti c.at_::tb c.halted::(c.regs.map ti++[bufT c.buf])).drop (2+n+1)=ti c.at_::tb c.halted::((c.regs.set n w).map ti++[bufT c.buf])
 rw [show 2+n+1=(n+1)+1+1 by omega,show 2+n=n+1+1 by omega,List.take_succ_cons,List.take_succ_cons,List.drop_succ_cons,List.drop_succ_cons,List.cons_append,List.cons_append,List.cons_append,List.cons_append]
 rw [List.take_append_of_le_length (by rw [List.length_map]; omega),List.drop_append_of_le_length (by rw [List.length_map]; omega),List.map_set,← List.append_assoc]
 congr 3
 rw [List.set_eq_take_append_cons_drop,if_pos (by rw [List.length_map]; omega),List.append_assoc]; rfl
theorem cores_set {cs:List Cst} {k:Nat} {c:Cst}:(cs.map Cst.row).set k c.row=(cs.set k c).map Cst.row:=by rw [List.map_set]
theorem csB_reg (s:Mst) {k:Nat} {c:Cst} (h:c.regs.length=16) {d:Int} (h0:0≤d) (h1:d<16) (w:Int):(s.cores.map Cst.row).set k (c.row.take (0+2+d.toNat*1)++[ti w]++c.row.drop (0+2+d.toNat*1+[ti w].length))=(s.setCore k (c.setReg d w)).cores.map Cst.row:=by
 rw [show 0+2+d.toNat*1=2+d.toNat by omega]
 show _=(s.cores.set k (c.setReg d w)).map Cst.row
 rw [← cores_set,← row_set h h0 h1]; rfl
set_option maxRecDepth 100000 in
theorem k_set (s:Mst) (k:Nat) (i:Ins) (d:Did) {c:Cst} (hc:s.cores[k]? = some c) (h16:c.regs.length=16) (h0:0≤i.d) (h1:i.d<16) :
  K 85 [tuA k i] (s.blks++[diB d]) (.ret (.tup [])) ((s.setCore k (c.setReg i.d i.word)).blks.map some++[some (diB { d with kind:=1 })]):=by
 obtain ⟨kind,op,D,a,b,addr,to_,word,from_⟩:=i
 simp only at h0 h1
 obtain ⟨dk,dc,da,dd,dw,dp,dn⟩:=d
 refine Ctr.of hT hmix Tryz.func85 rfl (fun _ _=>by kernel_rfl) rfl fun hok => ?_
 clear hok
 have hlt:k<s.cores.length:=(List.getElem?_eq_some_iff.1 hc).1
 conv=>whnf
 refine ⟨h0,h1,?_⟩
 conv=>whnf
 refine ⟨rfl,rfl,rfl,by rw [List.length_map]; exact hlt,trivial,fun row hrow => ?_⟩
 obtain rfl:row=c.row:=by rw [List.getElem?_map,hc] at hrow; exact (Option.some.inj hrow).symm
 refine ⟨by rw [row_len h16]; show 0+2+D.toNat*1+1≤19; omega,?_⟩
 conv=>whnf
 refine ⟨by kernel_rfl,fun _ => ?_⟩
 conv=>whnf
 exact ⟨trivial,⟨rfl,.inl rfl,.inl rfl,.inl rfl,.inl rfl,.inl rfl,⟨rfl,by simp [Mst.setCore]⟩,⟨rfl,rfl⟩,⟨rfl,rfl⟩,trivial⟩,⟨rfl,rfl,rfl,rfl,.inl (csB_reg s h16 h0 h1 word)⟩,⟨rfl,rfl,rfl,rfl⟩,⟨rfl,rfl,rfl,rfl⟩,⟨rfl,.inl rfl,.inl rfl,.inl rfl,.inl rfl,.inl rfl,.inl rfl,.inl rfl,trivial⟩,trivial⟩
end Go.Proofs.YtbflekglkkdipaaGreatDoor.am
namespace Go.Proofs.YtbflekglkkdipaaGreatDoor.am
open Go Go.Proofs
theorem nil_region {X:Gh→World→Prop} {k N id nx d0 d1 d2 t e a1 a2 n B:Nat} {a3:List Z} {a4:Bool} {pos1 pos2:String} {af1 af2:Array Edge} {ty1 ty2 ty3:Nat} {Q:QL} {tl:List (Nat × AV)} {bl:List (Nat × Option Blk)} {ops:Array Oper} {rows:List (List Tr)}
  (hops:ops=[⟨some d1,.move (.tmp d0),ty1,pos1,af1,none⟩,⟨some d2,.binOp .eql t (.tmp d1) (.const (.slice none 0 0)) ty3,ty2,pos2,af2,none⟩].toArray)
  (ht:lk T t=some ⟨.slice e,a1,a2,a3,a4⟩) (h0:lk tl d0=some (.tr (.lst n B rows))) (hd1:Nat.blt d1 N=true) (hd2:Nat.blt d2 N=true) (hb:nx+2≤HMod)
  (h : ∀ b:Bool,(rows≠[]→b=false)→aopsL Tryz.prog T N ops nx Q [] 2 (putLs (putLs tl (some d1) (.tr (.lst n B rows))) (some d2) (.tr (tb b))) bl) :
  Wp X Tryz.prog k N (.region id ops false) (Ql Q) (LS.mk tl bl nx).st:=by
 intro g0 g w0 w act hk hs
 refine wp_region_list ?_
 have hN:=hs.size
 replace hd1:d1<N:=Nat.le_of_ble_eq_true hd1
 replace hd2:d2<N:=Nat.le_of_ble_eq_true hd2
 obtain ⟨_,hR⟩:=hs.fr d0 _ h0
 obtain ⟨ao,cap,f,hv,q1,q2,q3,q4,q5,q6⟩:=lst_inv hR.tr_inv
 obtain ⟨ti,u,zt,_,u2,u3,_⟩:=hT.info ht
 obtain rfl:=D_slice u3
 have hb':=h ao.isNone (fun hne=>by
  cases rows with
  | nil=>exact absurd rfl hne
  | cons r rs =>
   obtain ⟨_,b,o,e1,_⟩:=q5 0 r rfl
   rw [e1]; rfl)
 have hto:ops.toList=[⟨some d1,.move (.tmp d0),ty1,pos1,af1,none⟩,⟨some d2,.binOp .eql t (.tmp d1) (.const (.slice none 0 0)) ty3,ty2,pos2,af2,none⟩]:=by rw [hops]
 rw [hto]
 have hev0:act.eval (.tmp d0) = .slice ao rows.length cap:=hv
 unfold wpList
 rw [if_pos (by simp [Region.wanted])]
 refine .inl ?_
 unfold Oper.wp
 rw [show (execOp act.eval ⟨some d1,.move (.tmp d0),ty1,pos1,af1,none⟩).run Tryz.prog w = .ok (.value (.slice ao rows.length cap)) w by simp [execOp,hev0]]
 show wpList Tryz.prog ops _ _ (act.put (some d1) (.slice ao rows.length cap)) _
 unfold wpList
 rw [if_pos (by simp [Region.wanted])]
 refine .inl ?_
 unfold Oper.wp
 have he:(act.put (some d1) (.slice ao rows.length cap)).eval (.tmp d1) = .slice ao rows.length cap:=by
  show (act.tmps.setIfInBounds d1 _).getD d1 undef=_
  rw [getD_set (by omega),if_pos rfl]
 have heq:(Op.equal t (.slice ao rows.length cap) (.slice none 0 0)).run Tryz.prog w = .ok ao.isNone w:=by
  show (Op.equalIn (9999+1) t (.slice ao rows.length cap) (.slice none 0 0)).run Tryz.prog w = .ok ao.isNone w
  generalize 9999=m
  cases ao <;> simp [Op.equalIn,run_underlying u2]
 have hc:(act.put (some d1) (.slice ao rows.length cap)).eval (.const (.slice none 0 0)) = .slice none 0 0:=rfl
 rw [show (execOp (act.put (some d1) (.slice ao rows.length cap)).eval ⟨some d2,.binOp .eql t (.tmp d1) (.const (.slice none 0 0)) ty3,ty2,pos2,af2,none⟩).run Tryz.prog w = .ok (.value (.bool ao.isNone)) w by simp [execOp,he,hc,eqGuard,binOp,heq]]
 change wpList Tryz.prog ops (Post g0 w0 N (Ql Q)) [] ((act.put (some d1) (.slice ao rows.length cap)).put (some d2) (.bool ao.isNone)) w
 have hR':Rep g w (.slice ao rows.length cap) (.tr (.lst n B rows)):=by rw [← hv]; exact hR
 obtain ⟨p1,p2⟩:=put_ok (dst:=some d1) hN hs.fr (Grow.refl _ _) (by unfold dstOk; exact Nat.ble_eq_true_of_le hd1) hR'
 obtain ⟨r1,r2⟩:=put_ok (dst:=some d2) p1 p2 (Grow.refl _ _) (by unfold dstOk; exact Nat.ble_eq_true_of_le hd2) (show Rep g w (.bool ao.isNone) (.tr (tb ao.isNone)) from .tr (.v trivial))
 refine aopsL_sound hT nx Q [] 2 _ bl g _ _ (by show nx+(2+0)≤HMod; omega) hb' ⟨r1,(put_defers ..).trans ((put_defers ..).trans hs.defers),?_,hs.mem,fun h hh=>hs.un h (by show nx≤h % HMod; omega),hs.grow⟩
 rw [putLs_lk,putLs_lk]
 exact r2
end Go.Proofs.YtbflekglkkdipaaGreatDoor.am
namespace Go.Proofs.YtbflekglkkdipaaGreatDoor.am
open Go Go.Proofs
set_option maxRecDepth 100000 in
theorem k_cloneI (l:List Int) (hl:l.length*8≤150000000000000):K 41 [.tr (intsT l)] [] (.ret (.sl 0 l.length)) [some (meB l)]:=by
 refine Ctr.new [2000001,0] hT hmix Tryz.func41 rfl (fun _ _=>by kernel_rfl) rfl fun hok => ?_
 clear hok
 conv=>whnf
 refine nil_region rfl rfl rfl rfl rfl (by decide) fun b hb => ?_
 cases b
 ·conv=>whnf
  refine CutL.by (fun _:Unit=>⟨[(2,.sl 0 l.length)],[(0,meB l)],10⟩) (fun _=>True) ?_ ?_
  ·conv=>whnf
   refine ⟨rfl,rfl,rfl,Nat.le_refl _,(by show (0+(l.map irow).length)*8≤150000000000000; rw [List.length_map]; omega),(fun q hq=>by cases hq),?_⟩
   conv=>whnf
   exact ⟨(),[_],[],Sub.mk' rfl ⟨⟨rfl,by simp⟩,trivial⟩ ⟨⟨rfl,rfl,rfl,rfl⟩,trivial⟩ rfl rfl,trivial⟩
  ·rintro - - -
   conv=>whnf
   exact ⟨[0],rfl,rfl,⟨rfl,rfl⟩,⟨rfl,rfl,rfl,rfl⟩,trivial⟩
 ·obtain rfl:l=[]:=by
   cases l with
   | nil=>rfl
   | cons x l=>exact absurd (hb (by simp)) (by simp)
  conv=>whnf
  refine CutL.by (fun _:Unit=>⟨[(2,.sl 0 0)],[(0,meB [])],10⟩) (fun _=>True) ?_ ?_
  ·conv=>whnf
   exact ⟨(),[],[0],Sub.mk' rfl ⟨⟨rfl,rfl,rfl,rfl⟩,trivial⟩ ⟨⟨rfl,_,_,_,rfl,by decide⟩,trivial⟩ rfl rfl,trivial⟩
  ·rintro - - -
   conv=>whnf
   exact ⟨[0],rfl,rfl,⟨rfl,rfl⟩,⟨rfl,rfl,rfl,rfl⟩,trivial⟩
abbrev codeV (l:List Ins):Blk := .vec 79 9 64 (l.map Ins.cells)
set_option maxRecDepth 100000 in
theorem k_cloneN (l:List Ins) (hl:l.length*64≤150000000000000):K 40 [.tr (codeT l)] [] (.ret (.sl 0 l.length)) [some (codeV l)]:=by
 refine Ctr.new [2000001,0] hT hmix Tryz.func40 rfl (fun _ _=>by kernel_rfl) rfl fun hok => ?_
 clear hok
 conv=>whnf
 refine nil_region rfl rfl rfl rfl rfl (by decide) fun b hb => ?_
 cases b
 ·conv=>whnf
  refine CutL.by (fun _:Unit=>⟨[(2,.sl 0 l.length)],[(0,codeV l)],10⟩) (fun _=>True) ?_ ?_
  ·conv=>whnf
   refine ⟨rfl,rfl,rfl,Nat.le_refl _,(by show (0+(l.map Ins.cells).length)*64≤150000000000000; rw [List.length_map]; omega),(fun q hq=>by cases hq),?_⟩
   conv=>whnf
   exact ⟨(),[_],[],Sub.mk' rfl ⟨⟨rfl,by simp⟩,trivial⟩ ⟨⟨rfl,rfl,rfl,rfl⟩,trivial⟩ rfl rfl,trivial⟩
  ·rintro - - -
   conv=>whnf
   exact ⟨[0],rfl,rfl,⟨rfl,rfl⟩,⟨rfl,rfl,rfl,rfl⟩,trivial⟩
 ·obtain rfl:l=[]:=by
   cases l with
   | nil=>rfl
   | cons x l=>exact absurd (hb (by simp)) (by simp)
  conv=>whnf
  refine CutL.by (fun _:Unit=>⟨[(2,.sl 0 0)],[(0,codeV [])],10⟩) (fun _=>True) ?_ ?_
  ·conv=>whnf
   exact ⟨(),[],[0],Sub.mk' rfl ⟨⟨rfl,rfl,rfl,rfl⟩,trivial⟩ ⟨⟨rfl,_,_,_,rfl,by decide⟩,trivial⟩ rfl rfl,trivial⟩
  ·rintro - - -
   conv=>whnf
   exact ⟨[0],rfl,rfl,⟨rfl,rfl⟩,⟨rfl,rfl,rfl,rfl⟩,trivial⟩
end Go.Proofs.YtbflekglkkdipaaGreatDoor.am
namespace Go.Proofs.YtbflekglkkdipaaGreatDoor.am
open Go Go.Proofs
theorem row_reg' {c:Cst} (h:c.regs.length=16) {d:Int} (h0:0≤d) (h1:d<16) {t:Tr} (ht:c.row[0+2+d.toNat*1]? = some t):t=ti (c.regs.getD d.toNat 0):=by
 rw [show 0+2+d.toNat*1=2+d.toNat by omega,row_reg h h0 h1] at ht
 exact (Option.some.inj ht).symm
theorem row_off {c:Cst} (h:c.regs.length=16) {d:Int} (h1:d<16):0+2+d.toNat*1<c.row.length:=by rw [row_len h]; omega
theorem row_off1 {c:Cst} (h:c.regs.length=16) {d:Int} (h1:d<16):0+2+d.toNat*1+1≤c.row.length:=by rw [row_len h]; omega
theorem row_of {cs:List Cst} {k:Nat} {c:Cst} (hc:cs[k]? = some c) {row:List Tr} (h:(cs.map Cst.row)[k]? = some row):row=c.row:=by
 rw [List.getElem?_map,hc] at h
 exact (Option.some.inj h).symm
theorem core_lt {s:Mst} {k:Nat} {c:Cst} (hc:s.cores[k]? = some c):k<(s.cores.map Cst.row).length:=by rw [List.length_map]; exact (List.getElem?_eq_some_iff.1 hc).1
def Cst.reg (c:Cst) (d:Int):Int:=c.regs.getD d.toNat 0
theorem csB_at (s:Mst) {k:Nat} {c:Cst} (w:Int):(s.cores.map Cst.row).set k (c.row.take (0+0)++[ti w]++c.row.drop (0+0+[ti w].length))=(s.setCore k { c with at_:=w }).cores.map Cst.row:=by
 show _=(s.cores.set k { c with at_:=w }).map Cst.row
 rw [← cores_set]; rfl
theorem csB_same (s:Mst) {k:Nat} {c:Cst} (hc:s.cores[k]? = some c):(s.setCore k { c with at_:=c.at_ }).cores.map Cst.row=s.cores.map Cst.row:=by
 show (s.cores.set k c).map Cst.row=_
 congr 1
 exact List.ext_getElem? fun j=>by
  rw [List.getElem?_set]
  split
  ·rename_i h; subst h
   rw [hc,if_pos (List.getElem?_eq_some_iff.1 hc).1]
  ·rfl
theorem csB_two (s:Mst) {k:Nat} {c:Cst} (w:Int):(s.cores.map Cst.row).set k ((c.row.take (0+1)++[tb true]++c.row.drop (0+1+[tb true].length)).take (0+0)++[ti w]++(c.row.take (0+1)++[tb true]++c.row.drop (0+1+[tb true].length)).drop (0+0+[ti w].length))=(s.setCore k { c with halted:=true,at_:=w }).cores.map Cst.row:=by
 show _=(s.cores.set k { c with halted:=true,at_:=w }).map Cst.row
 rw [← cores_set]; rfl
theorem set_get {cs:List Cst} {k:Nat} {c:Cst} (hc:cs[k]? = some c) {row:List Tr} {r:List Tr} (h:((cs.map Cst.row).set k r)[k]? = some row):row=r:=by
 have hk:=(List.getElem?_eq_some_iff.1 hc).1
 rw [List.getElem?_set_self (by rw [List.length_map]; exact hk)] at h
 exact (Option.some.inj h).symm
set_option maxRecDepth 100000 in
theorem k_vfence (s:Mst) (k:Nat) (i:Ins) (d:Did) {c:Cst} (hc:s.cores[k]? = some c) (h16:c.regs.length=16) :
  K 90 [tuA k i] (s.blks++[diB d]) (.ret (.tup [])) ((s).blks.map some++[some (diB { d with kind:=5 })]):=by
 obtain ⟨kind,op,D,a,b,addr,to_,word,from_⟩:=i
 obtain ⟨dk,dc,da,dd,dw,dp,dn⟩:=d
 simp only at *
 refine Ctr.of hT hmix Tryz.func90 rfl (fun _ _=>by kernel_rfl) rfl fun hok => ?_
 clear hok
 have hlt:=core_lt hc
 conv=>whnf
 exact ⟨trivial,⟨rfl,.inl rfl,.inl rfl,.inl rfl,.inl rfl,.inl rfl,⟨rfl,by simp [Mst.setCore]⟩,⟨rfl,by simp [Mst.setCore]⟩,⟨rfl,by simp [Mst.setCore]⟩,trivial⟩,⟨rfl,rfl,rfl,rfl,.inl rfl⟩,⟨rfl,rfl,rfl,rfl⟩,⟨rfl,rfl,rfl,rfl⟩,⟨rfl,.inl rfl,.inl rfl,.inl rfl,.inl rfl,.inl rfl,.inl rfl,.inl rfl,trivial⟩,trivial⟩
set_option maxRecDepth 100000 in
theorem k_vjump (s:Mst) (k:Nat) (i:Ins) (d:Did) {c:Cst} (hc:s.cores[k]? = some c) (h16:c.regs.length=16) :
  K 92 [tuA k i] (s.blks++[diB d]) (.ret (.tup [])) ((s.setCore k { c with at_:=i.to_ }).blks.map some++[some (diB { d with kind:=1 })]):=by
 obtain ⟨kind,op,D,a,b,addr,to_,word,from_⟩:=i
 obtain ⟨dk,dc,da,dd,dw,dp,dn⟩:=d
 simp only at *
 refine Ctr.of hT hmix Tryz.func92 rfl (fun _ _=>by kernel_rfl) rfl fun hok => ?_
 clear hok
 have hlt:=core_lt hc
 conv=>whnf
 refine ⟨rfl,rfl,rfl,hlt,trivial,fun row hrow => ?_⟩
 obtain rfl:=row_of hc hrow
 refine ⟨by rw [row_len h16]; show 0+0+1≤19; decide,?_⟩
 conv=>whnf
 exact ⟨trivial,⟨rfl,.inl rfl,.inl rfl,.inl rfl,.inl rfl,.inl rfl,⟨rfl,by simp [Mst.setCore]⟩,⟨rfl,by simp [Mst.setCore]⟩,⟨rfl,by simp [Mst.setCore]⟩,trivial⟩,⟨rfl,rfl,rfl,rfl,.inl (csB_at s to_)⟩,⟨rfl,rfl,rfl,rfl⟩,⟨rfl,rfl,rfl,rfl⟩,⟨rfl,.inl rfl,.inl rfl,.inl rfl,.inl rfl,.inl rfl,.inl rfl,.inl rfl,trivial⟩,trivial⟩
set_option maxRecDepth 100000 in
theorem k_vzero (s:Mst) (k:Nat) (i:Ins) (d:Did) {c:Cst} (hc:s.cores[k]? = some c) (h16:c.regs.length=16) (ha0:0≤i.a) (ha1:i.a<16) :
  K 93 [tuA k i] (s.blks++[diB d]) (.ret (.tup [])) ((s.setCore k { c with at_:=bif c.reg i.a == 0 then i.to_ else c.at_ }).blks.map some++[some (diB { d with kind:=1 })]):=by
 obtain ⟨kind,op,D,a,b,addr,to_,word,from_⟩:=i
 obtain ⟨dk,dc,da,dd,dw,dp,dn⟩:=d
 simp only at *
 refine Ctr.of hT hmix Tryz.func93 rfl (fun _ _=>by kernel_rfl) rfl fun hok => ?_
 clear hok
 have hlt:=core_lt hc
 conv=>whnf
 refine ⟨ha0,ha1,?_⟩
 conv=>whnf
 refine ⟨rfl,hlt,fun row hrow => ?_⟩
 obtain rfl:=row_of hc hrow
 refine ⟨row_off h16 ha1,fun t ht => ?_⟩
 obtain rfl:=row_reg' h16 ha0 ha1 ht
 clear ht hrow
 conv=>whnf
 refine ⟨by kernel_rfl,fun _ => ?_⟩
 conv=>whnf
 refine csplit (fun hz => ?_) (fun hz => ?_)
 ·replace hz:(c.reg a == 0)=true:=hz
  rw [hz]
  conv=>whnf
  refine ⟨rfl,rfl,rfl,hlt,trivial,fun row hrow => ?_⟩
  obtain rfl:=row_of hc hrow
  refine ⟨by rw [row_len h16]; show 0+0+1≤19; decide,?_⟩
  conv=>whnf
  exact ⟨trivial,⟨rfl,.inl rfl,.inl rfl,.inl rfl,.inl rfl,.inl rfl,⟨rfl,by simp [Mst.setCore]⟩,⟨rfl,by simp [Mst.setCore]⟩,⟨rfl,by simp [Mst.setCore]⟩,trivial⟩,⟨rfl,rfl,rfl,rfl,.inl (csB_at s to_)⟩,⟨rfl,rfl,rfl,rfl⟩,⟨rfl,rfl,rfl,rfl⟩,⟨rfl,.inl rfl,.inl rfl,.inl rfl,.inl rfl,.inl rfl,.inl rfl,.inl rfl,trivial⟩,trivial⟩
 ·replace hz:(c.reg a == 0)=false:=hz
  rw [hz]
  conv=>whnf
  exact ⟨trivial,⟨rfl,.inl rfl,.inl rfl,.inl rfl,.inl rfl,.inl rfl,⟨rfl,by simp [Mst.setCore]⟩,⟨rfl,by simp [Mst.setCore]⟩,⟨rfl,by simp [Mst.setCore]⟩,trivial⟩,⟨rfl,rfl,rfl,rfl,.inl (csB_same s hc).symm⟩,⟨rfl,rfl,rfl,rfl⟩,⟨rfl,rfl,rfl,rfl⟩,⟨rfl,.inl rfl,.inl rfl,.inl rfl,.inl rfl,.inl rfl,.inl rfl,.inl rfl,trivial⟩,trivial⟩
set_option maxRecDepth 100000 in
theorem k_vhalt (s:Mst) (k:Nat) (i:Ins) (d:Did) {c:Cst} (hc:s.cores[k]? = some c) (h16:c.regs.length=16) :
  K 94 [tuA k i] (s.blks++[diB d]) (.ret (.tup [])) ((s.setCore k { c with halted:=true,at_:=d.at_ }).blks.map some++[some (diB { d with kind:=7 })]):=by
 obtain ⟨kind,op,D,a,b,addr,to_,word,from_⟩:=i
 obtain ⟨dk,dc,da,dd,dw,dp,dn⟩:=d
 simp only at *
 refine Ctr.of hT hmix Tryz.func94 rfl (fun _ _=>by kernel_rfl) rfl fun hok => ?_
 clear hok
 have hlt:=core_lt hc
 conv=>whnf
 refine ⟨rfl,rfl,rfl,hlt,trivial,fun row hrow => ?_⟩
 obtain rfl:=row_of hc hrow
 refine ⟨by rw [row_len h16]; show 0+1+1≤19; decide,?_⟩
 conv=>whnf
 refine ⟨rfl,rfl,rfl,by rw [List.length_set]; exact hlt,trivial,fun row hrow => ?_⟩
 obtain rfl:=set_get hc hrow
 refine ⟨by simp [row_len h16],?_⟩
 conv=>whnf
 refine ⟨by kernel_rfl,fun _ => ?_⟩
 conv=>whnf
 exact ⟨trivial,⟨rfl,.inl rfl,.inl rfl,.inl rfl,.inl rfl,.inl rfl,⟨rfl,by simp [Mst.setCore]⟩,⟨rfl,by simp [Mst.setCore]⟩,⟨rfl,by simp [Mst.setCore]⟩,trivial⟩,⟨rfl,rfl,rfl,rfl,.inl (by rw [List.set_set]; exact csB_two s da)⟩,⟨rfl,rfl,rfl,rfl⟩,⟨rfl,rfl,rfl,rfl⟩,⟨rfl,.inl rfl,.inl rfl,.inl rfl,.inl rfl,.inl rfl,.inl rfl,.inl rfl,trivial⟩,trivial⟩
theorem mem_get {l:List Int} {i:Nat} {row:List Tr} (h:(l.map irow)[i]? = some row) : ∃ x,l[i]? = some x∧row=irow x:=by
 rw [List.getElem?_map,Option.map_eq_some_iff] at h
 obtain ⟨x,h1,rfl⟩:=h
 exact ⟨x,h1,rfl⟩
theorem mem_set (l:List Int) (i:Nat) (w:Int) {row:List Tr} (h:row.length=1):(l.map irow).set i (row.take 0++[ti w]++row.drop (0+1))=(l.set i w).map irow:=by
 rw [List.map_set,List.drop_of_length_le (by omega)]; rfl
set_option maxRecDepth 100000 in
theorem k_vswap (s:Mst) (k:Nat) (i:Ins) (d:Did) {c:Cst} (hc:s.cores[k]? = some c) (h16:c.regs.length=16) (hD0:0≤i.d) (hD1:i.d<16) (hm0:0≤i.addr) (hm1:i.addr<(s.mem.length:Int)) :
  K 89 [tuA k i] (s.blks++[diB d]) (.ret (.tup [])) ((({ s.setCore k (c.setReg i.d (s.mem.getD i.addr.toNat 0)) with mem:=s.mem.set i.addr.toNat (c.reg i.d) }:Mst)).blks.map some++[some (diB { d with kind:=4,addr:=i.addr,word:=s.mem.getD i.addr.toNat 0,put:=c.reg i.d })]):=by
 obtain ⟨kind,op,D,a,b,addr,to_,word,from_⟩:=i
 obtain ⟨dk,dc,da,dd,dw,dp,dn⟩:=d
 simp only at *
 refine Ctr.of hT hmix Tryz.func89 rfl (fun _ _=>by kernel_rfl) rfl fun hok => ?_
 clear hok
 have hlt:=core_lt hc
 conv=>whnf
 refine ⟨by kernel_rfl,fun _ => ?_⟩
 conv=>whnf
 refine ⟨rfl,hm0,hm1,?_⟩
 conv=>whnf
 refine ⟨rfl,by rw [List.length_map]; show addr.toNat<s.mem.length; omega,fun row hrow => ?_⟩
 obtain ⟨x,hx,rfl⟩:=mem_get hrow
 obtain rfl:x=s.mem.getD addr.toNat 0:=by rw [List.getD_eq_getElem?_getD,show s.mem[addr.toNat]? = some x from hx]; rfl
 refine ⟨Nat.zero_lt_one,fun t ht => ?_⟩
 obtain rfl:t=ti (s.mem.getD addr.toNat 0):=(Option.some.inj ht).symm
 clear hrow ht
 conv=>whnf
 refine ⟨hD0,hD1,?_⟩
 conv=>whnf
 refine ⟨rfl,hlt,fun row hrow => ?_⟩
 obtain rfl:=row_of hc hrow
 refine ⟨row_off h16 hD1,fun t ht => ?_⟩
 obtain rfl:=row_reg' h16 hD0 hD1 ht
 clear ht hrow
 conv=>whnf
 refine ⟨by kernel_rfl,fun _ => ?_⟩
 conv=>whnf
 refine ⟨rfl,hm0,hm1,?_⟩
 conv=>whnf
 refine ⟨rfl,rfl,by rw [List.length_map]; show addr.toNat<s.mem.length; omega,fun row hrow => ?_⟩
 obtain ⟨y,_,rfl⟩:=mem_get hrow
 refine ⟨Nat.le_refl _,?_⟩
 clear hrow
 conv=>whnf
 refine ⟨hD0,hD1,?_⟩
 conv=>whnf
 refine ⟨rfl,rfl,rfl,hlt,trivial,fun row hrow => ?_⟩
 obtain rfl:=row_of hc hrow
 refine ⟨row_off1 h16 hD1,?_⟩
 conv=>whnf
 refine ⟨by kernel_rfl,fun _ => ?_⟩
 conv=>whnf
 exact ⟨trivial,⟨rfl,.inl rfl,.inl rfl,.inl rfl,.inl rfl,.inl rfl,⟨rfl,by simp [Mst.setCore]⟩,⟨rfl,by simp [Mst.setCore]⟩,⟨rfl,by simp [Mst.setCore]⟩,trivial⟩,⟨rfl,rfl,rfl,rfl,.inl (csB_reg s h16 hD0 hD1 _)⟩,⟨rfl,rfl,rfl,mem_set s.mem addr.toNat _ rfl⟩,⟨rfl,rfl,rfl,rfl⟩,⟨rfl,.inl rfl,.inl rfl,.inl rfl,.inl rfl,.inl rfl,.inl rfl,.inl rfl,trivial⟩,trivial⟩
abbrev maP (s:Mst) (h:Nat):Blk := .cells 103 [.tr (.v (.slice none 0 0)),.tr (ti s.o.shared),.tr (ti s.o.locks),.tr (ti s.o.buffer),.tr (coresT s.o.cores),.sl 1 s.cores.length,.sl 2 s.mem.length,.sl h s.prints.length]
set_option maxRecDepth 100000 in
theorem k_vprint (s:Mst) (k:Nat) (i:Ins) (d:Did) {c:Cst} (hc:s.cores[k]? = some c) (h16:c.regs.length=16) (ha0:0≤i.a) (ha1:i.a<16) (hp:s.prints.length≤1048576) :
  K 91 [tuA k i] (s.blks++[diB d]) (.ret (.tup [])) [some (maP { s with prints:=s.prints++[Prn.mk d.core (c.reg i.a)] } 5),some (csB s.cores),some (meB s.mem),none,some (diB { d with kind:=6,word:=c.reg i.a }),some (prB (s.prints++[Prn.mk d.core (c.reg i.a)]))]:=by
 obtain ⟨kind,op,D,a,b,addr,to_,word,from_⟩:=i
 obtain ⟨dk,dc,da,dd,dw,dp,dn⟩:=d
 simp only at *
 refine Ctr.new [] hT hmix Tryz.func91 rfl (fun _ _=>by kernel_rfl) rfl fun hok => ?_
 clear hok
 have hlt:=core_lt hc
 conv=>whnf
 refine ⟨ha0,ha1,?_⟩
 conv=>whnf
 refine ⟨rfl,hlt,fun row hrow => ?_⟩
 obtain rfl:=row_of hc hrow
 refine ⟨row_off h16 ha1,fun t ht => ?_⟩
 obtain rfl:=row_reg' h16 ha0 ha1 ht
 clear ht hrow
 conv=>whnf
 refine ⟨by kernel_rfl,fun _ => ?_⟩
 conv=>whnf
 refine ⟨rfl,rfl,rfl,by simp,by simp; omega,fun q hq=>by simp at hq; subst hq; simp,?_⟩
 conv=>whnf
 refine ⟨by kernel_rfl,fun _ => ?_⟩
 conv=>whnf
 exact ⟨[0,1,2,3,4,_],rfl,rfl,trivial,⟨rfl,.inl rfl,.inl rfl,.inl rfl,.inl rfl,.inl rfl,⟨rfl,rfl⟩,⟨rfl,rfl⟩,⟨rfl,by simp⟩,trivial⟩,⟨rfl,rfl,rfl,rfl,.inl rfl⟩,⟨rfl,rfl,rfl,rfl⟩,⟨rfl,.inl rfl,.inl rfl,.inl rfl,.inl rfl,.inl rfl,.inl rfl,.inl rfl,trivial⟩,⟨rfl,rfl,rfl,by rw [List.take_of_length_le (by simp),List.map_append]; rfl⟩,trivial⟩
end Go.Proofs.YtbflekglkkdipaaGreatDoor.am
namespace Go.Proofs.YtbflekglkkdipaaGreatDoor.am
open Go Go.Proofs
theorem row_buf {c:Cst} (h:c.regs.length=16) {t:Tr} (ht:c.row[18]? = some t):t=bufT c.buf:=by
 unfold Cst.row at ht
 rw [List.getElem?_cons_succ,List.getElem?_cons_succ,List.getElem?_append_right (by rw [List.length_map]; omega),List.length_map,h] at ht
 exact (Option.some.inj ht).symm
theorem new_leaf3 (a b c:Int):leafR [[ti a,ti b,ti c]]:=by
 intro row hr t ht
 simp only [List.mem_cons,List.not_mem_nil,or_false] at hr
 subst hr
 simp only [List.mem_cons,List.not_mem_nil,or_false] at ht
 rcases ht with rfl | rfl | rfl <;> exact ⟨_,rfl⟩
theorem setC_set {rows:List (List Tr)} {k j:Nat} {r:List Tr} {t:Tr} (h:k<rows.length):setC (rows.set k r) k j t=rows.set k (r.set j t):=by
 unfold setC
 rw [List.getElem?_set_self h]
 simp only [List.set_set]
 rfl
theorem csB_buf (s:Mst) {k:Nat} {c:Cst} (hc:s.cores[k]? = some c) (h16:c.regs.length=16) (x:Tr) (b:List Sto):setC ((s.cores.map Cst.row).set k (c.row.take (0+18)++[x]++c.row.drop (0+18+[x].length))) k 18 (bufT b)=(s.setCore k { c with buf:=b }).cores.map Cst.row:=by
 have hA:(ti c.at_::tb c.halted::c.regs.map ti).length=18:=by simp [h16]
 have e:c.row=(ti c.at_::tb c.halted::c.regs.map ti)++[bufT c.buf]:=rfl
 rw [setC_set (core_lt hc)]
 show _=(s.cores.set k { c with buf:=b }).map Cst.row
 rw [← cores_set]
 congr 1
 rw [e,List.take_append_of_le_length (by rw [hA]; decide),List.take_of_length_le (by rw [hA]; decide),List.drop_of_length_le (by rw [List.length_append,hA]; exact Nat.le_refl _),List.append_nil,List.set_append_right _ _ (by rw [hA]; decide),hA]
 rfl
set_option maxRecDepth 100000 in
theorem k_vstore (s:Mst) (k:Nat) (i:Ins) (d:Did) {c:Cst} (hc:s.cores[k]? = some c) (h16:c.regs.length=16) (ha0:0≤i.a) (ha1:i.a<16) (hb:c.buf.length≤64) :
  K 88 [tuA k i] (s.blks++[diB d]) (.ret (.tup [])) ((s.setCore k { c with buf:=c.buf++[Sto.mk d.at_ i.addr (c.reg i.a)] }).blks.map some++[some (diB { d with kind:=3,addr:=i.addr,word:=c.reg i.a })]):=by
 obtain ⟨kind,op,D,a,b,addr,to_,word,from_⟩:=i
 obtain ⟨dk,dc,da,dd,dw,dp,dn⟩:=d
 simp only at *
 refine Ctr.pk [] hT hmix Tryz.func88 rfl (fun _ _=>by kernel_rfl) rfl fun hok => ?_
 clear hok
 have hlt:=core_lt hc
 conv=>whnf
 refine ⟨ha0,ha1,?_⟩
 conv=>whnf
 refine ⟨rfl,hlt,fun row hrow => ?_⟩
 obtain rfl:=row_of hc hrow
 refine ⟨row_off h16 ha1,fun t ht => ?_⟩
 obtain rfl:=row_reg' h16 ha0 ha1 ht
 clear ht hrow
 conv=>whnf
 refine ⟨by kernel_rfl,fun _ => ?_⟩
 conv=>whnf
 refine ⟨rfl,hlt,fun row hrow => ?_⟩
 obtain rfl:=row_of hc hrow
 refine ⟨by rw [row_len h16]; show 0+18<19; decide,fun t ht => ?_⟩
 obtain rfl:=row_buf h16 ht
 clear ht hrow
 conv=>whnf
 refine ⟨by decide,?_⟩
 conv=>whnf
 refine ⟨rfl,rfl,Nat.le_refl _,(by rw [List.length_map]; show (c.buf.length+1)*24≤_; omega),trivial,new_leaf3 _ _ _,trivial,?_⟩
 conv=>whnf
 refine .inl ⟨rfl,rfl,rfl,hlt,⟨fun _=>rfl,trivial⟩,fun row hrow => ?_⟩
 obtain rfl:=row_of hc hrow
 refine ⟨by rw [row_len h16]; show 0+18+1≤19; decide,?_⟩
 clear hrow
 conv=>whnf
 refine ⟨by kernel_rfl,fun _ => ?_⟩
 conv=>whnf
 refine ⟨[1],?_⟩
 conv=>whnf
 refine ⟨rfl,rfl,(show (c.buf.map Sto.row).length+1≤(c.buf.map Sto.row++[[ti da,ti addr,ti (c.reg a)]]).length by simp),?_⟩
 refine ⟨[0,1,2,3,4],rfl,rfl,trivial,⟨rfl,.inl rfl,.inl rfl,.inl rfl,.inl rfl,.inl rfl,⟨rfl,by simp [Mst.setCore]⟩,⟨rfl,by simp [Mst.setCore]⟩,⟨rfl,by simp [Mst.setCore]⟩,trivial⟩,⟨rfl,rfl,rfl,rfl,.inl ?_⟩,⟨rfl,rfl,rfl,rfl⟩,⟨rfl,rfl,rfl,rfl⟩,⟨rfl,.inl rfl,.inl rfl,.inl rfl,.inl rfl,.inl rfl,.inl rfl,.inl rfl,trivial⟩,trivial⟩
 show setC ((s.cores.map Cst.row).set k _) k 18 (.lst 3 24 ((c.buf.map Sto.row++[[ti da,ti addr,ti (c.reg a)]]).take ((c.buf.map Sto.row).length+1)))=_
 rw [List.take_of_length_le (l:=c.buf.map Sto.row++[[ti da,ti addr,ti (c.reg a)]]) (by simp),show c.buf.map Sto.row++[[ti da,ti addr,ti (c.reg a)]]=(c.buf++[Sto.mk da addr (c.reg a)]).map Sto.row by rw [List.map_append]; rfl]
 exact csB_buf s hc h16 _ _
end Go.Proofs.YtbflekglkkdipaaGreatDoor.am
namespace Go.Proofs.YtbflekglkkdipaaGreatDoor.am
open Go Go.Proofs
def seeB:List Sto→Int→Int × Bool→Int × Bool
 | [],_,r=>r
 | x::l,a,r=>seeB l a (bif x.addr == a then (x.word,true) else r)
theorem buf_get {l:List Sto} {i:Nat} {row:List Tr} (h:(l.map Sto.row)[i]? = some row) : ∃ x,l[i]? = some x∧row=x.row:=by
 rw [List.getElem?_map,Option.map_eq_some_iff] at h
 obtain ⟨x,h1,rfl⟩:=h
 exact ⟨x,h1,rfl⟩
theorem setC_buf {cs:List Cst} {k:Nat} {c:Cst} (hc:cs[k]? = some c) (h16:c.regs.length=16):setC (cs.map Cst.row) k 18 (bufT c.buf)=cs.map Cst.row:=by
 have hk:=(List.getElem?_eq_some_iff.1 hc).1
 have e:(cs.map Cst.row)[k]? = some c.row:=by rw [List.getElem?_map,hc]; rfl
 unfold setC
 rw [e]
 have hA:(ti c.at_::tb c.halted::c.regs.map ti).length=18:=by simp [h16]
 have e2:c.row.set 18 (bufT c.buf)=c.row:=by
  show ((ti c.at_::tb c.halted::c.regs.map ti)++[bufT c.buf]).set 18 (bufT c.buf)=_
  rw [List.set_append_right _ _ (by rw [hA]; decide),hA]; rfl
 show (cs.map Cst.row).set k (c.row.set 18 (bufT c.buf))=_
 rw [e2]
 exact List.ext_getElem? fun j=>by
  rw [List.getElem?_set]
  split
  ·rename_i h; subst h
   rw [e,if_pos (by rw [List.length_map]; exact hk)]
  ·rfl
set_option maxRecDepth 100000 in
theorem k_vload (s:Mst) (k:Nat) (i:Ins) (d:Did) {c:Cst} (hc:s.cores[k]? = some c) (h16:c.regs.length=16) (hD0:0≤i.d) (hD1:i.d<16) (hm0:0≤i.addr) (hm1:i.addr<(s.mem.length:Int)) (hb:c.buf.length≤64) (hdn:d.own=false) :
  K 87 [tuA k i] (s.blks++[diB d]) (.ret (.tup [])) ((s.setCore k (c.setReg i.d (seeB c.buf i.addr (s.mem.getD i.addr.toNat 0,false)).1)).blks.map some++[some (diB { d with kind:=2,addr:=i.addr,word:=(seeB c.buf i.addr (s.mem.getD i.addr.toNat 0,false)).1,own:=(seeB c.buf i.addr (s.mem.getD i.addr.toNat 0,false)).2 })]):=by
 obtain ⟨kind,op,D,a,b,addr,to_,word,from_⟩:=i
 obtain ⟨dk,dc,da,dd,dw,dp,dn⟩:=d
 simp only at *
 subst hdn
 refine Ctr.pk [8] hT hmix Tryz.func87 rfl (fun _ _=>by kernel_rfl) rfl fun hok => ?_
 clear hok
 have hlt:=core_lt hc
 generalize hR:seeB c.buf addr (s.mem.getD addr.toNat 0,false)=R
 conv=>whnf
 refine ⟨rfl,hm0,hm1,?_⟩
 conv=>whnf
 refine ⟨rfl,by rw [List.length_map]; show addr.toNat<s.mem.length; omega,fun row hrow => ?_⟩
 obtain ⟨x,hx,rfl⟩:=mem_get hrow
 obtain rfl:x=s.mem.getD addr.toNat 0:=by rw [List.getD_eq_getElem?_getD,show s.mem[addr.toNat]? = some x from hx]; rfl
 refine ⟨Nat.zero_lt_one,fun t ht => ?_⟩
 obtain rfl:t=ti (s.mem.getD addr.toNat 0):=(Option.some.inj ht).symm
 clear hrow ht
 conv=>whnf
 refine ⟨by kernel_rfl,fun _ => ?_⟩
 conv=>whnf
 refine CutL.by (fun _:Unit=>⟨[(1,.ptr 5 0)],[(0,maB s),(1,csB s.cores),(2,meB s.mem),(3,prB s.prints),(4,(diB ⟨2,dc,da,addr,R.1,dp,R.2⟩)),(5,(.cells 131 [.ptr 0 0,.vpt 1 19 k 0,.tr (tu kind),.tr (tu op),.tr (ti D),.tr (ti a),.tr (ti b),.tr (ti addr),.tr (ti to_),.tr (ti word),.tr (ti from_),.ptr 4 0]))],10⟩) (fun _=>True) ?_ ?_
 ·conv=>whnf
  refine ⟨rfl,hlt,fun row hrow => ?_⟩
  obtain rfl:=row_of hc hrow
  refine ⟨by rw [row_len h16]; show 0+18<19; decide,fun t ht => ?_⟩
  obtain rfl:=row_buf h16 ht
  clear ht hrow
  conv=>whnf
  refine ⟨by decide,?_⟩
  conv=>whnf
  have hbl:(c.buf.map Sto.row).length=c.buf.length:=List.length_map ..
  refine LoopL.by (fun x:Nat × Int × Bool=>⟨[(1,.ptr 5 0),(33,.sl 6 c.buf.length),(34,.tr (ti c.buf.length)),(35,.tr (ti x.1))],[(0,maB s),(1,.own 19 168 (s.cores.map Cst.row) [((k,18),(6,c.buf.length))]),(2,meB s.mem),(3,prB s.prints),(4,(diB ⟨2,dc,da,addr,x.2.1,dp,x.2.2⟩)),(5,(.cells 131 [.ptr 0 0,.vpt 1 19 k 0,.tr (tu kind),.tr (tu op),.tr (ti D),.tr (ti a),.tr (ti b),.tr (ti addr),.tr (ti to_),.tr (ti word),.tr (ti from_),.ptr 4 0])),(6,.own 3 24 (c.buf.map Sto.row) [])],10⟩) (fun x=>seeB (c.buf.drop x.1) addr x.2=R∧x.1≤c.buf.length) (fun x=>c.buf.length - x.1) (0,s.mem.getD addr.toNat 0,false) [0,1,2,3,4,_,_] []
   (Sub.mk' rfl ⟨⟨rfl,rfl⟩,⟨rfl,hbl⟩,.inl (congrArg (fun n:Nat=>ti (n:Int)) hbl),.inl rfl,trivial⟩ ⟨⟨rfl,.inl rfl,.inl rfl,.inl rfl,.inl rfl,.inl rfl,⟨rfl,rfl⟩,⟨rfl,rfl⟩,⟨rfl,rfl⟩,trivial⟩,⟨rfl,rfl,by rw [hbl]; rfl,rfl,.inl rfl⟩,⟨rfl,rfl,rfl,rfl⟩,⟨rfl,rfl,rfl,rfl⟩,⟨rfl,.inl rfl,.inl rfl,.inl rfl,.inl rfl,.inl rfl,.inl rfl,.inl rfl,trivial⟩,⟨rfl,⟨rfl,rfl⟩,⟨rfl,rfl,rfl,rfl⟩,.inl rfl,.inl rfl,.inl rfl,.inl rfl,.inl rfl,.inl rfl,.inl rfl,.inl rfl,.inl rfl,⟨rfl,rfl⟩,trivial⟩,⟨rfl,rfl,rfl,rfl,.inl rfl⟩,trivial⟩ rfl rfl) ⟨hR,Nat.zero_le _⟩ ?_
  clear hR
  rintro ⟨j,w,ow⟩ ⟨hS,hj⟩ -
  simp only at hS hj
  have hj1:IntKind.i64.wrap ((j:Int)+1)=((j+1:Nat):Int):=by rw [w64 (by omega) (by omega)]; omega
  conv=>whnf
  refine csplit (fun h1 => ?_) (fun h1 => ?_)
  ·have hjl:j<c.buf.length:=by have:=of_decide_eq_true h1; simp only at this; omega
   obtain ⟨x,hx⟩ : ∃ x,c.buf[j]? = some x:=⟨c.buf[j],by simp [hjl]⟩
   have hdr:c.buf.drop j=x::c.buf.drop (j+1):=by
    rw [List.drop_eq_getElem_cons hjl]
    congr 1
    rw [List.getElem?_eq_getElem hjl] at hx
    exact Option.some.inj hx
   rw [hdr] at hS
   unfold seeB at hS
   conv=>whnf
   refine ⟨rfl,(show (0:Int)≤(j:Int) by omega),(show (j:Int)<(c.buf.length:Int) by omega),?_⟩
   conv=>whnf
   refine ⟨rfl,(by rw [List.length_map]; show j<c.buf.length; exact hjl),fun row hrow => ?_⟩
   obtain ⟨y,hy,rfl⟩:=buf_get hrow
   obtain rfl:y=x:=by
    have hy:c.buf[j]? = some y:=hy
    rw [hx] at hy
    exact (Option.some.inj hy).symm
   refine ⟨(show 0+3≤3 by decide),fun t ht => ?_,fun _ _ _=>rfl,?_⟩
   ·have ht:t ∈ [ti y.at_,ti y.addr,ti y.word]:=ht
    simp only [List.mem_cons,List.not_mem_nil,or_false] at ht
    rcases ht with rfl | rfl | rfl <;> exact ⟨_,rfl⟩
   clear hrow hy
   conv=>whnf
   refine csplit (fun h2 => ?_) (fun h2 => ?_)
   ·replace h2:(y.addr == addr)=true:=h2
    rw [h2] at hS
    conv=>whnf
    refine ⟨by kernel_rfl,fun _ => ?_⟩
    conv=>whnf
    exact ⟨(j+1,y.word,true),[0,1,2,3,4,5,6],[],Sub.mk' rfl ⟨⟨rfl,rfl⟩,⟨rfl,rfl⟩,.inl rfl,.inl (congrArg ti hj1),trivial⟩ ⟨⟨rfl,.inl rfl,.inl rfl,.inl rfl,.inl rfl,.inl rfl,⟨rfl,rfl⟩,⟨rfl,rfl⟩,⟨rfl,rfl⟩,trivial⟩,⟨rfl,rfl,rfl,rfl,.inl rfl⟩,⟨rfl,rfl,rfl,rfl⟩,⟨rfl,rfl,rfl,rfl⟩,⟨rfl,.inl rfl,.inl rfl,.inl rfl,.inl rfl,.inl rfl,.inl rfl,.inl rfl,trivial⟩,⟨rfl,⟨rfl,rfl⟩,⟨rfl,rfl,rfl,rfl⟩,.inl rfl,.inl rfl,.inl rfl,.inl rfl,.inl rfl,.inl rfl,.inl rfl,.inl rfl,.inl rfl,⟨rfl,rfl⟩,trivial⟩,⟨rfl,rfl,rfl,rfl,.inl rfl⟩,trivial⟩ rfl rfl,⟨hS,hjl⟩,by simp only; omega⟩
   ·replace h2:(y.addr == addr)=false:=h2
    rw [h2] at hS
    conv=>whnf
    exact ⟨(j+1,w,ow),[0,1,2,3,4,5,6],[],Sub.mk' rfl ⟨⟨rfl,rfl⟩,⟨rfl,rfl⟩,.inl rfl,.inl (congrArg ti hj1),trivial⟩ ⟨⟨rfl,.inl rfl,.inl rfl,.inl rfl,.inl rfl,.inl rfl,⟨rfl,rfl⟩,⟨rfl,rfl⟩,⟨rfl,rfl⟩,trivial⟩,⟨rfl,rfl,rfl,rfl,.inl rfl⟩,⟨rfl,rfl,rfl,rfl⟩,⟨rfl,rfl,rfl,rfl⟩,⟨rfl,.inl rfl,.inl rfl,.inl rfl,.inl rfl,.inl rfl,.inl rfl,.inl rfl,trivial⟩,⟨rfl,⟨rfl,rfl⟩,⟨rfl,rfl,rfl,rfl⟩,.inl rfl,.inl rfl,.inl rfl,.inl rfl,.inl rfl,.inl rfl,.inl rfl,.inl rfl,.inl rfl,⟨rfl,rfl⟩,trivial⟩,⟨rfl,rfl,rfl,rfl,.inl rfl⟩,trivial⟩ rfl rfl,⟨hS,hjl⟩,by simp only; omega⟩
  ·have hjl:j=c.buf.length:=by have:=of_decide_eq_false h1; simp only at this; omega
   subst hjl
   rw [List.drop_length] at hS
   replace hS:(w,ow)=R:=hS
   subst hS
   conv=>whnf
   refine ⟨fun _ => ?_,fun h=>absurd rfl h⟩
   conv=>whnf
   refine ⟨(),[0,1,2,3,4,5],[],Sub.pk [1] ?_,trivial⟩
   conv=>whnf
   refine ⟨rfl,rfl,Nat.le_of_eq (List.length_map ..).symm,?_⟩
   refine Sub0.mk' rfl ⟨⟨rfl,rfl⟩,trivial⟩ ⟨⟨rfl,.inl rfl,.inl rfl,.inl rfl,.inl rfl,.inl rfl,⟨rfl,rfl⟩,⟨rfl,rfl⟩,⟨rfl,rfl⟩,trivial⟩,⟨rfl,rfl,rfl,rfl,.inl ?_⟩,⟨rfl,rfl,rfl,rfl⟩,⟨rfl,rfl,rfl,rfl⟩,⟨rfl,.inl rfl,.inl rfl,.inl rfl,.inl rfl,.inl rfl,.inl rfl,.inl rfl,trivial⟩,⟨rfl,⟨rfl,rfl⟩,⟨rfl,rfl,rfl,rfl⟩,.inl rfl,.inl rfl,.inl rfl,.inl rfl,.inl rfl,.inl rfl,.inl rfl,.inl rfl,.inl rfl,⟨rfl,rfl⟩,trivial⟩,trivial⟩ rfl rfl
   show setC (s.cores.map Cst.row) k 18 (.lst 3 24 ((c.buf.map Sto.row).take c.buf.length))=s.cores.map Cst.row
   rw [List.take_of_length_le (by simp)]
   exact setC_buf hc h16
 ·rintro - - -
  clear hR
  conv=>whnf
  refine ⟨hD0,hD1,?_⟩
  conv=>whnf
  refine ⟨rfl,rfl,rfl,hlt,trivial,fun row hrow => ?_⟩
  obtain rfl:=row_of hc hrow
  refine ⟨row_off1 h16 hD1,?_⟩
  conv=>whnf
  refine ⟨by kernel_rfl,fun _ => ?_⟩
  conv=>whnf
  exact ⟨[],[0,1,2,3,4],rfl,rfl,trivial,⟨rfl,.inl rfl,.inl rfl,.inl rfl,.inl rfl,.inl rfl,⟨rfl,by simp [Mst.setCore]⟩,⟨rfl,by simp [Mst.setCore]⟩,⟨rfl,by simp [Mst.setCore]⟩,trivial⟩,⟨rfl,rfl,rfl,rfl,.inl (csB_reg s h16 hD0 hD1 _)⟩,⟨rfl,rfl,rfl,rfl⟩,⟨rfl,rfl,rfl,rfl⟩,⟨rfl,.inl rfl,.inl rfl,.inl rfl,.inl rfl,.inl rfl,.inl rfl,.inl rfl,trivial⟩,trivial⟩
end Go.Proofs.YtbflekglkkdipaaGreatDoor.am
namespace Go.Proofs.YtbflekglkkdipaaGreatDoor.am
open Go Go.Proofs
def hasE (s:Mst) (k:Int):Int:=bif decide (k<0) || decide (k ≥ (s.cores.length:Int)) then 180 else 0
set_option maxRecDepth 100000 in
theorem k_has (s:Mst) (k:Int):K 67 [.ptr 0 0,.tr (ti k)] s.blks (.ret (.tr (ti (hasE s k)))) (s.blks.map some):=by
 refine Ctr.of hT hmix Tryz.func67 rfl (fun _ _=>by kernel_rfl) rfl fun hok => ?_
 clear hok
 unfold hasE
 conv=>whnf
 refine csplit (fun h1 => ?_) (fun h1 => ?_)
 ·replace h1:decide (k<0)=true:=h1
  rw [h1]
  conv=>whnf
  exact ⟨.inl rfl,⟨rfl,.inl rfl,.inl rfl,.inl rfl,.inl rfl,.inl rfl,⟨rfl,rfl⟩,⟨rfl,rfl⟩,⟨rfl,rfl⟩,trivial⟩,⟨rfl,rfl,rfl,rfl,.inl rfl⟩,⟨rfl,rfl,rfl,rfl⟩,⟨rfl,rfl,rfl,rfl⟩,trivial⟩
 ·replace h1:decide (k<0)=false:=h1
  rw [h1]
  conv=>whnf
  refine csplit (fun h2 => ?_) (fun h2 => ?_)
  ·replace h2:decide (k ≥ (s.cores.length:Int))=true:=h2
   rw [h2]
   conv=>whnf
   exact ⟨.inl rfl,⟨rfl,.inl rfl,.inl rfl,.inl rfl,.inl rfl,.inl rfl,⟨rfl,rfl⟩,⟨rfl,rfl⟩,⟨rfl,rfl⟩,trivial⟩,⟨rfl,rfl,rfl,rfl,.inl rfl⟩,⟨rfl,rfl,rfl,rfl⟩,⟨rfl,rfl,rfl,rfl⟩,trivial⟩
  ·replace h2:decide (k ≥ (s.cores.length:Int))=false:=h2
   rw [h2]
   conv=>whnf
   exact ⟨.inl rfl,⟨rfl,.inl rfl,.inl rfl,.inl rfl,.inl rfl,.inl rfl,⟨rfl,rfl⟩,⟨rfl,rfl⟩,⟨rfl,rfl⟩,trivial⟩,⟨rfl,rfl,rfl,rfl,.inl rfl⟩,⟨rfl,rfl,rfl,rfl⟩,⟨rfl,rfl,rfl,rfl⟩,trivial⟩
set_option maxRecDepth 100000 in
theorem k_next (s:Mst) (k:Nat) (d:Did) {c:Cst} {r:Cor} {i:Ins} (hc:s.cores[k]? = some c) (h16:c.regs.length=16) (hr:s.o.cores[k]? = some r) (h0:0≤c.at_) (hi:r.code[c.at_.toNat]? = some i) :
  K 55 [.ptr 0 0,.tr (ti k),.ptr 4 0] (s.blks++[diB d]) (.ret (tuA k i)) (s.blks.map some++[some (diB d)]):=by
 obtain ⟨dk,dc,da,dd,dw,dp,dn⟩:=d
 refine Ctr.of hT hmix Tryz.func55 rfl (fun _ _=>by kernel_rfl) rfl fun hok => ?_
 clear hok
 have hlt:=core_lt hc
 have hkl:k<s.cores.length:=(List.getElem?_eq_some_iff.1 hc).1
 have hrl:k<s.o.cores.length:=(List.getElem?_eq_some_iff.1 hr).1
 have hil:c.at_.toNat<r.code.length:=(List.getElem?_eq_some_iff.1 hi).1
 obtain ⟨kind,op,D,a,b,addr,to_,word,from_⟩:=i
 obtain ⟨rn,rc⟩:=r
 simp only at *
 conv=>whnf
 refine ⟨rfl,(show (0:Int)≤(k:Int) by omega),(show (k:Int)<(s.cores.length:Int) by omega),?_⟩
 conv=>whnf
 refine ⟨rfl,(show (0:Int)≤(k:Int) by omega),(show (k:Int)<((s.o.cores.map Cor.cells).length:Int) by rw [List.length_map]; omega),fun row hrow => ?_⟩
 replace hrow:(s.o.cores.map Cor.cells)[k]? = some row:=hrow
 rw [List.getElem?_map,hr] at hrow
 cases hrow
 conv=>whnf
 refine ⟨rfl,hlt,fun row hrow => ?_⟩
 obtain rfl:=row_of hc hrow
 refine ⟨by rw [row_len h16]; show 0+0<19; decide,fun t ht => ?_⟩
 cases ht
 clear hrow
 conv=>whnf
 refine ⟨rfl,h0,(show c.at_<((rc.map Ins.cells).length:Int) by rw [List.length_map]; omega),fun row hrow => ?_⟩
 replace hrow:(rc.map Ins.cells)[c.at_.toNat]? = some row:=hrow
 rw [List.getElem?_map,hi] at hrow
 cases hrow
 conv=>whnf
 refine ⟨by kernel_rfl,fun _ => ?_⟩
 conv=>whnf
 exact ⟨⟨⟨rfl,rfl⟩,⟨rfl,rfl,rfl,rfl⟩,.inl rfl,.inl rfl,.inl rfl,.inl rfl,.inl rfl,.inl rfl,.inl rfl,.inl rfl,.inl rfl,⟨rfl,rfl⟩,trivial⟩,⟨rfl,.inl rfl,.inl rfl,.inl rfl,.inl rfl,.inl rfl,⟨rfl,rfl⟩,⟨rfl,rfl⟩,⟨rfl,rfl⟩,trivial⟩,⟨rfl,rfl,rfl,rfl,.inl rfl⟩,⟨rfl,rfl,rfl,rfl⟩,⟨rfl,rfl,rfl,rfl⟩,⟨rfl,.inl rfl,.inl rfl,.inl rfl,.inl rfl,.inl rfl,.inl rfl,.inl rfl,trivial⟩,trivial⟩
set_option maxRecDepth 100000 in
theorem k_does1:K 68 [.tr (tu 1)] [] (.ret (.fn 85 [])) []:=by
 refine Ctr.of hT hmix Tryz.func68 rfl (fun _ _=>by kernel_rfl) rfl fun hok => ?_
 clear hok
 conv=>whnf
 refine ⟨by decide,by decide,?_⟩
 conv=>whnf
 exact ⟨⟨rfl,trivial⟩,trivial⟩
set_option maxRecDepth 100000 in
theorem k_does2:K 68 [.tr (tu 2)] [] (.ret (.fn 86 [])) []:=by
 refine Ctr.of hT hmix Tryz.func68 rfl (fun _ _=>by kernel_rfl) rfl fun hok => ?_
 clear hok
 conv=>whnf
 refine ⟨by decide,by decide,?_⟩
 conv=>whnf
 exact ⟨⟨rfl,trivial⟩,trivial⟩
set_option maxRecDepth 100000 in
theorem k_does3:K 68 [.tr (tu 3)] [] (.ret (.fn 87 [])) []:=by
 refine Ctr.of hT hmix Tryz.func68 rfl (fun _ _=>by kernel_rfl) rfl fun hok => ?_
 clear hok
 conv=>whnf
 refine ⟨by decide,by decide,?_⟩
 conv=>whnf
 exact ⟨⟨rfl,trivial⟩,trivial⟩
set_option maxRecDepth 100000 in
theorem k_does4:K 68 [.tr (tu 4)] [] (.ret (.fn 88 [])) []:=by
 refine Ctr.of hT hmix Tryz.func68 rfl (fun _ _=>by kernel_rfl) rfl fun hok => ?_
 clear hok
 conv=>whnf
 refine ⟨by decide,by decide,?_⟩
 conv=>whnf
 exact ⟨⟨rfl,trivial⟩,trivial⟩
set_option maxRecDepth 100000 in
theorem k_does5:K 68 [.tr (tu 5)] [] (.ret (.fn 89 [])) []:=by
 refine Ctr.of hT hmix Tryz.func68 rfl (fun _ _=>by kernel_rfl) rfl fun hok => ?_
 clear hok
 conv=>whnf
 refine ⟨by decide,by decide,?_⟩
 conv=>whnf
 exact ⟨⟨rfl,trivial⟩,trivial⟩
set_option maxRecDepth 100000 in
theorem k_does6:K 68 [.tr (tu 6)] [] (.ret (.fn 90 [])) []:=by
 refine Ctr.of hT hmix Tryz.func68 rfl (fun _ _=>by kernel_rfl) rfl fun hok => ?_
 clear hok
 conv=>whnf
 refine ⟨by decide,by decide,?_⟩
 conv=>whnf
 exact ⟨⟨rfl,trivial⟩,trivial⟩
set_option maxRecDepth 100000 in
theorem k_does7:K 68 [.tr (tu 7)] [] (.ret (.fn 91 [])) []:=by
 refine Ctr.of hT hmix Tryz.func68 rfl (fun _ _=>by kernel_rfl) rfl fun hok => ?_
 clear hok
 conv=>whnf
 refine ⟨by decide,by decide,?_⟩
 conv=>whnf
 exact ⟨⟨rfl,trivial⟩,trivial⟩
set_option maxRecDepth 100000 in
theorem k_does8:K 68 [.tr (tu 8)] [] (.ret (.fn 92 [])) []:=by
 refine Ctr.of hT hmix Tryz.func68 rfl (fun _ _=>by kernel_rfl) rfl fun hok => ?_
 clear hok
 conv=>whnf
 refine ⟨by decide,by decide,?_⟩
 conv=>whnf
 exact ⟨⟨rfl,trivial⟩,trivial⟩
set_option maxRecDepth 100000 in
theorem k_does9:K 68 [.tr (tu 9)] [] (.ret (.fn 93 [])) []:=by
 refine Ctr.of hT hmix Tryz.func68 rfl (fun _ _=>by kernel_rfl) rfl fun hok => ?_
 clear hok
 conv=>whnf
 refine ⟨by decide,by decide,?_⟩
 conv=>whnf
 exact ⟨⟨rfl,trivial⟩,trivial⟩
set_option maxRecDepth 100000 in
theorem k_does10:K 68 [.tr (tu 10)] [] (.ret (.fn 94 [])) []:=by
 refine Ctr.of hT hmix Tryz.func68 rfl (fun _ _=>by kernel_rfl) rfl fun hok => ?_
 clear hok
 conv=>whnf
 refine ⟨by decide,by decide,?_⟩
 conv=>whnf
 exact ⟨⟨rfl,trivial⟩,trivial⟩
end Go.Proofs.YtbflekglkkdipaaGreatDoor.am
namespace Go.Proofs.YtbflekglkkdipaaGreatDoor.am
open Go Go.Proofs
def shN (b:Int):Nat:=min (IntKind.u64.wrap ((BitVec.ofInt IntKind.u64.bits (IntKind.u64.wrap b) &&& BitVec.ofInt IntKind.u64.bits 63).toNat:Int)).toNat IntKind.i64.bits
def i64 (z:Int):Int:=IntKind.i64.wrap z
def divW (a b:Int):Int:=bif b == 0 then 0 else bif b == -1 then i64 (0 - a) else i64 (a.tdiv b)
def truW (b:Bool):Int:=bif b then 1 else 0
def opsW:List (Int→Int→Int):=[
 fun a b=>i64 (a+b),fun a b=>i64 (a - b),fun a b=>i64 (a*b),divW,
 fun a b=>bif b == 0 then a else i64 (a - i64 (divW a b*b)),
 fun a b=>i64 ((BitVec.ofInt IntKind.i64.bits a &&& BitVec.ofInt IntKind.i64.bits b).toNat:Int),
 fun a b=>i64 ((BitVec.ofInt IntKind.i64.bits a ||| BitVec.ofInt IntKind.i64.bits b).toNat:Int),
 fun a b=>i64 ((BitVec.ofInt IntKind.i64.bits a ^^^ BitVec.ofInt IntKind.i64.bits b).toNat:Int),
 fun a b=>i64 (a*2 ^ shN b),fun a b=>a.fdiv (2 ^ shN b),
 fun a b=>truW (a == b),fun a b=>truW (a != b),fun a b=>truW (decide (a<b)),fun a b=>truW (decide (a≤b)),fun a b=>truW (decide (a > b)),fun a b=>truW (decide (a ≥ b))]
def opW (op a b:Int):Int:=(opsW.getD (op - 1).toNat fun _ _=>0) a b
def oneW (op a:Int):Int:=bif op == 17 then i64 (0 - a) else truW (a == 0)
def doW (op a b:Int):Int × Int:=bif two op then (opW op a b,0) else (0,2)
theorem u64_nn (z:Int):0≤IntKind.u64.wrap z:=by
 simp only [IntKind.wrap,IntKind.signed,IntKind.bits,Bool.false_and]
 exact Int.emod_nonneg _ (by decide)
theorem k_truth (b:Bool):K 143 [.tr (tb b)] [] (.ret (.tr (ti (truW b)))) []:=by
 refine Ctr.of hT hmix Tryz.func143 rfl (fun _ _=>by kernel_rfl) rfl fun hok => ?_
 clear hok
 cases b
 ·conv=>whnf
  exact ⟨.inl rfl,trivial⟩
 ·conv=>whnf
  exact ⟨.inl rfl,trivial⟩
theorem k_wadd (a b:Int):K 125 [.tr (ti a),.tr (ti b)] [] (.ret (.tr (ti (opW 1 a b)))) []:=by
 refine Ctr.of hT hmix Tryz.func125 rfl (fun _ _=>by kernel_rfl) rfl fun hok => ?_
 clear hok
 conv=>whnf
 exact ⟨.inl rfl,trivial⟩
theorem k_wsub (a b:Int):K 126 [.tr (ti a),.tr (ti b)] [] (.ret (.tr (ti (opW 2 a b)))) []:=by
 refine Ctr.of hT hmix Tryz.func126 rfl (fun _ _=>by kernel_rfl) rfl fun hok => ?_
 clear hok
 conv=>whnf
 exact ⟨.inl rfl,trivial⟩
theorem k_wmul (a b:Int):K 127 [.tr (ti a),.tr (ti b)] [] (.ret (.tr (ti (opW 3 a b)))) []:=by
 refine Ctr.of hT hmix Tryz.func127 rfl (fun _ _=>by kernel_rfl) rfl fun hok => ?_
 clear hok
 conv=>whnf
 exact ⟨.inl rfl,trivial⟩
theorem k_wdiv (a b:Int):K 128 [.tr (ti a),.tr (ti b)] [] (.ret (.tr (ti (opW 4 a b)))) []:=by
 refine Ctr.of hT hmix Tryz.func128 rfl (fun _ _=>by kernel_rfl) rfl fun hok => ?_
 clear hok
 unfold opW opsW divW
 conv=>whnf
 refine csplit (fun h1 => ?_) (fun h1 => ?_)
 ·replace h1:(b == 0)=true:=h1
  simp only [List.getD_cons_zero,List.getD_cons_succ,h1,cond_true]
  conv=>whnf
  exact ⟨.inl (congrArg ti (by simp [h1])),trivial⟩
 ·replace h1:(b == 0)=false:=h1
  conv=>whnf
  refine csplit (fun h2 => ?_) (fun h2 => ?_)
  ·replace h2:(b == -1)=true:=h2
   conv=>whnf
   exact ⟨.inl (congrArg ti (by simp only [show ((4:Int) - 1).toNat=3 from rfl,List.getD_cons_zero,List.getD_cons_succ,h1,h2,cond_true,cond_false]; rfl)),trivial⟩
  ·replace h2:(b == -1)=false:=h2
   conv=>whnf
   refine ⟨by simpa using h1,?_⟩
   conv=>whnf
   exact ⟨.inl (congrArg ti (by simp only [show ((4:Int) - 1).toNat=3 from rfl,List.getD_cons_zero,List.getD_cons_succ,h1,h2,cond_true,cond_false]; rfl)),trivial⟩
theorem k_wrem (a b:Int):K 129 [.tr (ti a),.tr (ti b)] [] (.ret (.tr (ti (opW 5 a b)))) []:=by
 refine Ctr.of hT hmix Tryz.func129 rfl (fun _ _=>by kernel_rfl) rfl fun hok => ?_
 clear hok
 conv=>whnf
 refine csplit (fun h1 => ?_) (fun h1 => ?_)
 ·replace h1:(b == 0)=true:=h1
  conv=>whnf
  exact ⟨.inl (congrArg ti (by show a=bif b == 0 then a else _; rw [h1]; rfl)),trivial⟩
 ·replace h1:(b == 0)=false:=h1
  conv=>whnf
  refine acall.pure _ (k_wdiv a b) rfl rfl fun _ => ?_
  conv=>whnf
  exact ⟨.inl (congrArg ti (by show _=bif b == 0 then a else _; rw [h1]; rfl)),trivial⟩
theorem k_wand (a b:Int):K 130 [.tr (ti a),.tr (ti b)] [] (.ret (.tr (ti (opW 6 a b)))) []:=by
 refine Ctr.of hT hmix Tryz.func130 rfl (fun _ _=>by kernel_rfl) rfl fun hok => ?_
 clear hok
 conv=>whnf
 exact ⟨.inl rfl,trivial⟩
theorem k_wor (a b:Int):K 131 [.tr (ti a),.tr (ti b)] [] (.ret (.tr (ti (opW 7 a b)))) []:=by
 refine Ctr.of hT hmix Tryz.func131 rfl (fun _ _=>by kernel_rfl) rfl fun hok => ?_
 clear hok
 conv=>whnf
 exact ⟨.inl rfl,trivial⟩
theorem k_wxor (a b:Int):K 132 [.tr (ti a),.tr (ti b)] [] (.ret (.tr (ti (opW 8 a b)))) []:=by
 refine Ctr.of hT hmix Tryz.func132 rfl (fun _ _=>by kernel_rfl) rfl fun hok => ?_
 clear hok
 conv=>whnf
 exact ⟨.inl rfl,trivial⟩
theorem k_wshl (a b:Int):K 133 [.tr (ti a),.tr (ti b)] [] (.ret (.tr (ti (opW 9 a b)))) []:=by
 refine Ctr.of hT hmix Tryz.func133 rfl (fun _ _=>by kernel_rfl) rfl fun hok => ?_
 clear hok
 conv=>whnf
 refine ⟨u64_nn _,?_⟩
 conv=>whnf
 exact ⟨.inl rfl,trivial⟩
theorem k_wshr (a b:Int):K 134 [.tr (ti a),.tr (ti b)] [] (.ret (.tr (ti (opW 10 a b)))) []:=by
 refine Ctr.of hT hmix Tryz.func134 rfl (fun _ _=>by kernel_rfl) rfl fun hok => ?_
 clear hok
 conv=>whnf
 refine ⟨u64_nn _,?_⟩
 conv=>whnf
 exact ⟨.inl rfl,trivial⟩
theorem k_wis (a b:Int):K 135 [.tr (ti a),.tr (ti b)] [] (.ret (.tr (ti (opW 11 a b)))) []:=by
 refine Ctr.of hT hmix Tryz.func135 rfl (fun _ _=>by kernel_rfl) rfl fun hok => ?_
 clear hok
 conv=>whnf
 refine acall.pure _ (k_truth (a == b)) rfl rfl fun _ => ?_
 conv=>whnf
 exact ⟨.inl rfl,trivial⟩
theorem k_wisNot (a b:Int):K 136 [.tr (ti a),.tr (ti b)] [] (.ret (.tr (ti (opW 12 a b)))) []:=by
 refine Ctr.of hT hmix Tryz.func136 rfl (fun _ _=>by kernel_rfl) rfl fun hok => ?_
 clear hok
 conv=>whnf
 refine acall.pure _ (k_truth (a != b)) rfl rfl fun _ => ?_
 conv=>whnf
 exact ⟨.inl rfl,trivial⟩
theorem k_wless (a b:Int):K 137 [.tr (ti a),.tr (ti b)] [] (.ret (.tr (ti (opW 13 a b)))) []:=by
 refine Ctr.of hT hmix Tryz.func137 rfl (fun _ _=>by kernel_rfl) rfl fun hok => ?_
 clear hok
 conv=>whnf
 refine acall.pure _ (k_truth (decide (a<b))) rfl rfl fun _ => ?_
 conv=>whnf
 exact ⟨.inl rfl,trivial⟩
theorem k_wmost (a b:Int):K 138 [.tr (ti a),.tr (ti b)] [] (.ret (.tr (ti (opW 14 a b)))) []:=by
 refine Ctr.of hT hmix Tryz.func138 rfl (fun _ _=>by kernel_rfl) rfl fun hok => ?_
 clear hok
 conv=>whnf
 refine acall.pure _ (k_truth (decide (a≤b))) rfl rfl fun _ => ?_
 conv=>whnf
 exact ⟨.inl rfl,trivial⟩
theorem k_wabove (a b:Int):K 139 [.tr (ti a),.tr (ti b)] [] (.ret (.tr (ti (opW 15 a b)))) []:=by
 refine Ctr.of hT hmix Tryz.func139 rfl (fun _ _=>by kernel_rfl) rfl fun hok => ?_
 clear hok
 conv=>whnf
 refine acall.pure _ (k_truth (decide (a > b))) rfl rfl fun _ => ?_
 conv=>whnf
 exact ⟨.inl rfl,trivial⟩
theorem k_wleast (a b:Int):K 140 [.tr (ti a),.tr (ti b)] [] (.ret (.tr (ti (opW 16 a b)))) []:=by
 refine Ctr.of hT hmix Tryz.func140 rfl (fun _ _=>by kernel_rfl) rfl fun hok => ?_
 clear hok
 conv=>whnf
 refine acall.pure _ (k_truth (decide (a ≥ b))) rfl rfl fun _ => ?_
 conv=>whnf
 exact ⟨.inl rfl,trivial⟩
theorem k_wminus (a:Int):K 141 [.tr (ti a)] [] (.ret (.tr (ti (oneW 17 a)))) []:=by
 refine Ctr.of hT hmix Tryz.func141 rfl (fun _ _=>by kernel_rfl) rfl fun hok => ?_
 clear hok
 conv=>whnf
 exact ⟨.inl rfl,trivial⟩
theorem k_wnot (a:Int):K 142 [.tr (ti a)] [] (.ret (.tr (ti (oneW 18 a)))) []:=by
 refine Ctr.of hT hmix Tryz.func142 rfl (fun _ _=>by kernel_rfl) rfl fun hok => ?_
 clear hok
 conv=>whnf
 refine acall.pure _ (k_truth (a == 0)) rfl rfl fun _ => ?_
 conv=>whnf
 exact ⟨.inl rfl,trivial⟩
abbrev opsA:AV := .agg [.tr (.v .nilFunc),.tr (.v .nilFunc),.fn 125 [],.tr (.v .nilFunc),.fn 126 [],.tr (.v .nilFunc),.fn 127 [],.tr (.v .nilFunc),.fn 128 [],.tr (.v .nilFunc),.fn 129 [],.tr (.v .nilFunc),.fn 130 [],.tr (.v .nilFunc),.fn 131 [],.tr (.v .nilFunc),.fn 132 [],.tr (.v .nilFunc),.fn 133 [],.tr (.v .nilFunc),.fn 134 [],.tr (.v .nilFunc),.fn 135 [],.tr (.v .nilFunc),.fn 136 [],.tr (.v .nilFunc),.fn 137 [],.tr (.v .nilFunc),.fn 138 [],.tr (.v .nilFunc),.fn 139 [],.tr (.v .nilFunc),.fn 140 [],.tr (.v .nilFunc),.tr (.v .nilFunc),.fn 141 [],.tr (.v .nilFunc),.fn 142 []]
set_option maxRecDepth 100000 in
theorem k_operators:K 120 [] [] (.ret opsA) []:=by
 refine Ctr.of hT hmix Tryz.func120 rfl (fun _ _=>by kernel_rfl) rfl fun hok => ?_
 clear hok
 conv=>whnf
 exact ⟨aut,trivial⟩
set_option maxRecDepth 100000 in
theorem k_do1 (a b:Int):K 108 [.tr (tu 1),.tr (ti a),.tr (ti b)] [] (.ret (.tup [.tr (ti (opW 1 a b)),.tr (ti 0)])) []:=by
 have h2:=k_two 1
 rw [show two 1=true from rfl] at h2
 refine Ctr.of hT hmix Tryz.func108 rfl (fun _ _=>by kernel_rfl) rfl fun hok => ?_
 clear hok
 conv=>whnf
 refine acall.pure _ (h2) rfl rfl fun _ => ?_
 conv=>whnf
 refine acall.pure _ (k_operators) rfl rfl fun _ => ?_
 conv=>whnf
 refine ⟨by decide,by decide,by decide,?_⟩
 conv=>whnf
 refine acall.pure _ (k_wadd a b) rfl rfl fun _ => ?_
 conv=>whnf
 exact ⟨⟨.inl rfl,.inl rfl,trivial⟩,trivial⟩
set_option maxRecDepth 100000 in
theorem k_do2 (a b:Int):K 108 [.tr (tu 2),.tr (ti a),.tr (ti b)] [] (.ret (.tup [.tr (ti (opW 2 a b)),.tr (ti 0)])) []:=by
 have h2:=k_two 2
 rw [show two 2=true from rfl] at h2
 refine Ctr.of hT hmix Tryz.func108 rfl (fun _ _=>by kernel_rfl) rfl fun hok => ?_
 clear hok
 conv=>whnf
 refine acall.pure _ (h2) rfl rfl fun _ => ?_
 conv=>whnf
 refine acall.pure _ (k_operators) rfl rfl fun _ => ?_
 conv=>whnf
 refine ⟨by decide,by decide,by decide,?_⟩
 conv=>whnf
 refine acall.pure _ (k_wsub a b) rfl rfl fun _ => ?_
 conv=>whnf
 exact ⟨⟨.inl rfl,.inl rfl,trivial⟩,trivial⟩
set_option maxRecDepth 100000 in
theorem k_do3 (a b:Int):K 108 [.tr (tu 3),.tr (ti a),.tr (ti b)] [] (.ret (.tup [.tr (ti (opW 3 a b)),.tr (ti 0)])) []:=by
 have h2:=k_two 3
 rw [show two 3=true from rfl] at h2
 refine Ctr.of hT hmix Tryz.func108 rfl (fun _ _=>by kernel_rfl) rfl fun hok => ?_
 clear hok
 conv=>whnf
 refine acall.pure _ (h2) rfl rfl fun _ => ?_
 conv=>whnf
 refine acall.pure _ (k_operators) rfl rfl fun _ => ?_
 conv=>whnf
 refine ⟨by decide,by decide,by decide,?_⟩
 conv=>whnf
 refine acall.pure _ (k_wmul a b) rfl rfl fun _ => ?_
 conv=>whnf
 exact ⟨⟨.inl rfl,.inl rfl,trivial⟩,trivial⟩
set_option maxRecDepth 100000 in
theorem k_do4 (a b:Int):K 108 [.tr (tu 4),.tr (ti a),.tr (ti b)] [] (.ret (.tup [.tr (ti (opW 4 a b)),.tr (ti 0)])) []:=by
 have h2:=k_two 4
 rw [show two 4=true from rfl] at h2
 refine Ctr.of hT hmix Tryz.func108 rfl (fun _ _=>by kernel_rfl) rfl fun hok => ?_
 clear hok
 conv=>whnf
 refine acall.pure _ (h2) rfl rfl fun _ => ?_
 conv=>whnf
 refine acall.pure _ (k_operators) rfl rfl fun _ => ?_
 conv=>whnf
 refine ⟨by decide,by decide,by decide,?_⟩
 conv=>whnf
 refine acall.pure _ (k_wdiv a b) rfl rfl fun _ => ?_
 conv=>whnf
 exact ⟨⟨.inl rfl,.inl rfl,trivial⟩,trivial⟩
set_option maxRecDepth 100000 in
theorem k_do5 (a b:Int):K 108 [.tr (tu 5),.tr (ti a),.tr (ti b)] [] (.ret (.tup [.tr (ti (opW 5 a b)),.tr (ti 0)])) []:=by
 have h2:=k_two 5
 rw [show two 5=true from rfl] at h2
 refine Ctr.of hT hmix Tryz.func108 rfl (fun _ _=>by kernel_rfl) rfl fun hok => ?_
 clear hok
 conv=>whnf
 refine acall.pure _ (h2) rfl rfl fun _ => ?_
 conv=>whnf
 refine acall.pure _ (k_operators) rfl rfl fun _ => ?_
 conv=>whnf
 refine ⟨by decide,by decide,by decide,?_⟩
 conv=>whnf
 refine acall.pure _ (k_wrem a b) rfl rfl fun _ => ?_
 conv=>whnf
 exact ⟨⟨.inl rfl,.inl rfl,trivial⟩,trivial⟩
set_option maxRecDepth 100000 in
theorem k_do6 (a b:Int):K 108 [.tr (tu 6),.tr (ti a),.tr (ti b)] [] (.ret (.tup [.tr (ti (opW 6 a b)),.tr (ti 0)])) []:=by
 have h2:=k_two 6
 rw [show two 6=true from rfl] at h2
 refine Ctr.of hT hmix Tryz.func108 rfl (fun _ _=>by kernel_rfl) rfl fun hok => ?_
 clear hok
 conv=>whnf
 refine acall.pure _ (h2) rfl rfl fun _ => ?_
 conv=>whnf
 refine acall.pure _ (k_operators) rfl rfl fun _ => ?_
 conv=>whnf
 refine ⟨by decide,by decide,by decide,?_⟩
 conv=>whnf
 refine acall.pure _ (k_wand a b) rfl rfl fun _ => ?_
 conv=>whnf
 exact ⟨⟨.inl rfl,.inl rfl,trivial⟩,trivial⟩
set_option maxRecDepth 100000 in
theorem k_do7 (a b:Int):K 108 [.tr (tu 7),.tr (ti a),.tr (ti b)] [] (.ret (.tup [.tr (ti (opW 7 a b)),.tr (ti 0)])) []:=by
 have h2:=k_two 7
 rw [show two 7=true from rfl] at h2
 refine Ctr.of hT hmix Tryz.func108 rfl (fun _ _=>by kernel_rfl) rfl fun hok => ?_
 clear hok
 conv=>whnf
 refine acall.pure _ (h2) rfl rfl fun _ => ?_
 conv=>whnf
 refine acall.pure _ (k_operators) rfl rfl fun _ => ?_
 conv=>whnf
 refine ⟨by decide,by decide,by decide,?_⟩
 conv=>whnf
 refine acall.pure _ (k_wor a b) rfl rfl fun _ => ?_
 conv=>whnf
 exact ⟨⟨.inl rfl,.inl rfl,trivial⟩,trivial⟩
set_option maxRecDepth 100000 in
theorem k_do8 (a b:Int):K 108 [.tr (tu 8),.tr (ti a),.tr (ti b)] [] (.ret (.tup [.tr (ti (opW 8 a b)),.tr (ti 0)])) []:=by
 have h2:=k_two 8
 rw [show two 8=true from rfl] at h2
 refine Ctr.of hT hmix Tryz.func108 rfl (fun _ _=>by kernel_rfl) rfl fun hok => ?_
 clear hok
 conv=>whnf
 refine acall.pure _ (h2) rfl rfl fun _ => ?_
 conv=>whnf
 refine acall.pure _ (k_operators) rfl rfl fun _ => ?_
 conv=>whnf
 refine ⟨by decide,by decide,by decide,?_⟩
 conv=>whnf
 refine acall.pure _ (k_wxor a b) rfl rfl fun _ => ?_
 conv=>whnf
 exact ⟨⟨.inl rfl,.inl rfl,trivial⟩,trivial⟩
set_option maxRecDepth 100000 in
theorem k_do9 (a b:Int):K 108 [.tr (tu 9),.tr (ti a),.tr (ti b)] [] (.ret (.tup [.tr (ti (opW 9 a b)),.tr (ti 0)])) []:=by
 have h2:=k_two 9
 rw [show two 9=true from rfl] at h2
 refine Ctr.of hT hmix Tryz.func108 rfl (fun _ _=>by kernel_rfl) rfl fun hok => ?_
 clear hok
 conv=>whnf
 refine acall.pure _ (h2) rfl rfl fun _ => ?_
 conv=>whnf
 refine acall.pure _ (k_operators) rfl rfl fun _ => ?_
 conv=>whnf
 refine ⟨by decide,by decide,by decide,?_⟩
 conv=>whnf
 refine acall.pure _ (k_wshl a b) rfl rfl fun _ => ?_
 conv=>whnf
 exact ⟨⟨.inl rfl,.inl rfl,trivial⟩,trivial⟩
set_option maxRecDepth 100000 in
theorem k_do10 (a b:Int):K 108 [.tr (tu 10),.tr (ti a),.tr (ti b)] [] (.ret (.tup [.tr (ti (opW 10 a b)),.tr (ti 0)])) []:=by
 have h2:=k_two 10
 rw [show two 10=true from rfl] at h2
 refine Ctr.of hT hmix Tryz.func108 rfl (fun _ _=>by kernel_rfl) rfl fun hok => ?_
 clear hok
 conv=>whnf
 refine acall.pure _ (h2) rfl rfl fun _ => ?_
 conv=>whnf
 refine acall.pure _ (k_operators) rfl rfl fun _ => ?_
 conv=>whnf
 refine ⟨by decide,by decide,by decide,?_⟩
 conv=>whnf
 refine acall.pure _ (k_wshr a b) rfl rfl fun _ => ?_
 conv=>whnf
 exact ⟨⟨.inl rfl,.inl rfl,trivial⟩,trivial⟩
set_option maxRecDepth 100000 in
theorem k_do11 (a b:Int):K 108 [.tr (tu 11),.tr (ti a),.tr (ti b)] [] (.ret (.tup [.tr (ti (opW 11 a b)),.tr (ti 0)])) []:=by
 have h2:=k_two 11
 rw [show two 11=true from rfl] at h2
 refine Ctr.of hT hmix Tryz.func108 rfl (fun _ _=>by kernel_rfl) rfl fun hok => ?_
 clear hok
 conv=>whnf
 refine acall.pure _ (h2) rfl rfl fun _ => ?_
 conv=>whnf
 refine acall.pure _ (k_operators) rfl rfl fun _ => ?_
 conv=>whnf
 refine ⟨by decide,by decide,by decide,?_⟩
 conv=>whnf
 refine acall.pure _ (k_wis a b) rfl rfl fun _ => ?_
 conv=>whnf
 exact ⟨⟨.inl rfl,.inl rfl,trivial⟩,trivial⟩
set_option maxRecDepth 100000 in
theorem k_do12 (a b:Int):K 108 [.tr (tu 12),.tr (ti a),.tr (ti b)] [] (.ret (.tup [.tr (ti (opW 12 a b)),.tr (ti 0)])) []:=by
 have h2:=k_two 12
 rw [show two 12=true from rfl] at h2
 refine Ctr.of hT hmix Tryz.func108 rfl (fun _ _=>by kernel_rfl) rfl fun hok => ?_
 clear hok
 conv=>whnf
 refine acall.pure _ (h2) rfl rfl fun _ => ?_
 conv=>whnf
 refine acall.pure _ (k_operators) rfl rfl fun _ => ?_
 conv=>whnf
 refine ⟨by decide,by decide,by decide,?_⟩
 conv=>whnf
 refine acall.pure _ (k_wisNot a b) rfl rfl fun _ => ?_
 conv=>whnf
 exact ⟨⟨.inl rfl,.inl rfl,trivial⟩,trivial⟩
set_option maxRecDepth 100000 in
theorem k_do13 (a b:Int):K 108 [.tr (tu 13),.tr (ti a),.tr (ti b)] [] (.ret (.tup [.tr (ti (opW 13 a b)),.tr (ti 0)])) []:=by
 have h2:=k_two 13
 rw [show two 13=true from rfl] at h2
 refine Ctr.of hT hmix Tryz.func108 rfl (fun _ _=>by kernel_rfl) rfl fun hok => ?_
 clear hok
 conv=>whnf
 refine acall.pure _ (h2) rfl rfl fun _ => ?_
 conv=>whnf
 refine acall.pure _ (k_operators) rfl rfl fun _ => ?_
 conv=>whnf
 refine ⟨by decide,by decide,by decide,?_⟩
 conv=>whnf
 refine acall.pure _ (k_wless a b) rfl rfl fun _ => ?_
 conv=>whnf
 exact ⟨⟨.inl rfl,.inl rfl,trivial⟩,trivial⟩
set_option maxRecDepth 100000 in
theorem k_do14 (a b:Int):K 108 [.tr (tu 14),.tr (ti a),.tr (ti b)] [] (.ret (.tup [.tr (ti (opW 14 a b)),.tr (ti 0)])) []:=by
 have h2:=k_two 14
 rw [show two 14=true from rfl] at h2
 refine Ctr.of hT hmix Tryz.func108 rfl (fun _ _=>by kernel_rfl) rfl fun hok => ?_
 clear hok
 conv=>whnf
 refine acall.pure _ (h2) rfl rfl fun _ => ?_
 conv=>whnf
 refine acall.pure _ (k_operators) rfl rfl fun _ => ?_
 conv=>whnf
 refine ⟨by decide,by decide,by decide,?_⟩
 conv=>whnf
 refine acall.pure _ (k_wmost a b) rfl rfl fun _ => ?_
 conv=>whnf
 exact ⟨⟨.inl rfl,.inl rfl,trivial⟩,trivial⟩
set_option maxRecDepth 100000 in
theorem k_do15 (a b:Int):K 108 [.tr (tu 15),.tr (ti a),.tr (ti b)] [] (.ret (.tup [.tr (ti (opW 15 a b)),.tr (ti 0)])) []:=by
 have h2:=k_two 15
 rw [show two 15=true from rfl] at h2
 refine Ctr.of hT hmix Tryz.func108 rfl (fun _ _=>by kernel_rfl) rfl fun hok => ?_
 clear hok
 conv=>whnf
 refine acall.pure _ (h2) rfl rfl fun _ => ?_
 conv=>whnf
 refine acall.pure _ (k_operators) rfl rfl fun _ => ?_
 conv=>whnf
 refine ⟨by decide,by decide,by decide,?_⟩
 conv=>whnf
 refine acall.pure _ (k_wabove a b) rfl rfl fun _ => ?_
 conv=>whnf
 exact ⟨⟨.inl rfl,.inl rfl,trivial⟩,trivial⟩
set_option maxRecDepth 100000 in
theorem k_do16 (a b:Int):K 108 [.tr (tu 16),.tr (ti a),.tr (ti b)] [] (.ret (.tup [.tr (ti (opW 16 a b)),.tr (ti 0)])) []:=by
 have h2:=k_two 16
 rw [show two 16=true from rfl] at h2
 refine Ctr.of hT hmix Tryz.func108 rfl (fun _ _=>by kernel_rfl) rfl fun hok => ?_
 clear hok
 conv=>whnf
 refine acall.pure _ (h2) rfl rfl fun _ => ?_
 conv=>whnf
 refine acall.pure _ (k_operators) rfl rfl fun _ => ?_
 conv=>whnf
 refine ⟨by decide,by decide,by decide,?_⟩
 conv=>whnf
 refine acall.pure _ (k_wleast a b) rfl rfl fun _ => ?_
 conv=>whnf
 exact ⟨⟨.inl rfl,.inl rfl,trivial⟩,trivial⟩
set_option maxRecDepth 100000 in
theorem k_on17 (a:Int):K 109 [.tr (tu 17),.tr (ti a)] [] (.ret (.tup [.tr (ti (oneW 17 a)),.tr (ti 0)])) []:=by
 have h2:=k_two 17
 rw [show two 17=false from rfl] at h2
 have h1:=k_known 17
 rw [show knownB 17=true from rfl] at h1
 refine Ctr.of hT hmix Tryz.func109 rfl (fun _ _=>by kernel_rfl) rfl fun hok => ?_
 clear hok
 conv=>whnf
 refine acall.pure _ (h1) rfl rfl fun _ => ?_
 conv=>whnf
 refine acall.pure _ (h2) rfl rfl fun _ => ?_
 conv=>whnf
 refine acall.pure _ (k_operators) rfl rfl fun _ => ?_
 conv=>whnf
 refine ⟨by decide,by decide,by decide,?_⟩
 conv=>whnf
 refine acall.pure _ (k_wminus a) rfl rfl fun _ => ?_
 conv=>whnf
 exact ⟨⟨.inl rfl,.inl rfl,trivial⟩,trivial⟩
set_option maxRecDepth 100000 in
theorem k_on18 (a:Int):K 109 [.tr (tu 18),.tr (ti a)] [] (.ret (.tup [.tr (ti (oneW 18 a)),.tr (ti 0)])) []:=by
 have h2:=k_two 18
 rw [show two 18=false from rfl] at h2
 have h1:=k_known 18
 rw [show knownB 18=true from rfl] at h1
 refine Ctr.of hT hmix Tryz.func109 rfl (fun _ _=>by kernel_rfl) rfl fun hok => ?_
 clear hok
 conv=>whnf
 refine acall.pure _ (h1) rfl rfl fun _ => ?_
 conv=>whnf
 refine acall.pure _ (h2) rfl rfl fun _ => ?_
 conv=>whnf
 refine acall.pure _ (k_operators) rfl rfl fun _ => ?_
 conv=>whnf
 refine ⟨by decide,by decide,by decide,?_⟩
 conv=>whnf
 refine acall.pure _ (k_wnot a) rfl rfl fun _ => ?_
 conv=>whnf
 exact ⟨⟨.inl rfl,.inl rfl,trivial⟩,trivial⟩
theorem k_doN (op a b:Int) (h:two op=false):K 108 [.tr (tu op),.tr (ti a),.tr (ti b)] [] (.ret (.tup [.tr (ti 0),.tr (ti 2)])) []:=by
 have h2:=k_two op
 rw [h] at h2
 refine Ctr.of hT hmix Tryz.func108 rfl (fun _ _=>by kernel_rfl) rfl fun hok => ?_
 clear hok
 conv=>whnf
 refine acall.pure _ (h2) rfl rfl fun _ => ?_
 conv=>whnf
 exact ⟨⟨.inl rfl,.inl rfl,trivial⟩,trivial⟩
theorem k_doW (op a b:Int):K 108 [.tr (tu op),.tr (ti a),.tr (ti b)] [] (.ret (.tup [.tr (ti (doW op a b).1),.tr (ti (doW op a b).2)])) []:=by
 unfold doW
 cases h:two op
 ·exact k_doN op a b h
 ·have hr:1≤op∧op≤16:=by unfold two at h; simpa using h
  have hc:op=1∨op=2∨op=3∨op=4∨op=5∨op=6∨op=7∨op=8∨op=9∨op=10∨op=11∨op=12∨op=13∨op=14∨op=15∨op=16:=by omega
  rcases hc with rfl | rfl | rfl | rfl | rfl | rfl | rfl | rfl | rfl | rfl | rfl | rfl | rfl | rfl | rfl | rfl
  ·exact k_do1 a b
  ·exact k_do2 a b
  ·exact k_do3 a b
  ·exact k_do4 a b
  ·exact k_do5 a b
  ·exact k_do6 a b
  ·exact k_do7 a b
  ·exact k_do8 a b
  ·exact k_do9 a b
  ·exact k_do10 a b
  ·exact k_do11 a b
  ·exact k_do12 a b
  ·exact k_do13 a b
  ·exact k_do14 a b
  ·exact k_do15 a b
  ·exact k_do16 a b
end Go.Proofs.YtbflekglkkdipaaGreatDoor.am
namespace Go.Proofs.YtbflekglkkdipaaGreatDoor.am
open Go Go.Proofs
def aluW (op a b:Int):Int:=bif two op then opW op a b else oneW op a
theorem k_onX {op:Int} (a:Int) (h:op=17∨op=18):K 109 [.tr (tu op),.tr (ti a)] [] (.ret (.tup [.tr (ti (oneW op a)),.tr (ti 0)])) []:=by
 rcases h with rfl | rfl
 ·exact k_on17 a
 ·exact k_on18 a
set_option maxRecDepth 100000 in
theorem k_vop (s:Mst) (k:Nat) (i:Ins) (d:Did) {c:Cst} (hc:s.cores[k]? = some c) (h16:c.regs.length=16) (hD0:0≤i.d) (hD1:i.d<16) (ha0:0≤i.a) (ha1:i.a<16) (hb0:0≤i.b) (hb1:i.b<16) (hop:two i.op=true∨i.op=17∨i.op=18) :
  K 86 [tuA k i] (s.blks++[diB d]) (.ret (.tup [])) ((s.setCore k (c.setReg i.d (aluW i.op (c.reg i.a) (c.reg i.b)))).blks.map some++[some (diB { d with kind:=1 })]):=by
 obtain ⟨kind,op,D,a,b,addr,to_,word,from_⟩:=i
 obtain ⟨dk,dc,da,dd,dw,dp,dn⟩:=d
 simp only at *
 refine Ctr.cut [6] hT hmix Tryz.func86 rfl (fun _ _=>by kernel_rfl) rfl fun hok => ?_
 clear hok
 have hlt:=core_lt hc
 generalize hW:aluW op (c.reg a) (c.reg b)=W
 conv=>whnf
 refine ⟨ha0,ha1,?_⟩
 conv=>whnf
 refine ⟨rfl,hlt,fun row hrow => ?_⟩
 obtain rfl:=row_of hc hrow
 refine ⟨row_off h16 ha1,fun t ht => ?_⟩
 obtain rfl:=row_reg' h16 ha0 ha1 ht
 clear ht hrow
 conv=>whnf
 refine ⟨hb0,hb1,?_⟩
 conv=>whnf
 refine ⟨rfl,hlt,fun row hrow => ?_⟩
 obtain rfl:=row_of hc hrow
 refine ⟨row_off h16 hb1,fun t ht => ?_⟩
 obtain rfl:=row_reg' h16 hb0 hb1 ht
 clear ht hrow
 conv=>whnf
 refine ⟨by kernel_rfl,fun _ => ?_⟩
 conv=>whnf
 have hd:=k_doW op (c.reg a) (c.reg b)
 refine acall.pure _ (hd) rfl rfl fun _ => ?_
 conv=>whnf
 refine CutL.by (fun _:Unit=>⟨[(1,.ptr 5 0),(4,.tr (ti W))],[(0,maB s),(1,csB s.cores),(2,meB s.mem),(3,prB s.prints),(4,diB ⟨1,dc,da,dd,dw,dp,dn⟩),(5,.cells 131 [.ptr 0 0,.vpt 1 19 k 0,.tr (tu kind),.tr (tu op),.tr (ti D),.tr (ti a),.tr (ti b),.tr (ti addr),.tr (ti to_),.tr (ti word),.tr (ti from_),.ptr 4 0])],10⟩) (fun _=>True) ?_ ?_
 ·unfold doW aluW at *
  cases h2:two op
  ·rw [h2] at hW
   have ho:=k_onX (op:=op) (c.reg a) (by rcases hop with h | h; rw [h2] at h; cases h; exact h)
   conv=>whnf
   refine acall.pure _ (ho) rfl rfl fun _ => ?_
   conv=>whnf
   exact ⟨(),[0,1,2,3,4,_],[],Sub.mk' rfl ⟨⟨rfl,rfl⟩,.inl (congrArg ti hW),trivial⟩ ⟨⟨rfl,.inl rfl,.inl rfl,.inl rfl,.inl rfl,.inl rfl,⟨rfl,rfl⟩,⟨rfl,rfl⟩,⟨rfl,rfl⟩,trivial⟩,⟨rfl,rfl,rfl,rfl,.inl rfl⟩,⟨rfl,rfl,rfl,rfl⟩,⟨rfl,rfl,rfl,rfl⟩,⟨rfl,.inl rfl,.inl rfl,.inl rfl,.inl rfl,.inl rfl,.inl rfl,.inl rfl,trivial⟩,⟨rfl,⟨rfl,rfl⟩,⟨rfl,rfl,rfl,rfl⟩,.inl rfl,.inl rfl,.inl rfl,.inl rfl,.inl rfl,.inl rfl,.inl rfl,.inl rfl,.inl rfl,⟨rfl,rfl⟩,trivial⟩,trivial⟩ rfl rfl,trivial⟩
  ·rw [h2] at hW
   conv=>whnf
   exact ⟨(),[0,1,2,3,4,_],[],Sub.mk' rfl ⟨⟨rfl,rfl⟩,.inl (congrArg ti hW),trivial⟩ ⟨⟨rfl,.inl rfl,.inl rfl,.inl rfl,.inl rfl,.inl rfl,⟨rfl,rfl⟩,⟨rfl,rfl⟩,⟨rfl,rfl⟩,trivial⟩,⟨rfl,rfl,rfl,rfl,.inl rfl⟩,⟨rfl,rfl,rfl,rfl⟩,⟨rfl,rfl,rfl,rfl⟩,⟨rfl,.inl rfl,.inl rfl,.inl rfl,.inl rfl,.inl rfl,.inl rfl,.inl rfl,trivial⟩,⟨rfl,⟨rfl,rfl⟩,⟨rfl,rfl,rfl,rfl⟩,.inl rfl,.inl rfl,.inl rfl,.inl rfl,.inl rfl,.inl rfl,.inl rfl,.inl rfl,.inl rfl,⟨rfl,rfl⟩,trivial⟩,trivial⟩ rfl rfl,trivial⟩
 ·rintro - - -
  conv=>whnf
  refine ⟨hD0,hD1,?_⟩
  conv=>whnf
  refine ⟨rfl,rfl,rfl,hlt,trivial,fun row hrow => ?_⟩
  obtain rfl:=row_of hc hrow
  refine ⟨row_off1 h16 hD1,?_⟩
  conv=>whnf
  refine ⟨by kernel_rfl,fun _ => ?_⟩
  conv=>whnf
  exact ⟨trivial,⟨rfl,.inl rfl,.inl rfl,.inl rfl,.inl rfl,.inl rfl,⟨rfl,by simp [Mst.setCore]⟩,⟨rfl,by simp [Mst.setCore]⟩,⟨rfl,by simp [Mst.setCore]⟩,trivial⟩,⟨rfl,rfl,rfl,rfl,.inl (csB_reg s h16 hD0 hD1 _)⟩,⟨rfl,rfl,rfl,rfl⟩,⟨rfl,rfl,rfl,rfl⟩,⟨rfl,.inl rfl,.inl rfl,.inl rfl,.inl rfl,.inl rfl,.inl rfl,.inl rfl,trivial⟩,trivial⟩
def stallB (s:Mst) (c:Cst) (i:Ins):Bool:=bif i.kind == 4 then decide ((c.buf.length:Int) ≥ s.o.buffer) else bif i.kind == 5 || i.kind == 6 || i.kind == 7 then decide ((c.buf.length:Int) > 0) else false
set_option maxRecDepth 100000 in
theorem k_stalls (s:Mst) (k:Nat) (i:Ins) (d:Did) {c:Cst} (hc:s.cores[k]? = some c) (h16:c.regs.length=16) :
  K 56 [tuA k i] (s.blks++[diB d]) (.ret (.tr (tb (stallB s c i)))) (s.blks.map some++[some (diB d)]):=by
 obtain ⟨kind,op,D,a,b,addr,to_,word,from_⟩:=i
 obtain ⟨dk,dc,da,dd,dw,dp,dn⟩:=d
 refine Ctr.pk [] hT hmix Tryz.func56 rfl (fun _ _=>by kernel_rfl) rfl fun hok => ?_
 clear hok
 have hlt:=core_lt hc
 have hbl:(c.buf.map Sto.row).length=c.buf.length:=List.length_map ..
 generalize hB:stallB s c ⟨kind,op,D,a,b,addr,to_,word,from_⟩=B
 unfold stallB at hB
 simp only at hB
 conv=>whnf
 refine csplit (fun h4 => ?_) (fun h4 => ?_)
 ·replace h4:(kind == 4)=true:=h4
  conv=>whnf
  refine ⟨rfl,hlt,fun row hrow => ?_⟩
  obtain rfl:=row_of hc hrow
  refine ⟨by rw [row_len h16]; show 0+18<19; decide,fun t ht => ?_⟩
  obtain rfl:=row_buf h16 ht
  clear ht hrow
  conv=>whnf
  refine ⟨by decide,?_⟩
  conv=>whnf
  refine ⟨by kernel_rfl,fun _ => ?_⟩
  conv=>whnf
  refine ⟨[1],?_⟩
  conv=>whnf
  refine ⟨rfl,rfl,Nat.le_refl _,?_⟩
  refine ⟨[0,1,2,3,4],rfl,rfl,.inl (congrArg tb (by rw [← hB]; simp only [h4,hbl,cond_true,cond_false,Bool.true_or,Bool.or_true,Bool.false_or])),⟨rfl,.inl rfl,.inl rfl,.inl rfl,.inl rfl,.inl rfl,⟨rfl,rfl⟩,⟨rfl,rfl⟩,⟨rfl,rfl⟩,trivial⟩,⟨rfl,rfl,rfl,rfl,.inl ?_⟩,⟨rfl,rfl,rfl,rfl⟩,⟨rfl,rfl,rfl,rfl⟩,⟨rfl,.inl rfl,.inl rfl,.inl rfl,.inl rfl,.inl rfl,.inl rfl,.inl rfl,trivial⟩,trivial⟩
  show setC (s.cores.map Cst.row) k 18 (.lst 3 24 ((c.buf.map Sto.row).take (c.buf.map Sto.row).length))=s.cores.map Cst.row
  rw [List.take_of_length_le (by simp)]
  exact setC_buf hc h16
 ·replace h4:(kind == 4)=false:=h4
  conv=>whnf
  refine csplit (fun h5 => ?_) (fun h5 => ?_)
  ·replace h5:(kind == 5)=true:=h5
   conv=>whnf
   refine csplit (fun _ => ?_) (fun hx=>absurd (h5.symm.trans hx) (by simp))
   conv=>whnf
   refine ⟨rfl,hlt,fun row hrow => ?_⟩
   obtain rfl:=row_of hc hrow
   refine ⟨by rw [row_len h16]; show 0+18<19; decide,fun t ht => ?_⟩
   obtain rfl:=row_buf h16 ht
   clear ht hrow
   conv=>whnf
   refine ⟨by decide,?_⟩
   conv=>whnf
   refine ⟨[1],?_⟩
   conv=>whnf
   refine ⟨rfl,rfl,Nat.le_refl _,?_⟩
   refine ⟨[0,1,2,3,4],rfl,rfl,.inl (congrArg tb (by rw [← hB]; simp only [h4,h5,hbl,cond_true,cond_false,Bool.true_or,Bool.or_true,Bool.false_or])),⟨rfl,.inl rfl,.inl rfl,.inl rfl,.inl rfl,.inl rfl,⟨rfl,rfl⟩,⟨rfl,rfl⟩,⟨rfl,rfl⟩,trivial⟩,⟨rfl,rfl,rfl,rfl,.inl ?_⟩,⟨rfl,rfl,rfl,rfl⟩,⟨rfl,rfl,rfl,rfl⟩,⟨rfl,.inl rfl,.inl rfl,.inl rfl,.inl rfl,.inl rfl,.inl rfl,.inl rfl,trivial⟩,trivial⟩
   show setC (s.cores.map Cst.row) k 18 (.lst 3 24 ((c.buf.map Sto.row).take (c.buf.map Sto.row).length))=s.cores.map Cst.row
   rw [List.take_of_length_le (by simp)]
   exact setC_buf hc h16
  ·replace h5:(kind == 5)=false:=h5
   conv=>whnf
   refine csplit (fun h6 => ?_) (fun h6 => ?_)
   ·replace h6:(kind == 6)=true:=h6
    conv=>whnf
    refine csplit (fun _ => ?_) (fun hx=>absurd (h6.symm.trans hx) (by simp))
    conv=>whnf
    refine ⟨rfl,hlt,fun row hrow => ?_⟩
    obtain rfl:=row_of hc hrow
    refine ⟨by rw [row_len h16]; show 0+18<19; decide,fun t ht => ?_⟩
    obtain rfl:=row_buf h16 ht
    clear ht hrow
    conv=>whnf
    refine ⟨by decide,?_⟩
    conv=>whnf
    refine ⟨[1],?_⟩
    conv=>whnf
    refine ⟨rfl,rfl,Nat.le_refl _,?_⟩
    refine ⟨[0,1,2,3,4],rfl,rfl,.inl (congrArg tb (by rw [← hB]; simp only [h4,h5,h6,hbl,cond_true,cond_false,Bool.true_or,Bool.or_true,Bool.false_or])),⟨rfl,.inl rfl,.inl rfl,.inl rfl,.inl rfl,.inl rfl,⟨rfl,rfl⟩,⟨rfl,rfl⟩,⟨rfl,rfl⟩,trivial⟩,⟨rfl,rfl,rfl,rfl,.inl ?_⟩,⟨rfl,rfl,rfl,rfl⟩,⟨rfl,rfl,rfl,rfl⟩,⟨rfl,.inl rfl,.inl rfl,.inl rfl,.inl rfl,.inl rfl,.inl rfl,.inl rfl,trivial⟩,trivial⟩
    show setC (s.cores.map Cst.row) k 18 (.lst 3 24 ((c.buf.map Sto.row).take (c.buf.map Sto.row).length))=s.cores.map Cst.row
    rw [List.take_of_length_le (by simp)]
    exact setC_buf hc h16
   ·replace h6:(kind == 6)=false:=h6
    conv=>whnf
    refine csplit (fun h7 => ?_) (fun h7 => ?_)
    ·replace h7:(kind == 7)=true:=h7
     conv=>whnf
     refine ⟨rfl,hlt,fun row hrow => ?_⟩
     obtain rfl:=row_of hc hrow
     refine ⟨by rw [row_len h16]; show 0+18<19; decide,fun t ht => ?_⟩
     obtain rfl:=row_buf h16 ht
     clear ht hrow
     conv=>whnf
     refine ⟨by decide,?_⟩
     conv=>whnf
     refine ⟨[1],?_⟩
     conv=>whnf
     refine ⟨rfl,rfl,Nat.le_refl _,?_⟩
     refine ⟨[0,1,2,3,4],rfl,rfl,.inl (congrArg tb (by rw [← hB]; simp only [h4,h5,h6,h7,hbl,cond_true,cond_false,Bool.true_or,Bool.or_true,Bool.false_or])),⟨rfl,.inl rfl,.inl rfl,.inl rfl,.inl rfl,.inl rfl,⟨rfl,rfl⟩,⟨rfl,rfl⟩,⟨rfl,rfl⟩,trivial⟩,⟨rfl,rfl,rfl,rfl,.inl ?_⟩,⟨rfl,rfl,rfl,rfl⟩,⟨rfl,rfl,rfl,rfl⟩,⟨rfl,.inl rfl,.inl rfl,.inl rfl,.inl rfl,.inl rfl,.inl rfl,.inl rfl,trivial⟩,trivial⟩
     show setC (s.cores.map Cst.row) k 18 (.lst 3 24 ((c.buf.map Sto.row).take (c.buf.map Sto.row).length))=s.cores.map Cst.row
     rw [List.take_of_length_le (by simp)]
     exact setC_buf hc h16
    ·replace h7:(kind == 7)=false:=h7
     conv=>whnf
     exact ⟨[],[0,1,2,3,4],rfl,rfl,.inl (congrArg tb (by rw [← hB]; simp only [h4,h5,h6,h7,cond_false,Bool.or_false])),⟨rfl,.inl rfl,.inl rfl,.inl rfl,.inl rfl,.inl rfl,⟨rfl,rfl⟩,⟨rfl,rfl⟩,⟨rfl,rfl⟩,trivial⟩,⟨rfl,rfl,rfl,rfl,.inl rfl⟩,⟨rfl,rfl,rfl,rfl⟩,⟨rfl,rfl,rfl,rfl⟩,⟨rfl,.inl rfl,.inl rfl,.inl rfl,.inl rfl,.inl rfl,.inl rfl,.inl rfl,trivial⟩,trivial⟩
end Go.Proofs.YtbflekglkkdipaaGreatDoor.am
namespace Go.Proofs.YtbflekglkkdipaaGreatDoor.am
open Go Go.Proofs
abbrev c1 (c:Cst):Cst := { c with at_:=c.at_+1 }
abbrev s1 (s:Mst) (k:Nat) (c:Cst):Mst:=s.setCore k (c1 c)
theorem s1_get {s:Mst} {k:Nat} {c:Cst} (hc:s.cores[k]? = some c):(s1 s k c).cores[k]? = some (c1 c):=by
 show (s.cores.set k (c1 c))[k]? = _
 rw [List.getElem?_set_self (List.getElem?_eq_some_iff.1 hc).1]
theorem s1_set (s:Mst) (k:Nat) (c x:Cst):(s1 s k c).setCore k x=s.setCore k x:=by
 unfold Mst.setCore
 simp only [s1,Mst.setCore,List.set_set]
theorem has_ok {s:Mst} {k:Nat} (h:k<s.cores.length):hasE s k=0:=by
 unfold hasE
 rw [show decide ((k:Int)<0)=false from decide_eq_false (by omega),show decide ((k:Int) ≥ (s.cores.length:Int))=false from decide_eq_false (by omega)]
 rfl
abbrev d0 (k:Nat) (a:Int):Did:=⟨0,k,a,0,0,0,false⟩
set_option maxRecDepth 100000 in
set_option maxHeartbeats 1000000 in
theorem k_run1 (s:Mst) (k:Nat) (i:Ins) {c:Cst} {r:Cor} (hc:s.cores[k]? = some c) (h16:c.regs.length=16) (hr:s.o.cores[k]? = some r) (h0:0≤c.at_) (hi:r.code[c.at_.toNat]? = some i)
  (hh:c.halted=false) (hst:stallB s c i=false) (hD0:0≤i.d) (hD1:i.d<16) (hk:i.kind=1) (ha9:c.at_≤16384) :
  K 45 [.ptr 0 0,.tr (ti k)] s.blks (.ret (.tup [(Did.mk 1 k c.at_ 0 0 0 false).av,.tr (ti 0)])) ((s.setCore k ((c1 c).setReg i.d i.word)).blks.map some):=by
 have hkl:k<s.cores.length:=(List.getElem?_eq_some_iff.1 hc).1
 have hhas:=k_has s k
 rw [has_ok hkl] at hhas
 have hnx:=k_next s k (d0 k 0) hc h16 hr h0 hi
 have hsl:=k_stalls s k i (d0 k 0) hc h16
 rw [hst] at hsl
 have hlt:=core_lt hc
 have hx:=k_set (s1 s k c) k i (d0 k c.at_) (s1_get hc) h16 hD0 hD1
 simp only [s1_set] at hx
 obtain ⟨kind,op,D,a,b,addr,to_,word,from_⟩:=i
 refine Ctr.of hT hmix Tryz.func45 rfl (fun _ _=>by kernel_rfl) rfl fun hok => ?_
 clear hok
 have hw1:IntKind.i64.wrap (c.at_+1)=c.at_+1:=by rw [w64 (by omega) (by omega)]
 conv=>whnf
 refine acall.au [0,1,2,3] [] (hhas) ?_
 intro _
 conv=>whnf
 refine acall.au [0,1,2,3,_] [] (hnx) ?_
 intro _
 conv=>whnf
 refine ⟨rfl,hlt,fun row hrow => ?_⟩
 obtain rfl:=row_of hc hrow
 refine ⟨by rw [row_len h16]; show 0+1<19; decide,fun t ht => ?_⟩
 obtain rfl:t=tb false:=by rw [← hh]; exact (Option.some.inj ht).symm
 clear ht hrow
 conv=>whnf
 refine acall.au [0,1,2,3,_] [] (hsl) ?_
 intro _
 conv=>whnf
 simp only at hk
 subst hk
 refine ⟨rfl,hlt,fun row hrow => ?_⟩
 obtain rfl:=row_of hc hrow
 refine ⟨by rw [row_len h16]; show 0+0<19; decide,fun t ht => ?_⟩
 obtain rfl:t=ti c.at_:=(Option.some.inj ht).symm
 clear ht hrow
 conv=>whnf
 refine ⟨rfl,hlt,fun row hrow => ?_⟩
 obtain rfl:=row_of hc hrow
 refine ⟨by rw [row_len h16]; show 0+0<19; decide,fun t ht => ?_⟩
 obtain rfl:t=ti c.at_:=(Option.some.inj ht).symm
 clear ht hrow
 conv=>whnf
 refine ⟨rfl,rfl,rfl,hlt,trivial,fun row hrow => ?_⟩
 obtain rfl:=row_of hc hrow
 refine ⟨by rw [row_len h16]; show 0+0+1≤19; decide,?_⟩
 clear hrow
 conv=>whnf
 refine acall.pure _ (k_does1) rfl rfl ?_
 conv=>whnf
 refine acall.gen [0,1,2,3,14] [] _ _ _ _ hx rfl rfl rfl rfl aut ⟨⟨rfl,.inl rfl,.inl rfl,.inl rfl,.inl rfl,.inl rfl,⟨rfl,by simp [Mst.setCore]⟩,⟨rfl,by simp [Mst.setCore]⟩,⟨rfl,by simp [Mst.setCore]⟩,trivial⟩,⟨rfl,rfl,rfl,rfl,.inl (by rw [hw1]; exact csB_at s _)⟩,⟨rfl,rfl,rfl,rfl⟩,⟨rfl,rfl,rfl,rfl⟩,⟨rfl,.inl rfl,.inl rfl,.inl rfl,.inl rfl,.inl rfl,.inl rfl,.inl rfl,trivial⟩,trivial⟩ rfl rfl ?_
 conv=>whnf
 refine ⟨by kernel_rfl,fun _ => ?_⟩
 conv=>whnf
 exact ⟨⟨aut,.inl rfl,trivial⟩,⟨rfl,.inl rfl,.inl rfl,.inl rfl,.inl rfl,.inl rfl,⟨rfl,by simp [Mst.setCore]⟩,⟨rfl,by simp [Mst.setCore]⟩,⟨rfl,by simp [Mst.setCore]⟩,trivial⟩,⟨rfl,rfl,rfl,rfl,.inl rfl⟩,⟨rfl,rfl,rfl,rfl⟩,⟨rfl,rfl,rfl,rfl⟩,trivial⟩
set_option maxRecDepth 100000 in
set_option maxHeartbeats 1000000 in
theorem k_run2 (s:Mst) (k:Nat) (i:Ins) {c:Cst} {r:Cor} (hc:s.cores[k]? = some c) (h16:c.regs.length=16) (hr:s.o.cores[k]? = some r) (h0:0≤c.at_) (hi:r.code[c.at_.toNat]? = some i)
  (hh:c.halted=false) (hst:stallB s c i=false) (hD0:0≤i.d) (hD1:i.d<16) (ha0:0≤i.a) (ha1:i.a<16) (hb0:0≤i.b) (hb1:i.b<16) (hop:two i.op=true∨i.op=17∨i.op=18) (hk:i.kind=2) (ha9:c.at_≤16384) :
  K 45 [.ptr 0 0,.tr (ti k)] s.blks (.ret (.tup [(Did.mk 1 k c.at_ 0 0 0 false).av,.tr (ti 0)])) ((s.setCore k ((c1 c).setReg i.d (aluW i.op (c.reg i.a) (c.reg i.b)))).blks.map some):=by
 have hkl:k<s.cores.length:=(List.getElem?_eq_some_iff.1 hc).1
 have hhas:=k_has s k
 rw [has_ok hkl] at hhas
 have hnx:=k_next s k (d0 k 0) hc h16 hr h0 hi
 have hsl:=k_stalls s k i (d0 k 0) hc h16
 rw [hst] at hsl
 have hlt:=core_lt hc
 have hx:=k_vop (s1 s k c) k i (d0 k c.at_) (s1_get hc) h16 hD0 hD1 ha0 ha1 hb0 hb1 hop
 simp only [s1_set] at hx
 obtain ⟨kind,op,D,a,b,addr,to_,word,from_⟩:=i
 refine Ctr.of hT hmix Tryz.func45 rfl (fun _ _=>by kernel_rfl) rfl fun hok => ?_
 clear hok
 have hw1:IntKind.i64.wrap (c.at_+1)=c.at_+1:=by rw [w64 (by omega) (by omega)]
 conv=>whnf
 refine acall.au [0,1,2,3] [] (hhas) ?_
 intro _
 conv=>whnf
 refine acall.au [0,1,2,3,_] [] (hnx) ?_
 intro _
 conv=>whnf
 refine ⟨rfl,hlt,fun row hrow => ?_⟩
 obtain rfl:=row_of hc hrow
 refine ⟨by rw [row_len h16]; show 0+1<19; decide,fun t ht => ?_⟩
 obtain rfl:t=tb false:=by rw [← hh]; exact (Option.some.inj ht).symm
 clear ht hrow
 conv=>whnf
 refine acall.au [0,1,2,3,_] [] (hsl) ?_
 intro _
 conv=>whnf
 simp only at hk
 subst hk
 refine ⟨rfl,hlt,fun row hrow => ?_⟩
 obtain rfl:=row_of hc hrow
 refine ⟨by rw [row_len h16]; show 0+0<19; decide,fun t ht => ?_⟩
 obtain rfl:t=ti c.at_:=(Option.some.inj ht).symm
 clear ht hrow
 conv=>whnf
 refine ⟨rfl,hlt,fun row hrow => ?_⟩
 obtain rfl:=row_of hc hrow
 refine ⟨by rw [row_len h16]; show 0+0<19; decide,fun t ht => ?_⟩
 obtain rfl:t=ti c.at_:=(Option.some.inj ht).symm
 clear ht hrow
 conv=>whnf
 refine ⟨rfl,rfl,rfl,hlt,trivial,fun row hrow => ?_⟩
 obtain rfl:=row_of hc hrow
 refine ⟨by rw [row_len h16]; show 0+0+1≤19; decide,?_⟩
 clear hrow
 conv=>whnf
 refine acall.pure _ (k_does2) rfl rfl ?_
 conv=>whnf
 refine acall.gen [0,1,2,3,14] [] _ _ _ _ hx rfl rfl rfl rfl aut ⟨⟨rfl,.inl rfl,.inl rfl,.inl rfl,.inl rfl,.inl rfl,⟨rfl,by simp [Mst.setCore]⟩,⟨rfl,by simp [Mst.setCore]⟩,⟨rfl,by simp [Mst.setCore]⟩,trivial⟩,⟨rfl,rfl,rfl,rfl,.inl (by rw [hw1]; exact csB_at s _)⟩,⟨rfl,rfl,rfl,rfl⟩,⟨rfl,rfl,rfl,rfl⟩,⟨rfl,.inl rfl,.inl rfl,.inl rfl,.inl rfl,.inl rfl,.inl rfl,.inl rfl,trivial⟩,trivial⟩ rfl rfl ?_
 conv=>whnf
 refine ⟨by kernel_rfl,fun _ => ?_⟩
 conv=>whnf
 exact ⟨⟨aut,.inl rfl,trivial⟩,⟨rfl,.inl rfl,.inl rfl,.inl rfl,.inl rfl,.inl rfl,⟨rfl,by simp [Mst.setCore]⟩,⟨rfl,by simp [Mst.setCore]⟩,⟨rfl,by simp [Mst.setCore]⟩,trivial⟩,⟨rfl,rfl,rfl,rfl,.inl rfl⟩,⟨rfl,rfl,rfl,rfl⟩,⟨rfl,rfl,rfl,rfl⟩,trivial⟩
set_option maxRecDepth 100000 in
set_option maxHeartbeats 1000000 in
theorem k_run3 (s:Mst) (k:Nat) (i:Ins) {c:Cst} {r:Cor} (hc:s.cores[k]? = some c) (h16:c.regs.length=16) (hr:s.o.cores[k]? = some r) (h0:0≤c.at_) (hi:r.code[c.at_.toNat]? = some i)
  (hh:c.halted=false) (hst:stallB s c i=false) (hD0:0≤i.d) (hD1:i.d<16) (hm0:0≤i.addr) (hm1:i.addr<(s.mem.length:Int)) (hb:c.buf.length≤64) (hk:i.kind=3) (ha9:c.at_≤16384) :
  K 45 [.ptr 0 0,.tr (ti k)] s.blks (.ret (.tup [(Did.mk 2 k c.at_ i.addr (seeB c.buf i.addr (s.mem.getD i.addr.toNat 0,false)).1 0 (seeB c.buf i.addr (s.mem.getD i.addr.toNat 0,false)).2).av,.tr (ti 0)])) ((s.setCore k ((c1 c).setReg i.d (seeB c.buf i.addr (s.mem.getD i.addr.toNat 0,false)).1)).blks.map some):=by
 have hkl:k<s.cores.length:=(List.getElem?_eq_some_iff.1 hc).1
 have hhas:=k_has s k
 rw [has_ok hkl] at hhas
 have hnx:=k_next s k (d0 k 0) hc h16 hr h0 hi
 have hsl:=k_stalls s k i (d0 k 0) hc h16
 rw [hst] at hsl
 have hlt:=core_lt hc
 have hx:=k_vload (s1 s k c) k i (d0 k c.at_) (s1_get hc) h16 hD0 hD1 hm0 hm1 hb rfl
 simp only [s1_set] at hx
 obtain ⟨kind,op,D,a,b,addr,to_,word,from_⟩:=i
 refine Ctr.of hT hmix Tryz.func45 rfl (fun _ _=>by kernel_rfl) rfl fun hok => ?_
 clear hok
 have hw1:IntKind.i64.wrap (c.at_+1)=c.at_+1:=by rw [w64 (by omega) (by omega)]
 conv=>whnf
 refine acall.au [0,1,2,3] [] (hhas) ?_
 intro _
 conv=>whnf
 refine acall.au [0,1,2,3,_] [] (hnx) ?_
 intro _
 conv=>whnf
 refine ⟨rfl,hlt,fun row hrow => ?_⟩
 obtain rfl:=row_of hc hrow
 refine ⟨by rw [row_len h16]; show 0+1<19; decide,fun t ht => ?_⟩
 obtain rfl:t=tb false:=by rw [← hh]; exact (Option.some.inj ht).symm
 clear ht hrow
 conv=>whnf
 refine acall.au [0,1,2,3,_] [] (hsl) ?_
 intro _
 conv=>whnf
 simp only at hk
 subst hk
 refine ⟨rfl,hlt,fun row hrow => ?_⟩
 obtain rfl:=row_of hc hrow
 refine ⟨by rw [row_len h16]; show 0+0<19; decide,fun t ht => ?_⟩
 obtain rfl:t=ti c.at_:=(Option.some.inj ht).symm
 clear ht hrow
 conv=>whnf
 refine ⟨rfl,hlt,fun row hrow => ?_⟩
 obtain rfl:=row_of hc hrow
 refine ⟨by rw [row_len h16]; show 0+0<19; decide,fun t ht => ?_⟩
 obtain rfl:t=ti c.at_:=(Option.some.inj ht).symm
 clear ht hrow
 conv=>whnf
 refine ⟨rfl,rfl,rfl,hlt,trivial,fun row hrow => ?_⟩
 obtain rfl:=row_of hc hrow
 refine ⟨by rw [row_len h16]; show 0+0+1≤19; decide,?_⟩
 clear hrow
 conv=>whnf
 refine acall.pure _ (k_does3) rfl rfl ?_
 conv=>whnf
 refine acall.gen [0,1,2,3,14] [] _ _ _ _ hx rfl rfl rfl rfl aut ⟨⟨rfl,.inl rfl,.inl rfl,.inl rfl,.inl rfl,.inl rfl,⟨rfl,by simp [Mst.setCore]⟩,⟨rfl,by simp [Mst.setCore]⟩,⟨rfl,by simp [Mst.setCore]⟩,trivial⟩,⟨rfl,rfl,rfl,rfl,.inl (by rw [hw1]; exact csB_at s _)⟩,⟨rfl,rfl,rfl,rfl⟩,⟨rfl,rfl,rfl,rfl⟩,⟨rfl,.inl rfl,.inl rfl,.inl rfl,.inl rfl,.inl rfl,.inl rfl,.inl rfl,trivial⟩,trivial⟩ rfl rfl ?_
 conv=>whnf
 refine ⟨by kernel_rfl,fun _ => ?_⟩
 conv=>whnf
 exact ⟨⟨aut,.inl rfl,trivial⟩,⟨rfl,.inl rfl,.inl rfl,.inl rfl,.inl rfl,.inl rfl,⟨rfl,by simp [Mst.setCore]⟩,⟨rfl,by simp [Mst.setCore]⟩,⟨rfl,by simp [Mst.setCore]⟩,trivial⟩,⟨rfl,rfl,rfl,rfl,.inl rfl⟩,⟨rfl,rfl,rfl,rfl⟩,⟨rfl,rfl,rfl,rfl⟩,trivial⟩
set_option maxRecDepth 100000 in
set_option maxHeartbeats 1000000 in
theorem k_run4 (s:Mst) (k:Nat) (i:Ins) {c:Cst} {r:Cor} (hc:s.cores[k]? = some c) (h16:c.regs.length=16) (hr:s.o.cores[k]? = some r) (h0:0≤c.at_) (hi:r.code[c.at_.toNat]? = some i)
  (hh:c.halted=false) (hst:stallB s c i=false) (ha0:0≤i.a) (ha1:i.a<16) (hb:c.buf.length≤64) (hk:i.kind=4) (ha9:c.at_≤16384) :
  K 45 [.ptr 0 0,.tr (ti k)] s.blks (.ret (.tup [(Did.mk 3 k c.at_ i.addr (c.reg i.a) 0 false).av,.tr (ti 0)])) ((s.setCore k { c1 c with buf:=c.buf++[Sto.mk c.at_ i.addr (c.reg i.a)] }).blks.map some):=by
 have hkl:k<s.cores.length:=(List.getElem?_eq_some_iff.1 hc).1
 have hhas:=k_has s k
 rw [has_ok hkl] at hhas
 have hnx:=k_next s k (d0 k 0) hc h16 hr h0 hi
 have hsl:=k_stalls s k i (d0 k 0) hc h16
 rw [hst] at hsl
 have hlt:=core_lt hc
 have hx:=k_vstore (s1 s k c) k i (d0 k c.at_) (s1_get hc) h16 ha0 ha1 hb
 simp only [s1_set] at hx
 obtain ⟨kind,op,D,a,b,addr,to_,word,from_⟩:=i
 refine Ctr.of hT hmix Tryz.func45 rfl (fun _ _=>by kernel_rfl) rfl fun hok => ?_
 clear hok
 have hw1:IntKind.i64.wrap (c.at_+1)=c.at_+1:=by rw [w64 (by omega) (by omega)]
 conv=>whnf
 refine acall.au [0,1,2,3] [] (hhas) ?_
 intro _
 conv=>whnf
 refine acall.au [0,1,2,3,_] [] (hnx) ?_
 intro _
 conv=>whnf
 refine ⟨rfl,hlt,fun row hrow => ?_⟩
 obtain rfl:=row_of hc hrow
 refine ⟨by rw [row_len h16]; show 0+1<19; decide,fun t ht => ?_⟩
 obtain rfl:t=tb false:=by rw [← hh]; exact (Option.some.inj ht).symm
 clear ht hrow
 conv=>whnf
 refine acall.au [0,1,2,3,_] [] (hsl) ?_
 intro _
 conv=>whnf
 simp only at hk
 subst hk
 refine ⟨rfl,hlt,fun row hrow => ?_⟩
 obtain rfl:=row_of hc hrow
 refine ⟨by rw [row_len h16]; show 0+0<19; decide,fun t ht => ?_⟩
 obtain rfl:t=ti c.at_:=(Option.some.inj ht).symm
 clear ht hrow
 conv=>whnf
 refine ⟨rfl,hlt,fun row hrow => ?_⟩
 obtain rfl:=row_of hc hrow
 refine ⟨by rw [row_len h16]; show 0+0<19; decide,fun t ht => ?_⟩
 obtain rfl:t=ti c.at_:=(Option.some.inj ht).symm
 clear ht hrow
 conv=>whnf
 refine ⟨rfl,rfl,rfl,hlt,trivial,fun row hrow => ?_⟩
 obtain rfl:=row_of hc hrow
 refine ⟨by rw [row_len h16]; show 0+0+1≤19; decide,?_⟩
 clear hrow
 conv=>whnf
 refine acall.pure _ (k_does4) rfl rfl ?_
 conv=>whnf
 refine acall.gen [0,1,2,3,14] [] _ _ _ _ hx rfl rfl rfl rfl aut ⟨⟨rfl,.inl rfl,.inl rfl,.inl rfl,.inl rfl,.inl rfl,⟨rfl,by simp [Mst.setCore]⟩,⟨rfl,by simp [Mst.setCore]⟩,⟨rfl,by simp [Mst.setCore]⟩,trivial⟩,⟨rfl,rfl,rfl,rfl,.inl (by rw [hw1]; exact csB_at s _)⟩,⟨rfl,rfl,rfl,rfl⟩,⟨rfl,rfl,rfl,rfl⟩,⟨rfl,.inl rfl,.inl rfl,.inl rfl,.inl rfl,.inl rfl,.inl rfl,.inl rfl,trivial⟩,trivial⟩ rfl rfl ?_
 conv=>whnf
 refine ⟨by kernel_rfl,fun _ => ?_⟩
 conv=>whnf
 exact ⟨⟨aut,.inl rfl,trivial⟩,⟨rfl,.inl rfl,.inl rfl,.inl rfl,.inl rfl,.inl rfl,⟨rfl,by simp [Mst.setCore]⟩,⟨rfl,by simp [Mst.setCore]⟩,⟨rfl,by simp [Mst.setCore]⟩,trivial⟩,⟨rfl,rfl,rfl,rfl,.inl rfl⟩,⟨rfl,rfl,rfl,rfl⟩,⟨rfl,rfl,rfl,rfl⟩,trivial⟩
set_option maxRecDepth 100000 in
set_option maxHeartbeats 1000000 in
theorem k_run5 (s:Mst) (k:Nat) (i:Ins) {c:Cst} {r:Cor} (hc:s.cores[k]? = some c) (h16:c.regs.length=16) (hr:s.o.cores[k]? = some r) (h0:0≤c.at_) (hi:r.code[c.at_.toNat]? = some i)
  (hh:c.halted=false) (hst:stallB s c i=false) (hD0:0≤i.d) (hD1:i.d<16) (hm0:0≤i.addr) (hm1:i.addr<(s.mem.length:Int)) (hk:i.kind=5) (ha9:c.at_≤16384) :
  K 45 [.ptr 0 0,.tr (ti k)] s.blks (.ret (.tup [(Did.mk 4 k c.at_ i.addr (s.mem.getD i.addr.toNat 0) (c.reg i.d) false).av,.tr (ti 0)])) ((({ s.setCore k ((c1 c).setReg i.d (s.mem.getD i.addr.toNat 0)) with mem:=s.mem.set i.addr.toNat (c.reg i.d) }:Mst)).blks.map some):=by
 have hkl:k<s.cores.length:=(List.getElem?_eq_some_iff.1 hc).1
 have hhas:=k_has s k
 rw [has_ok hkl] at hhas
 have hnx:=k_next s k (d0 k 0) hc h16 hr h0 hi
 have hsl:=k_stalls s k i (d0 k 0) hc h16
 rw [hst] at hsl
 have hlt:=core_lt hc
 have hx:=k_vswap (s1 s k c) k i (d0 k c.at_) (s1_get hc) h16 hD0 hD1 hm0 hm1
 simp only [s1_set] at hx
 obtain ⟨kind,op,D,a,b,addr,to_,word,from_⟩:=i
 refine Ctr.of hT hmix Tryz.func45 rfl (fun _ _=>by kernel_rfl) rfl fun hok => ?_
 clear hok
 have hw1:IntKind.i64.wrap (c.at_+1)=c.at_+1:=by rw [w64 (by omega) (by omega)]
 conv=>whnf
 refine acall.au [0,1,2,3] [] (hhas) ?_
 intro _
 conv=>whnf
 refine acall.au [0,1,2,3,_] [] (hnx) ?_
 intro _
 conv=>whnf
 refine ⟨rfl,hlt,fun row hrow => ?_⟩
 obtain rfl:=row_of hc hrow
 refine ⟨by rw [row_len h16]; show 0+1<19; decide,fun t ht => ?_⟩
 obtain rfl:t=tb false:=by rw [← hh]; exact (Option.some.inj ht).symm
 clear ht hrow
 conv=>whnf
 refine acall.au [0,1,2,3,_] [] (hsl) ?_
 intro _
 conv=>whnf
 simp only at hk
 subst hk
 refine ⟨rfl,hlt,fun row hrow => ?_⟩
 obtain rfl:=row_of hc hrow
 refine ⟨by rw [row_len h16]; show 0+0<19; decide,fun t ht => ?_⟩
 obtain rfl:t=ti c.at_:=(Option.some.inj ht).symm
 clear ht hrow
 conv=>whnf
 refine ⟨rfl,hlt,fun row hrow => ?_⟩
 obtain rfl:=row_of hc hrow
 refine ⟨by rw [row_len h16]; show 0+0<19; decide,fun t ht => ?_⟩
 obtain rfl:t=ti c.at_:=(Option.some.inj ht).symm
 clear ht hrow
 conv=>whnf
 refine ⟨rfl,rfl,rfl,hlt,trivial,fun row hrow => ?_⟩
 obtain rfl:=row_of hc hrow
 refine ⟨by rw [row_len h16]; show 0+0+1≤19; decide,?_⟩
 clear hrow
 conv=>whnf
 refine acall.pure _ (k_does5) rfl rfl ?_
 conv=>whnf
 refine acall.gen [0,1,2,3,14] [] _ _ _ _ hx rfl rfl rfl rfl aut ⟨⟨rfl,.inl rfl,.inl rfl,.inl rfl,.inl rfl,.inl rfl,⟨rfl,by simp [Mst.setCore]⟩,⟨rfl,by simp [Mst.setCore]⟩,⟨rfl,by simp [Mst.setCore]⟩,trivial⟩,⟨rfl,rfl,rfl,rfl,.inl (by rw [hw1]; exact csB_at s _)⟩,⟨rfl,rfl,rfl,rfl⟩,⟨rfl,rfl,rfl,rfl⟩,⟨rfl,.inl rfl,.inl rfl,.inl rfl,.inl rfl,.inl rfl,.inl rfl,.inl rfl,trivial⟩,trivial⟩ rfl rfl ?_
 conv=>whnf
 refine ⟨by kernel_rfl,fun _ => ?_⟩
 conv=>whnf
 exact ⟨⟨aut,.inl rfl,trivial⟩,⟨rfl,.inl rfl,.inl rfl,.inl rfl,.inl rfl,.inl rfl,⟨rfl,by simp [Mst.setCore]⟩,⟨rfl,by simp [Mst.setCore]⟩,⟨rfl,by simp [Mst.setCore]⟩,trivial⟩,⟨rfl,rfl,rfl,rfl,.inl rfl⟩,⟨rfl,rfl,rfl,rfl⟩,⟨rfl,rfl,rfl,rfl⟩,trivial⟩
set_option maxRecDepth 100000 in
set_option maxHeartbeats 1000000 in
theorem k_run6 (s:Mst) (k:Nat) (i:Ins) {c:Cst} {r:Cor} (hc:s.cores[k]? = some c) (h16:c.regs.length=16) (hr:s.o.cores[k]? = some r) (h0:0≤c.at_) (hi:r.code[c.at_.toNat]? = some i)
  (hh:c.halted=false) (hst:stallB s c i=false) (hk:i.kind=6) (ha9:c.at_≤16384) :
  K 45 [.ptr 0 0,.tr (ti k)] s.blks (.ret (.tup [(Did.mk 5 k c.at_ 0 0 0 false).av,.tr (ti 0)])) ((s.setCore k (c1 c)).blks.map some):=by
 have hkl:k<s.cores.length:=(List.getElem?_eq_some_iff.1 hc).1
 have hhas:=k_has s k
 rw [has_ok hkl] at hhas
 have hnx:=k_next s k (d0 k 0) hc h16 hr h0 hi
 have hsl:=k_stalls s k i (d0 k 0) hc h16
 rw [hst] at hsl
 have hlt:=core_lt hc
 have hx:=k_vfence (s1 s k c) k i (d0 k c.at_) (s1_get hc) h16
 simp only [s1_set] at hx
 obtain ⟨kind,op,D,a,b,addr,to_,word,from_⟩:=i
 refine Ctr.of hT hmix Tryz.func45 rfl (fun _ _=>by kernel_rfl) rfl fun hok => ?_
 clear hok
 have hw1:IntKind.i64.wrap (c.at_+1)=c.at_+1:=by rw [w64 (by omega) (by omega)]
 conv=>whnf
 refine acall.au [0,1,2,3] [] (hhas) ?_
 intro _
 conv=>whnf
 refine acall.au [0,1,2,3,_] [] (hnx) ?_
 intro _
 conv=>whnf
 refine ⟨rfl,hlt,fun row hrow => ?_⟩
 obtain rfl:=row_of hc hrow
 refine ⟨by rw [row_len h16]; show 0+1<19; decide,fun t ht => ?_⟩
 obtain rfl:t=tb false:=by rw [← hh]; exact (Option.some.inj ht).symm
 clear ht hrow
 conv=>whnf
 refine acall.au [0,1,2,3,_] [] (hsl) ?_
 intro _
 conv=>whnf
 simp only at hk
 subst hk
 refine ⟨rfl,hlt,fun row hrow => ?_⟩
 obtain rfl:=row_of hc hrow
 refine ⟨by rw [row_len h16]; show 0+0<19; decide,fun t ht => ?_⟩
 obtain rfl:t=ti c.at_:=(Option.some.inj ht).symm
 clear ht hrow
 conv=>whnf
 refine ⟨rfl,hlt,fun row hrow => ?_⟩
 obtain rfl:=row_of hc hrow
 refine ⟨by rw [row_len h16]; show 0+0<19; decide,fun t ht => ?_⟩
 obtain rfl:t=ti c.at_:=(Option.some.inj ht).symm
 clear ht hrow
 conv=>whnf
 refine ⟨rfl,rfl,rfl,hlt,trivial,fun row hrow => ?_⟩
 obtain rfl:=row_of hc hrow
 refine ⟨by rw [row_len h16]; show 0+0+1≤19; decide,?_⟩
 clear hrow
 conv=>whnf
 refine acall.pure _ (k_does6) rfl rfl ?_
 conv=>whnf
 refine acall.gen [0,1,2,3,14] [] _ _ _ _ hx rfl rfl rfl rfl aut ⟨⟨rfl,.inl rfl,.inl rfl,.inl rfl,.inl rfl,.inl rfl,⟨rfl,by simp [Mst.setCore]⟩,⟨rfl,by simp [Mst.setCore]⟩,⟨rfl,by simp [Mst.setCore]⟩,trivial⟩,⟨rfl,rfl,rfl,rfl,.inl (by rw [hw1]; exact csB_at s _)⟩,⟨rfl,rfl,rfl,rfl⟩,⟨rfl,rfl,rfl,rfl⟩,⟨rfl,.inl rfl,.inl rfl,.inl rfl,.inl rfl,.inl rfl,.inl rfl,.inl rfl,trivial⟩,trivial⟩ rfl rfl ?_
 conv=>whnf
 refine ⟨by kernel_rfl,fun _ => ?_⟩
 conv=>whnf
 exact ⟨⟨aut,.inl rfl,trivial⟩,⟨rfl,.inl rfl,.inl rfl,.inl rfl,.inl rfl,.inl rfl,⟨rfl,by simp [Mst.setCore]⟩,⟨rfl,by simp [Mst.setCore]⟩,⟨rfl,by simp [Mst.setCore]⟩,trivial⟩,⟨rfl,rfl,rfl,rfl,.inl rfl⟩,⟨rfl,rfl,rfl,rfl⟩,⟨rfl,rfl,rfl,rfl⟩,trivial⟩
set_option maxRecDepth 100000 in
set_option maxHeartbeats 1000000 in
theorem k_run8 (s:Mst) (k:Nat) (i:Ins) {c:Cst} {r:Cor} (hc:s.cores[k]? = some c) (h16:c.regs.length=16) (hr:s.o.cores[k]? = some r) (h0:0≤c.at_) (hi:r.code[c.at_.toNat]? = some i)
  (hh:c.halted=false) (hst:stallB s c i=false) (hk:i.kind=8) (ha9:c.at_≤16384) :
  K 45 [.ptr 0 0,.tr (ti k)] s.blks (.ret (.tup [(Did.mk 1 k c.at_ 0 0 0 false).av,.tr (ti 0)])) ((s.setCore k { c with at_:=i.to_ }).blks.map some):=by
 have hkl:k<s.cores.length:=(List.getElem?_eq_some_iff.1 hc).1
 have hhas:=k_has s k
 rw [has_ok hkl] at hhas
 have hnx:=k_next s k (d0 k 0) hc h16 hr h0 hi
 have hsl:=k_stalls s k i (d0 k 0) hc h16
 rw [hst] at hsl
 have hlt:=core_lt hc
 have hx:=k_vjump (s1 s k c) k i (d0 k c.at_) (s1_get hc) h16
 simp only [s1_set] at hx
 obtain ⟨kind,op,D,a,b,addr,to_,word,from_⟩:=i
 refine Ctr.of hT hmix Tryz.func45 rfl (fun _ _=>by kernel_rfl) rfl fun hok => ?_
 clear hok
 have hw1:IntKind.i64.wrap (c.at_+1)=c.at_+1:=by rw [w64 (by omega) (by omega)]
 conv=>whnf
 refine acall.au [0,1,2,3] [] (hhas) ?_
 intro _
 conv=>whnf
 refine acall.au [0,1,2,3,_] [] (hnx) ?_
 intro _
 conv=>whnf
 refine ⟨rfl,hlt,fun row hrow => ?_⟩
 obtain rfl:=row_of hc hrow
 refine ⟨by rw [row_len h16]; show 0+1<19; decide,fun t ht => ?_⟩
 obtain rfl:t=tb false:=by rw [← hh]; exact (Option.some.inj ht).symm
 clear ht hrow
 conv=>whnf
 refine acall.au [0,1,2,3,_] [] (hsl) ?_
 intro _
 conv=>whnf
 simp only at hk
 subst hk
 refine ⟨rfl,hlt,fun row hrow => ?_⟩
 obtain rfl:=row_of hc hrow
 refine ⟨by rw [row_len h16]; show 0+0<19; decide,fun t ht => ?_⟩
 obtain rfl:t=ti c.at_:=(Option.some.inj ht).symm
 clear ht hrow
 conv=>whnf
 refine ⟨rfl,hlt,fun row hrow => ?_⟩
 obtain rfl:=row_of hc hrow
 refine ⟨by rw [row_len h16]; show 0+0<19; decide,fun t ht => ?_⟩
 obtain rfl:t=ti c.at_:=(Option.some.inj ht).symm
 clear ht hrow
 conv=>whnf
 refine ⟨rfl,rfl,rfl,hlt,trivial,fun row hrow => ?_⟩
 obtain rfl:=row_of hc hrow
 refine ⟨by rw [row_len h16]; show 0+0+1≤19; decide,?_⟩
 clear hrow
 conv=>whnf
 refine acall.pure _ (k_does8) rfl rfl ?_
 conv=>whnf
 refine acall.gen [0,1,2,3,14] [] _ _ _ _ hx rfl rfl rfl rfl aut ⟨⟨rfl,.inl rfl,.inl rfl,.inl rfl,.inl rfl,.inl rfl,⟨rfl,by simp [Mst.setCore]⟩,⟨rfl,by simp [Mst.setCore]⟩,⟨rfl,by simp [Mst.setCore]⟩,trivial⟩,⟨rfl,rfl,rfl,rfl,.inl (by rw [hw1]; exact csB_at s _)⟩,⟨rfl,rfl,rfl,rfl⟩,⟨rfl,rfl,rfl,rfl⟩,⟨rfl,.inl rfl,.inl rfl,.inl rfl,.inl rfl,.inl rfl,.inl rfl,.inl rfl,trivial⟩,trivial⟩ rfl rfl ?_
 conv=>whnf
 refine ⟨by kernel_rfl,fun _ => ?_⟩
 conv=>whnf
 exact ⟨⟨aut,.inl rfl,trivial⟩,⟨rfl,.inl rfl,.inl rfl,.inl rfl,.inl rfl,.inl rfl,⟨rfl,by simp [Mst.setCore]⟩,⟨rfl,by simp [Mst.setCore]⟩,⟨rfl,by simp [Mst.setCore]⟩,trivial⟩,⟨rfl,rfl,rfl,rfl,.inl rfl⟩,⟨rfl,rfl,rfl,rfl⟩,⟨rfl,rfl,rfl,rfl⟩,trivial⟩
set_option maxRecDepth 100000 in
set_option maxHeartbeats 1000000 in
theorem k_run9 (s:Mst) (k:Nat) (i:Ins) {c:Cst} {r:Cor} (hc:s.cores[k]? = some c) (h16:c.regs.length=16) (hr:s.o.cores[k]? = some r) (h0:0≤c.at_) (hi:r.code[c.at_.toNat]? = some i)
  (hh:c.halted=false) (hst:stallB s c i=false) (ha0:0≤i.a) (ha1:i.a<16) (hk:i.kind=9) (ha9:c.at_≤16384) :
  K 45 [.ptr 0 0,.tr (ti k)] s.blks (.ret (.tup [(Did.mk 1 k c.at_ 0 0 0 false).av,.tr (ti 0)])) ((s.setCore k { c with at_:=bif c.reg i.a == 0 then i.to_ else c.at_+1 }).blks.map some):=by
 have hkl:k<s.cores.length:=(List.getElem?_eq_some_iff.1 hc).1
 have hhas:=k_has s k
 rw [has_ok hkl] at hhas
 have hnx:=k_next s k (d0 k 0) hc h16 hr h0 hi
 have hsl:=k_stalls s k i (d0 k 0) hc h16
 rw [hst] at hsl
 have hlt:=core_lt hc
 have hx:=k_vzero (s1 s k c) k i (d0 k c.at_) (s1_get hc) h16 ha0 ha1
 simp only [s1_set] at hx
 obtain ⟨kind,op,D,a,b,addr,to_,word,from_⟩:=i
 refine Ctr.of hT hmix Tryz.func45 rfl (fun _ _=>by kernel_rfl) rfl fun hok => ?_
 clear hok
 have hw1:IntKind.i64.wrap (c.at_+1)=c.at_+1:=by rw [w64 (by omega) (by omega)]
 conv=>whnf
 refine acall.au [0,1,2,3] [] (hhas) ?_
 intro _
 conv=>whnf
 refine acall.au [0,1,2,3,_] [] (hnx) ?_
 intro _
 conv=>whnf
 refine ⟨rfl,hlt,fun row hrow => ?_⟩
 obtain rfl:=row_of hc hrow
 refine ⟨by rw [row_len h16]; show 0+1<19; decide,fun t ht => ?_⟩
 obtain rfl:t=tb false:=by rw [← hh]; exact (Option.some.inj ht).symm
 clear ht hrow
 conv=>whnf
 refine acall.au [0,1,2,3,_] [] (hsl) ?_
 intro _
 conv=>whnf
 simp only at hk
 subst hk
 refine ⟨rfl,hlt,fun row hrow => ?_⟩
 obtain rfl:=row_of hc hrow
 refine ⟨by rw [row_len h16]; show 0+0<19; decide,fun t ht => ?_⟩
 obtain rfl:t=ti c.at_:=(Option.some.inj ht).symm
 clear ht hrow
 conv=>whnf
 refine ⟨rfl,hlt,fun row hrow => ?_⟩
 obtain rfl:=row_of hc hrow
 refine ⟨by rw [row_len h16]; show 0+0<19; decide,fun t ht => ?_⟩
 obtain rfl:t=ti c.at_:=(Option.some.inj ht).symm
 clear ht hrow
 conv=>whnf
 refine ⟨rfl,rfl,rfl,hlt,trivial,fun row hrow => ?_⟩
 obtain rfl:=row_of hc hrow
 refine ⟨by rw [row_len h16]; show 0+0+1≤19; decide,?_⟩
 clear hrow
 conv=>whnf
 refine acall.pure _ (k_does9) rfl rfl ?_
 conv=>whnf
 refine acall.gen [0,1,2,3,14] [] _ _ _ _ hx rfl rfl rfl rfl aut ⟨⟨rfl,.inl rfl,.inl rfl,.inl rfl,.inl rfl,.inl rfl,⟨rfl,by simp [Mst.setCore]⟩,⟨rfl,by simp [Mst.setCore]⟩,⟨rfl,by simp [Mst.setCore]⟩,trivial⟩,⟨rfl,rfl,rfl,rfl,.inl (by rw [hw1]; exact csB_at s _)⟩,⟨rfl,rfl,rfl,rfl⟩,⟨rfl,rfl,rfl,rfl⟩,⟨rfl,.inl rfl,.inl rfl,.inl rfl,.inl rfl,.inl rfl,.inl rfl,.inl rfl,trivial⟩,trivial⟩ rfl rfl ?_
 conv=>whnf
 refine ⟨by kernel_rfl,fun _ => ?_⟩
 conv=>whnf
 exact ⟨⟨aut,.inl rfl,trivial⟩,⟨rfl,.inl rfl,.inl rfl,.inl rfl,.inl rfl,.inl rfl,⟨rfl,by simp [Mst.setCore]⟩,⟨rfl,by simp [Mst.setCore]⟩,⟨rfl,by simp [Mst.setCore]⟩,trivial⟩,⟨rfl,rfl,rfl,rfl,.inl rfl⟩,⟨rfl,rfl,rfl,rfl⟩,⟨rfl,rfl,rfl,rfl⟩,trivial⟩
set_option maxRecDepth 100000 in
set_option maxHeartbeats 1000000 in
theorem k_run10 (s:Mst) (k:Nat) (i:Ins) {c:Cst} {r:Cor} (hc:s.cores[k]? = some c) (h16:c.regs.length=16) (hr:s.o.cores[k]? = some r) (h0:0≤c.at_) (hi:r.code[c.at_.toNat]? = some i)
  (hh:c.halted=false) (hst:stallB s c i=false) (hk:i.kind=10) (ha9:c.at_≤16384) :
  K 45 [.ptr 0 0,.tr (ti k)] s.blks (.ret (.tup [(Did.mk 7 k c.at_ 0 0 0 false).av,.tr (ti 0)])) ((s.setCore k { c with halted:=true,at_:=c.at_ }).blks.map some):=by
 have hkl:k<s.cores.length:=(List.getElem?_eq_some_iff.1 hc).1
 have hhas:=k_has s k
 rw [has_ok hkl] at hhas
 have hnx:=k_next s k (d0 k 0) hc h16 hr h0 hi
 have hsl:=k_stalls s k i (d0 k 0) hc h16
 rw [hst] at hsl
 have hlt:=core_lt hc
 have hx:=k_vhalt (s1 s k c) k i (d0 k c.at_) (s1_get hc) h16
 simp only [s1_set] at hx
 obtain ⟨kind,op,D,a,b,addr,to_,word,from_⟩:=i
 refine Ctr.of hT hmix Tryz.func45 rfl (fun _ _=>by kernel_rfl) rfl fun hok => ?_
 clear hok
 have hw1:IntKind.i64.wrap (c.at_+1)=c.at_+1:=by rw [w64 (by omega) (by omega)]
 conv=>whnf
 refine acall.au [0,1,2,3] [] (hhas) ?_
 intro _
 conv=>whnf
 refine acall.au [0,1,2,3,_] [] (hnx) ?_
 intro _
 conv=>whnf
 refine ⟨rfl,hlt,fun row hrow => ?_⟩
 obtain rfl:=row_of hc hrow
 refine ⟨by rw [row_len h16]; show 0+1<19; decide,fun t ht => ?_⟩
 obtain rfl:t=tb false:=by rw [← hh]; exact (Option.some.inj ht).symm
 clear ht hrow
 conv=>whnf
 refine acall.au [0,1,2,3,_] [] (hsl) ?_
 intro _
 conv=>whnf
 simp only at hk
 subst hk
 refine ⟨rfl,hlt,fun row hrow => ?_⟩
 obtain rfl:=row_of hc hrow
 refine ⟨by rw [row_len h16]; show 0+0<19; decide,fun t ht => ?_⟩
 obtain rfl:t=ti c.at_:=(Option.some.inj ht).symm
 clear ht hrow
 conv=>whnf
 refine ⟨rfl,hlt,fun row hrow => ?_⟩
 obtain rfl:=row_of hc hrow
 refine ⟨by rw [row_len h16]; show 0+0<19; decide,fun t ht => ?_⟩
 obtain rfl:t=ti c.at_:=(Option.some.inj ht).symm
 clear ht hrow
 conv=>whnf
 refine ⟨rfl,rfl,rfl,hlt,trivial,fun row hrow => ?_⟩
 obtain rfl:=row_of hc hrow
 refine ⟨by rw [row_len h16]; show 0+0+1≤19; decide,?_⟩
 clear hrow
 conv=>whnf
 refine acall.pure _ (k_does10) rfl rfl ?_
 conv=>whnf
 refine acall.gen [0,1,2,3,14] [] _ _ _ _ hx rfl rfl rfl rfl aut ⟨⟨rfl,.inl rfl,.inl rfl,.inl rfl,.inl rfl,.inl rfl,⟨rfl,by simp [Mst.setCore]⟩,⟨rfl,by simp [Mst.setCore]⟩,⟨rfl,by simp [Mst.setCore]⟩,trivial⟩,⟨rfl,rfl,rfl,rfl,.inl (by rw [hw1]; exact csB_at s _)⟩,⟨rfl,rfl,rfl,rfl⟩,⟨rfl,rfl,rfl,rfl⟩,⟨rfl,.inl rfl,.inl rfl,.inl rfl,.inl rfl,.inl rfl,.inl rfl,.inl rfl,trivial⟩,trivial⟩ rfl rfl ?_
 conv=>whnf
 refine ⟨by kernel_rfl,fun _ => ?_⟩
 conv=>whnf
 exact ⟨⟨aut,.inl rfl,trivial⟩,⟨rfl,.inl rfl,.inl rfl,.inl rfl,.inl rfl,.inl rfl,⟨rfl,by simp [Mst.setCore]⟩,⟨rfl,by simp [Mst.setCore]⟩,⟨rfl,by simp [Mst.setCore]⟩,trivial⟩,⟨rfl,rfl,rfl,rfl,.inl rfl⟩,⟨rfl,rfl,rfl,rfl⟩,⟨rfl,rfl,rfl,rfl⟩,trivial⟩
end Go.Proofs.YtbflekglkkdipaaGreatDoor.am
