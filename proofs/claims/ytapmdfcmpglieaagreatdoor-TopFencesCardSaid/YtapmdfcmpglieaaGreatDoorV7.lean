/- The types of the translation, as the abstract machine has them (printed by gen_ty.py). Contracts of target: the kinds and fields of instructions. -/
import Derived.Test.YtapmdfcmpglieaaGreatDoorV3
import Derived.Test.YtapmdfcmpglieaaGreatDoorProg
import Derived.KernelRfl
import Derived.Test.YtapmdfcmpglieaaGreatDoorV4
set_option maxRecDepth 100000
set_option maxHeartbeats 4000000
set_option linter.all false
namespace Go.Proofs.YtapmdfcmpglieaaGreatDoor.am
open Go
def T:Ty:=[
 (1,⟨.func,1,8,[.f],false⟩),
 (2,⟨.int .i64,1,8,[.i .i64],false⟩),
 (3,⟨.int .i64,1,8,[.i .i64],false⟩),
 (4,⟨.bool,1,1,[.b],false⟩),
 (5,⟨.int .u8,1,1,[.i .u8],false⟩),
 (9,⟨.string,1,16,[.s],false⟩),
 (12,⟨.int .u64,1,8,[.i .u64],false⟩),
 (15,⟨.ptr 306,1,8,[.p],false⟩),
 (16,⟨.ptr 309,1,8,[.p],false⟩),
 (20,⟨.iface,1,16,[.n],false⟩),
 (21,⟨.int .i32,1,4,[.i .i32],false⟩),
 (22,⟨.func,1,8,[.f],false⟩),
 (23,⟨.slice 200,1,24,[.sl],false⟩),
 (24,⟨.slice 41,1,24,[.sl],false⟩),
 (25,⟨.struct [(23,0),(23,1),(24,2)],3,72,[.sl,.sl,.sl],true⟩),
 (26,⟨.struct [(23,0),(23,1),(24,2)],3,72,[.sl,.sl,.sl],true⟩),
 (28,⟨.func,1,8,[.f],false⟩),
 (29,⟨.slice 38,1,24,[.sl],false⟩),
 (30,⟨.int .i64,1,8,[.i .i64],false⟩),
 (32,⟨.func,1,8,[.f],false⟩),
 (33,⟨.slice 77,1,24,[.sl],false⟩),
 (35,⟨.func,1,8,[.f],false⟩),
 (37,⟨.func,1,8,[.f],false⟩),
 (38,⟨.slice 3,1,24,[.sl],false⟩),
 (39,⟨.slice 112,1,24,[.sl],false⟩),
 (40,⟨.struct [(9,0),(3,1),(3,2),(39,3)],4,56,[.s,.i .i64,.i .i64,.sl],true⟩),
 (41,⟨.struct [(9,0),(3,1),(3,2),(39,3)],4,56,[.s,.i .i64,.i .i64,.sl],true⟩),
 (42,⟨.slice 97,1,24,[.sl],false⟩),
 (44,⟨.func,1,8,[.f],false⟩),
 (46,⟨.func,1,8,[.f],false⟩),
 (47,⟨.func,1,8,[.f],false⟩),
 (48,⟨.func,1,8,[.f],false⟩),
 (50,⟨.func,1,8,[.f],false⟩),
 (51,⟨.int .u8,1,1,[.i .u8],false⟩),
 (52,⟨.slice 60,1,24,[.sl],false⟩),
 (53,⟨.struct [(3,0),(3,1)],2,16,[.i .i64,.i .i64],true⟩),
 (54,⟨.struct [(3,0),(3,1)],2,16,[.i .i64,.i .i64],true⟩),
 (56,⟨.func,1,8,[.f],false⟩),
 (57,⟨.func,1,8,[.f],false⟩),
 (58,⟨.int .u8,1,1,[.i .u8],false⟩),
 (59,⟨.struct [(58,0),(9,1),(2,2),(3,3)],4,40,[.i .u8,.s,.i .i64,.i .i64],true⟩),
 (60,⟨.struct [(58,0),(9,1),(2,2),(3,3)],4,40,[.i .u8,.s,.i .i64,.i .i64],true⟩),
 (61,⟨.slice 142,1,24,[.sl],false⟩),
 (62,⟨.struct [(23,0),(23,1),(61,2)],3,72,[.sl,.sl,.sl],true⟩),
 (63,⟨.struct [(23,0),(23,1),(61,2)],3,72,[.sl,.sl,.sl],true⟩),
 (65,⟨.func,1,8,[.f],false⟩),
 (67,⟨.func,1,8,[.f],false⟩),
 (69,⟨.func,1,8,[.f],false⟩),
 (71,⟨.func,1,8,[.f],false⟩),
 (72,⟨.func,1,8,[.f],false⟩),
 (73,⟨.func,1,8,[.f],false⟩),
 (74,⟨.func,1,8,[.f],false⟩),
 (75,⟨.int .u8,1,1,[.i .u8],false⟩),
 (76,⟨.struct [(75,0),(3,1),(3,2)],3,24,[.i .u8,.i .i64,.i .i64],true⟩),
 (77,⟨.struct [(75,0),(3,1),(3,2)],3,24,[.i .u8,.i .i64,.i .i64],true⟩),
 (78,⟨.func,1,8,[.f],false⟩),
 (79,⟨.func,1,8,[.f],false⟩),
 (80,⟨.int .u32,1,4,[.i .u32],false⟩),
 (81,⟨.int .u32,1,4,[.i .u32],false⟩),
 (82,⟨.struct [(81,0),(81,1)],2,8,[.i .u32,.i .u32],true⟩),
 (83,⟨.struct [(81,0),(81,1)],2,8,[.i .u32,.i .u32],true⟩),
 (84,⟨.func,1,8,[.f],false⟩),
 (85,⟨.func,1,8,[.f],false⟩),
 (86,⟨.ptr 95,1,8,[.p],false⟩),
 (87,⟨.func,1,8,[.f],false⟩),
 (88,⟨.func,1,8,[.f],false⟩),
 (89,⟨.slice 4,1,24,[.sl],false⟩),
 (90,⟨.func,1,8,[.f],false⟩),
 (91,⟨.struct [(4,0),(4,1),(4,2),(4,3)],4,4,[.b,.b,.b,.b],true⟩),
 (92,⟨.struct [(4,0),(4,1),(4,2),(4,3)],4,4,[.b,.b,.b,.b],true⟩),
 (93,⟨.slice 92,1,24,[.sl],false⟩),
 (94,⟨.struct [(41,0),(93,4)],5,80,[.s,.i .i64,.i .i64,.sl,.sl],true⟩),
 (95,⟨.struct [(41,0),(93,4)],5,80,[.s,.i .i64,.i .i64,.sl,.sl],true⟩),
 (96,⟨.struct [(3,0),(3,1)],2,16,[.i .i64,.i .i64],true⟩),
 (97,⟨.struct [(3,0),(3,1)],2,16,[.i .i64,.i .i64],true⟩),
 (98,⟨.func,1,8,[.f],false⟩),
 (99,⟨.func,1,8,[.f],false⟩),
 (100,⟨.ptr 104,1,8,[.p],false⟩),
 (101,⟨.func,1,8,[.f],false⟩),
 (102,⟨.map 107 3,1,8,[.m],false⟩),
 (103,⟨.struct [(41,0),(33,4),(38,5),(3,6),(102,7)],8,120,[.s,.i .i64,.i .i64,.sl,.sl,.sl,.i .i64,.m],true⟩),
 (104,⟨.struct [(41,0),(33,4),(38,5),(3,6),(102,7)],8,120,[.s,.i .i64,.i .i64,.sl,.sl,.sl,.i .i64,.m],true⟩),
 (105,⟨.func,1,8,[.f],false⟩),
 (106,⟨.struct [(3,0),(4,1)],2,16,[.i .i64,.b],true⟩),
 (107,⟨.struct [(3,0),(4,1)],2,16,[.i .i64,.b],true⟩),
 (108,⟨.int .u8,1,1,[.i .u8],false⟩),
 (109,⟨.struct [(4,0),(3,1),(2,2)],3,24,[.b,.i .i64,.i .i64],true⟩),
 (110,⟨.struct [(4,0),(3,1),(2,2)],3,24,[.b,.i .i64,.i .i64],true⟩),
 (111,⟨.struct [(108,0),(51,1),(3,2),(3,3),(110,4),(110,7),(3,10),(3,11),(3,12)],13,96,[.i .u8,.i .u8,.i .i64,.i .i64,.b,.i .i64,.i .i64,.b,.i .i64,.i .i64,.i .i64,.i .i64,.i .i64],true⟩),
 (112,⟨.struct [(108,0),(51,1),(3,2),(3,3),(110,4),(110,7),(3,10),(3,11),(3,12)],13,96,[.i .u8,.i .u8,.i .i64,.i .i64,.b,.i .i64,.i .i64,.b,.i .i64,.i .i64,.i .i64,.i .i64,.i .i64],true⟩),
 (114,⟨.func,1,8,[.f],false⟩),
 (115,⟨.func,1,8,[.f],false⟩),
 (116,⟨.func,1,8,[.f],false⟩),
 (117,⟨.func,1,8,[.f],false⟩),
 (118,⟨.func,1,8,[.f],false⟩),
 (119,⟨.struct [(117,0),(118,1)],2,16,[.f,.f],true⟩),
 (120,⟨.struct [(117,0),(118,1)],2,16,[.f,.f],true⟩),
 (121,⟨.array 19 120,38,304,[.f,.f,.f,.f,.f,.f,.f,.f,.f,.f,.f,.f,.f,.f,.f,.f,.f,.f,.f,.f,.f,.f,.f,.f,.f,.f,.f,.f,.f,.f,.f,.f,.f,.f,.f,.f,.f,.f],false⟩),
 (122,⟨.func,1,8,[.f],false⟩),
 (123,⟨.int .i64,1,8,[.i .i64],false⟩),
 (124,⟨.ptr 126,1,8,[.p],false⟩),
 (125,⟨.struct [(9,0),(3,1),(54,2)],4,40,[.s,.i .i64,.i .i64,.i .i64],true⟩),
 (126,⟨.struct [(9,0),(3,1),(54,2)],4,40,[.s,.i .i64,.i .i64,.i .i64],true⟩),
 (128,⟨.func,1,8,[.f],false⟩),
 (129,⟨.array 20 5,20,20,[.i .u8,.i .u8,.i .u8,.i .u8,.i .u8,.i .u8,.i .u8,.i .u8,.i .u8,.i .u8,.i .u8,.i .u8,.i .u8,.i .u8,.i .u8,.i .u8,.i .u8,.i .u8,.i .u8,.i .u8],false⟩),
 (130,⟨.int .u64,1,8,[.i .u64],false⟩),
 (131,⟨.slice 5,1,24,[.sl],false⟩),
 (132,⟨.ptr 183,1,8,[.p],false⟩),
 (134,⟨.func,1,8,[.f],false⟩),
 (135,⟨.struct [(54,0)],2,16,[.i .i64,.i .i64],true⟩),
 (136,⟨.struct [(54,0)],2,16,[.i .i64,.i .i64],true⟩),
 (137,⟨.func,1,8,[.f],false⟩),
 (139,⟨.func,1,8,[.f],false⟩),
 (140,⟨.slice 196,1,24,[.sl],false⟩),
 (141,⟨.struct [(9,0),(23,1),(140,2),(3,3)],4,72,[.s,.sl,.sl,.i .i64],true⟩),
 (142,⟨.struct [(9,0),(23,1),(140,2),(3,3)],4,72,[.s,.sl,.sl,.i .i64],true⟩),
 (143,⟨.ptr 146,1,8,[.p],false⟩),
 (144,⟨.slice 187,1,24,[.sl],false⟩),
 (145,⟨.struct [(63,0),(3,3),(41,4),(144,8),(4,9)],10,168,[.sl,.sl,.sl,.i .i64,.s,.i .i64,.i .i64,.sl,.sl,.b],true⟩),
 (146,⟨.struct [(63,0),(3,3),(41,4),(144,8),(4,9)],10,168,[.sl,.sl,.sl,.i .i64,.s,.i .i64,.i .i64,.sl,.sl,.b],true⟩),
 (147,⟨.func,1,8,[.f],false⟩),
 (148,⟨.func,1,8,[.f],false⟩),
 (149,⟨.func,1,8,[.f],false⟩),
 (150,⟨.func,1,8,[.f],false⟩),
 (152,⟨.func,1,8,[.f],false⟩),
 (154,⟨.func,1,8,[.f],false⟩),
 (155,⟨.ptr 160,1,8,[.p],false⟩),
 (156,⟨.func,1,8,[.f],false⟩),
 (157,⟨.slice 3,1,24,[.sl],false⟩),
 (158,⟨.func,1,8,[.f],false⟩),
 (159,⟨.struct [(38,0),(156,1)],2,32,[.sl,.f],true⟩),
 (160,⟨.struct [(38,0),(156,1)],2,32,[.sl,.f],true⟩),
 (161,⟨.func,1,8,[.f],false⟩),
 (162,⟨.func,1,8,[.f],false⟩),
 (163,⟨.func,1,8,[.f],false⟩),
 (164,⟨.map 3 83,1,8,[.m],false⟩),
 (166,⟨.func,1,8,[.f],false⟩),
 (167,⟨.func,1,8,[.f],false⟩),
 (168,⟨.array 10 167,10,80,[.f,.f,.f,.f,.f,.f,.f,.f,.f,.f],false⟩),
 (169,⟨.func,1,8,[.f],false⟩),
 (170,⟨.func,1,8,[.f],false⟩),
 (171,⟨.func,1,8,[.f],false⟩),
 (172,⟨.func,1,8,[.f],false⟩),
 (173,⟨.func,1,8,[.f],false⟩),
 (174,⟨.func,1,8,[.f],false⟩),
 (175,⟨.func,1,8,[.f],false⟩),
 (176,⟨.func,1,8,[.f],false⟩),
 (177,⟨.slice 107,1,24,[.sl],false⟩),
 (178,⟨.func,1,8,[.f],false⟩),
 (179,⟨.func,1,8,[.f],false⟩),
 (180,⟨.array 3 179,3,24,[.f,.f,.f],false⟩),
 (181,⟨.func,1,8,[.f],false⟩),
 (182,⟨.struct [(52,0),(3,1),(3,2)],3,40,[.sl,.i .i64,.i .i64],true⟩),
 (183,⟨.struct [(52,0),(3,1),(3,2)],3,40,[.sl,.i .i64,.i .i64],true⟩),
 (184,⟨.func,1,8,[.f],false⟩),
 (185,⟨.func,1,8,[.f],false⟩),
 (186,⟨.func,1,8,[.f],false⟩),
 (187,⟨.func,1,8,[.f],false⟩),
 (189,⟨.func,1,8,[.f],false⟩),
 (190,⟨.func,1,8,[.f],false⟩),
 (191,⟨.func,1,8,[.f],false⟩),
 (192,⟨.array 8 190,8,64,[.f,.f,.f,.f,.f,.f,.f,.f],false⟩),
 (193,⟨.int .u8,1,1,[.i .u8],false⟩),
 (194,⟨.slice 244,1,24,[.sl],false⟩),
 (195,⟨.struct [(193,0),(9,1),(9,2),(194,3),(140,4),(140,5),(3,6)],7,120,[.i .u8,.s,.s,.sl,.sl,.sl,.i .i64],true⟩),
 (196,⟨.struct [(193,0),(9,1),(9,2),(194,3),(140,4),(140,5),(3,6)],7,120,[.i .u8,.s,.s,.sl,.sl,.sl,.i .i64],true⟩),
 (197,⟨.func,1,8,[.f],false⟩),
 (198,⟨.map 9 4,1,8,[.m],false⟩),
 (199,⟨.struct [(9,0),(2,1),(3,2)],3,32,[.s,.i .i64,.i .i64],true⟩),
 (200,⟨.struct [(9,0),(2,1),(3,2)],3,32,[.s,.i .i64,.i .i64],true⟩),
 (201,⟨.int .u8,1,1,[.i .u8],false⟩),
 (202,⟨.func,1,8,[.f],false⟩),
 (203,⟨.func,1,8,[.f],false⟩),
 (204,⟨.func,1,8,[.f],false⟩),
 (205,⟨.map 3 4,1,8,[.m],false⟩),
 (206,⟨.func,1,8,[.f],false⟩),
 (207,⟨.iface,1,16,[.n],false⟩),
 (208,⟨.iface,1,16,[.n],false⟩),
 (209,⟨.func,1,8,[.f],false⟩),
 (210,⟨.func,1,8,[.f],false⟩),
 (211,⟨.func,1,8,[.f],false⟩),
 (212,⟨.slice 254,1,24,[.sl],false⟩),
 (214,⟨.func,1,8,[.f],false⟩),
 (215,⟨.func,1,8,[.f],false⟩),
 (216,⟨.struct [(3,0),(3,1)],2,16,[.i .i64,.i .i64],true⟩),
 (217,⟨.struct [(3,0),(3,1)],2,16,[.i .i64,.i .i64],true⟩),
 (219,⟨.func,1,8,[.f],false⟩),
 (220,⟨.func,1,8,[.f],false⟩),
 (221,⟨.func,1,8,[.f],false⟩),
 (222,⟨.func,1,8,[.f],false⟩),
 (223,⟨.func,1,8,[.f],false⟩),
 (224,⟨.func,1,8,[.f],false⟩),
 (225,⟨.func,1,8,[.f],false⟩),
 (226,⟨.func,1,8,[.f],false⟩),
 (227,⟨.func,1,8,[.f],false⟩),
 (228,⟨.func,1,8,[.f],false⟩),
 (229,⟨.struct [(54,0)],2,16,[.i .i64,.i .i64],true⟩),
 (230,⟨.struct [(54,0)],2,16,[.i .i64,.i .i64],true⟩),
 (231,⟨.ptr 236,1,8,[.p],false⟩),
 (232,⟨.map 9 260,1,8,[.m],false⟩),
 (233,⟨.func,1,8,[.f],false⟩),
 (234,⟨.map 9 3,1,8,[.m],false⟩),
 (235,⟨.struct [(63,0),(232,3),(234,4)],5,88,[.sl,.sl,.sl,.m,.m],true⟩),
 (236,⟨.struct [(63,0),(232,3),(234,4)],5,88,[.sl,.sl,.sl,.m,.m],true⟩),
 (237,⟨.func,1,8,[.f],false⟩),
 (238,⟨.func,1,8,[.f],false⟩),
 (239,⟨.func,1,8,[.f],false⟩),
 (240,⟨.func,1,8,[.f],false⟩),
 (241,⟨.func,1,8,[.f],false⟩),
 (242,⟨.int .u8,1,1,[.i .u8],false⟩),
 (243,⟨.struct [(242,0),(51,1),(2,2),(9,3),(194,4),(3,5)],6,64,[.i .u8,.i .u8,.i .i64,.s,.sl,.i .i64],true⟩),
 (244,⟨.struct [(242,0),(51,1),(2,2),(9,3),(194,4),(3,5)],6,64,[.i .u8,.i .u8,.i .i64,.s,.sl,.i .i64],true⟩),
 (245,⟨.func,1,8,[.f],false⟩),
 (246,⟨.func,1,8,[.f],false⟩),
 (247,⟨.func,1,8,[.f],false⟩),
 (248,⟨.array 10 201,10,10,[.i .u8,.i .u8,.i .u8,.i .u8,.i .u8,.i .u8,.i .u8,.i .u8,.i .u8,.i .u8],false⟩),
 (250,⟨.func,1,8,[.f],false⟩),
 (251,⟨.func,1,8,[.f],false⟩),
 (252,⟨.slice 81,1,24,[.sl],false⟩),
 (253,⟨.struct [(89,0),(252,1)],2,48,[.sl,.sl],true⟩),
 (254,⟨.struct [(89,0),(252,1)],2,48,[.sl,.sl],true⟩),
 (255,⟨.func,1,8,[.f],false⟩),
 (256,⟨.array 32 5,32,32,[.i .u8,.i .u8,.i .u8,.i .u8,.i .u8,.i .u8,.i .u8,.i .u8,.i .u8,.i .u8,.i .u8,.i .u8,.i .u8,.i .u8,.i .u8,.i .u8,.i .u8,.i .u8,.i .u8,.i .u8,.i .u8,.i .u8,.i .u8,.i .u8,.i .u8,.i .u8,.i .u8,.i .u8,.i .u8,.i .u8,.i .u8,.i .u8],false⟩),
 (257,⟨.int .u64,1,8,[.i .u64],false⟩),
 (258,⟨.slice 9,1,24,[.sl],false⟩),
 (259,⟨.func,1,8,[.f],false⟩),
 (260,⟨.int .i64,1,8,[.i .i64],false⟩),
 (261,⟨.func,1,8,[.f],false⟩),
 (262,⟨.slice 23,1,24,[.sl],false⟩),
 (263,⟨.func,1,8,[.f],false⟩),
 (264,⟨.func,1,8,[.f],false⟩),
 (265,⟨.struct [(3,0),(3,1)],2,16,[.i .i64,.i .i64],true⟩),
 (266,⟨.struct [(3,0),(3,1)],2,16,[.i .i64,.i .i64],true⟩),
 (267,⟨.slice 266,1,24,[.sl],false⟩),
 (268,⟨.ptr 266,1,8,[.p],false⟩),
 (269,⟨.func,1,8,[.f],false⟩),
 (271,⟨.func,1,8,[.f],false⟩),
 (272,⟨.func,1,8,[.f],false⟩),
 (273,⟨.func,1,8,[.f],false⟩),
 (275,⟨.map 9 273,1,8,[.m],false⟩),
 (276,⟨.func,1,8,[.f],false⟩),
 (277,⟨.ptr 196,1,8,[.p],false⟩),
 (278,⟨.func,1,8,[.f],false⟩),
 (279,⟨.func,1,8,[.f],false⟩),
 (280,⟨.func,1,8,[.f],false⟩),
 (281,⟨.func,1,8,[.f],false⟩),
 (282,⟨.func,1,8,[.f],false⟩),
 (283,⟨.func,1,8,[.f],false⟩),
 (284,⟨.func,1,8,[.f],false⟩),
 (285,⟨.func,1,8,[.f],false⟩),
 (286,⟨.func,1,8,[.f],false⟩),
 (287,⟨.func,1,8,[.f],false⟩),
 (288,⟨.func,1,8,[.f],false⟩),
 (289,⟨.slice 294,1,24,[.sl],false⟩),
 (291,⟨.func,1,8,[.f],false⟩),
 (292,⟨.func,1,8,[.f],false⟩),
 (293,⟨.struct [(51,0),(3,1),(244,2)],8,80,[.i .u8,.i .i64,.i .u8,.i .u8,.i .i64,.s,.sl,.i .i64],true⟩),
 (294,⟨.struct [(51,0),(3,1),(244,2)],8,80,[.i .u8,.i .i64,.i .u8,.i .u8,.i .i64,.s,.sl,.i .i64],true⟩),
 (295,⟨.struct [(4,0),(4,1),(4,2),(4,3),(4,4)],5,5,[.b,.b,.b,.b,.b],true⟩),
 (296,⟨.struct [(4,0),(4,1),(4,2),(4,3),(4,4)],5,5,[.b,.b,.b,.b,.b],true⟩),
 (298,⟨.func,1,8,[.f],false⟩),
 (299,⟨.func,1,8,[.f],false⟩),
 (301,⟨.func,1,8,[.f],false⟩),
 (302,⟨.struct [(9,0),(3,1)],2,24,[.s,.i .i64],true⟩),
 (303,⟨.array 19 302,38,456,[.s,.i .i64,.s,.i .i64,.s,.i .i64,.s,.i .i64,.s,.i .i64,.s,.i .i64,.s,.i .i64,.s,.i .i64,.s,.i .i64,.s,.i .i64,.s,.i .i64,.s,.i .i64,.s,.i .i64,.s,.i .i64,.s,.i .i64,.s,.i .i64,.s,.i .i64,.s,.i .i64,.s,.i .i64],false⟩),
 (304,⟨.func,1,8,[.f],false⟩),
 (307,⟨.array 0 16,0,0,[],false⟩),
 (312,⟨.func,1,8,[.f],false⟩),
 (313,⟨.ptr 5,1,8,[.p],false⟩),
 (318,⟨.func,1,8,[.f],false⟩)]
theorem hT:TOk Tryz.prog T:=TOk.of_all JR
theorem ixM{α:Type}{l:List α}{f:α->List Tr}{i:Nat}{x:α}{z:Int}{a b:Nat}{K:List Tr->Prop}(hx:l[i]?=some x)(h:K (f x))(h0:a=b:=by exact rfl)(hz:z=(i:Int):=by exact rfl):a=b/\0<=z/\z<((l.map f).length:Int)/\∀row,(l.map f)[z.toNat]?=some row->K row:=by subst hz;obtain⟨hi,_⟩:=a9.1 hx;refine⟨h0,JQ,by rw[ad];omega,fun row hr=>?_⟩;rw[GY,z5,hx] at hr;cases hr;exact h
theorem ixN{l:List Nat}{i x:Nat}{z:Int}{a b:Nat}{K:List Tr->Prop}(hx:l[i]?=some x)(h:K [.v (.int .i64 (x:Nat))])(h0:a=b:=by exact rfl)(hz:z=(i:Int):=by exact rfl):a=b/\0<=z/\z<((((l.map fun(x:Nat)=>(x:Int))).map fun n=>[Tr.v (.int .i64 n)]).length:Int)/\∀row,(((l.map fun(x:Nat)=>(x:Int))).map fun n=>[Tr.v (.int .i64 n)])[z.toNat]?=some row->K row:=
 ixM (l:=l.map fun(x:Nat)=>(x:Int)) (f:=fun n=>[Tr.v (.int .i64 n)]) (x:=(x:Int)) (by rw[z5,hx];rfl) h h0 hz
theorem ixV{α:Type}{l:List α}{f:α->List Tr}{i j:Nat}{x:α}{a b:Nat}{K:List Tr->Prop}(hx:l[i]?=some x)(h:K (f x))(h0:a=b:=by exact rfl)(hj:j=i:=by exact rfl):a=b/\j<(l.map f).length/\∀row,(l.map f)[j]?=some row->K row:=by subst hj;obtain⟨hi,_⟩:=a9.1 hx;refine⟨h0,by rw[ad];exact hi,fun row hr=>?_⟩;rw[z5,hx] at hr;cases hr;exact h
theorem ixS{α:Type}{l:List α}{f:α->List Tr}{i j:Nat}{x:α}{a b c d:Nat}{K:List Tr->Prop}(hx:l[i]?=some x)(h:K (f x))(h0:a=b:=by exact rfl)(h1:c=d:=by exact rfl)(hj:j=i:=by exact rfl):a=b/\c=d/\j<(l.map f).length/\∀row,(l.map f)[j]?=some row->K row:=⟨h0,h1,(ixV (a:=0) (b:=0) hx h rfl hj).2⟩
theorem exT{a:Nat}{A B:Prop}(h:A):(a=a->A)/\(a≠a->B):=⟨fun _=>h,fun q=>absurd rfl q⟩
theorem drT{p q A:Prop}(h:A)(hp:p:=by kernel_rfl):p/\(q->A):=⟨hp,fun _=>h⟩
theorem neL{β:Type}{rd:List (Nat×β)}{h:Nat}(e:(rd.all fun p=>!Nat.beq p.1 h)=true):∀p∈rd,p.1≠h:=fun p hp=>GG (by have:=GQ.1 e p hp;simpa using this)
open Go.Proofs
theorem hmix:Tryz.prog.follows .mixedOrders=true:=JR
abbrev K(f:Nat)(args:List AV)(bin:List Blk)(res:AE)(bout:List (Option Blk)):Prop:=Ctr Tryz.prog f args bin res bout
def irow(x:Int):List Tr:=[ti x]
abbrev az(l:List Int):Tr:=.lst 1 8 (l.map irow)
def lf(op:Int):Bool:=decide (op > 0)&&decide (op<19)
def EW(op:Int):Bool:=lf op&&op != 17&&op != 18
theorem wK(op:Int):EW op=two op:=by unfold EW two lf;rw[Ic];simp;omega
theorem BN(op:Int):K 64 [.tr (tu op)] [] (.ret (.tr (tb (lf op)))) []:=by
 refine Ctr.of hT hmix Tryz.func64 rfl (fun _ _=>JR) rfl fun hok=>?_;conv=>whnf
 (repeat' (refine ah (fun _=>?_) (fun _=>?_)<;>conv=>whnf))<;>exact⟨Or.inl (E8 tb (by simp only[lf, *]<;>rfl)),trivial⟩
theorem D4(op:Int):K 34 [.tr (tu op)] [] (.ret (.tr (tb (two op)))) []:=by
 refine Ctr.of hT hmix Tryz.func34 rfl (fun _ _=>JR) rfl fun hok=>?_;conv=>whnf
 refine aa.pure _ (BN op) rfl rfl fun _=>?_;conv=>whnf
 (repeat' (refine ah (fun _=>?_) (fun _=>?_)<;>conv=>whnf))<;>exact⟨Or.inl (E8 tb (by rw[<-wK];simp only[EW, *]<;>rfl)),trivial⟩
end Go.Proofs.YtapmdfcmpglieaaGreatDoor.am
set_option maxRecDepth 100000
set_option maxHeartbeats 4000000
namespace Go.Proofs.YtapmdfcmpglieaaGreatDoor.am
open Go Go.Proofs
theorem zK{l:List Decl}{s:ByteArray}{i:Nat}{d:Decl}(h:l[i]?=some d):findI (l.drop i) s i=if seq d.name s then(i:Int) else findI (l.drop (i+1)) s (i+1):=by rw[aG h];rfl
end Go.Proofs.YtapmdfcmpglieaaGreatDoor.am
set_option maxRecDepth 100000
set_option maxHeartbeats 4000000
namespace Go.Proofs.YtapmdfcmpglieaaGreatDoor.am
open Go Go.Proofs
end Go.Proofs.YtapmdfcmpglieaaGreatDoor.am
set_option maxRecDepth 100000
set_option maxHeartbeats 4000000
namespace Go.Proofs.YtapmdfcmpglieaaGreatDoor.am
open Go Go.Proofs
theorem yI{l:List Expr}{i:Nat}{d:Expr}(h:l[i]?=some d):SizeOf.sizeOf d<SizeOf.sizeOf l:=IZ (i3 h)
theorem xP{l:List Stmt}{i:Nat}{d:Stmt}(h:l[i]?=some d):SizeOf.sizeOf d<SizeOf.sizeOf l:=IZ (i3 h)
end Go.Proofs.YtapmdfcmpglieaaGreatDoor.am
set_option maxRecDepth 100000
set_option maxHeartbeats 4000000
namespace Go.Proofs.YtapmdfcmpglieaaGreatDoor.am
open Go Go.Proofs
end Go.Proofs.YtapmdfcmpglieaaGreatDoor.am
set_option maxRecDepth 100000
set_option maxHeartbeats 4000000
namespace Go.Proofs.YtapmdfcmpglieaaGreatDoor.am
open Go Go.Proofs
theorem k69(c:Int):K 88 [.tr (tu c)] [] (.ret (.tr (tb (digB c)))) []:=by
 refine Ctr.of hT hmix Tryz.func88 rfl (fun _ _=>JR) rfl fun hok=>?_;conv=>whnf
 (repeat' (refine ah (fun _=>?_) (fun _=>?_)<;>conv=>whnf))<;>refine⟨Or.inl (E8 tb ?_),trivial⟩<;>(simp only[digB, *]<;>rfl)
theorem k71(c:Int):K 87 [.tr (tu c)] [] (.ret (.tr (tb (letB c)))) []:=by
 refine Ctr.of hT hmix Tryz.func87 rfl (fun _ _=>JR) rfl fun hok=>?_;conv=>whnf
 (repeat' (refine ah (fun _=>?_) (fun _=>?_)<;>conv=>whnf))<;>refine⟨Or.inl (E8 tb ?_),trivial⟩<;>(simp only[letB, *]<;>rfl)
theorem k70(s:ByteArray):K 133 [.tr (ts s)] [] (.ret (.tr (tb (wordB s)))) []:=by
 refine Ctr.of hT hmix Tryz.func133 rfl (fun _ _=>JR) rfl fun hok=>?_;conv=>whnf
 (repeat' (refine ah (fun _=>?_) (fun _=>?_)<;>conv=>whnf))<;>refine⟨Or.inl (E8 tb ?_),trivial⟩<;>first|(simp only[wordB,seq, *]<;>rfl)|simp_all
theorem k41(s:ByteArray):K 107 [.tr (ts s)] [] (.ret (.tr (tb (nameB s)))) []:=by
 refine Ctr.of hT hmix Tryz.func107 rfl (fun _ _=>JR) rfl fun hok=>?_;have hsz:=(hok.slot 0 rfl).tr.str;clear hok;conv=>whnf
 refine ah (fun h1=>?_) (fun h1=>?_)
 ·have h1:=(rc s).symm.trans h1;conv=>whnf
  exact⟨Or.inl (E8 tb (by simp only[nameB,h1]<;>rfl)),J0⟩
 have h1:=(rc s).symm.trans h1;conv=>whnf
 refine ah (fun h2=>?_) (fun h2=>?_)
 ·conv=>whnf
  exact⟨Or.inl (E8 tb (by simp only[nameB,h1,h2]<;>rfl)),J0⟩
 have hs0:0<s.size:=by have:=ud h1;omega
 conv=>whnf
 refine⟨JQ,JQ,fun b hb=>?_⟩;have hc0:chI s 0=b.toNat:=by unfold chI;rw[show s[0]?=some b from hb]
 conv=>whnf
 refine aa.pure _ (k69 b.toNat) rfl rfl fun _=>?_;conv=>whnf
 refine ah (fun h3=>?_) (fun h3=>?_)
 ·conv=>whnf
  exact⟨Or.inl (E8 tb (by rw[<-hc0] at h3;simp only[nameB,h1,h2,h3]<;>rfl)),J0⟩
 rw[<-hc0] at h3;conv=>whnf
 refine aa.pure _ (k70 s) rfl rfl fun _=>?_;conv=>whnf
 refine ah (fun h4=>?_) (fun h4=>?_)
 ·conv=>whnf
  exact⟨Or.inl (E8 tb (by simp only[nameB,h1,h2,h3,h4]<;>rfl)),J0⟩
 conv=>whnf
 have hE:nameB s=js s s.size:=by simp only[nameB,h1,h2,h3,h4]<;>rfl
 refine aq.by (fun i:Nat=>⟨[(0,.tr (ts s)),(21,.tr (ti s.size)),(22,.tr (ti i))],[],38⟩)
  (fun i=>i<=s.size/\nameB s=js s (s.size-i)) (fun i=>s.size-i) 0 [] [] (Sub.mk' rfl aut trivial rfl rfl) ⟨x5 _,hE⟩ ?_
 rintro i ⟨hi,hf⟩ -
 conv=>whnf
 refine ah (fun hlt=>?_) (fun hge=>?_)
 ·have hlt:i<s.size:=by simpa using hlt
  conv=>whnf
  refine⟨JQ,JQ,fun b hb=>?_⟩;rw[vz (show s[i]?=some b from hb) hlt] at hf;conv=>whnf
  refine aa.pure _ (k71 b.toNat) rfl rfl fun _=>?_;conv=>whnf
  refine ah (fun h5=>?_) (fun h5=>?_)
  ·conv=>whnf
   refine⟨JQ,JQ,fun b' hb'=>?_⟩;have hbb:b'=b:=vx ((show s[i]?=some b' from hb').symm.trans hb);subst hbb;conv=>whnf
   refine aa.pure _ (k69 b'.toNat) rfl rfl fun _=>?_;conv=>whnf
   refine ah (fun h6=>?_) (fun h6=>?_)
   ·rw[h5,h6] at hf;conv=>whnf
    exact⟨Or.inl (E8 tb hf.symm),J0⟩
   ·rw[h5,h6] at hf;conv=>whnf
    exact⟨i+1,[],[],Sub.mk' rfl ⟨JZ,JZ,.inl (ak hlt hsz),J0⟩ trivial rfl rfl,⟨JQ,hf⟩,JQ⟩
  ·rw[h5] at hf;conv=>whnf
   exact⟨i+1,[],[],Sub.mk' rfl ⟨JZ,JZ,.inl (ak hlt hsz),J0⟩ trivial rfl rfl,⟨JQ,hf⟩,JQ⟩
 ·have hge:s.size<=i:=by simpa using hge
  rw[(JQ:s.size-i=0)] at hf;conv=>whnf
  refine exT ?_;conv=>whnf
  exact⟨Or.inl (E8 tb hf.symm),J0⟩
end Go.Proofs.YtapmdfcmpglieaaGreatDoor.am
set_option maxRecDepth 100000
set_option maxHeartbeats 4000000
namespace Go.Proofs.YtapmdfcmpglieaaGreatDoor.am
open Go Go.Proofs
def xJ(p:Prg):Int×Flt:=bif (firstF p).rule != 0 then(50,firstF p) else(0,⟨0,0⟩)
end Go.Proofs.YtapmdfcmpglieaaGreatDoor.am
set_option maxRecDepth 100000
set_option maxHeartbeats 4000000
namespace Go.Proofs.YtapmdfcmpglieaaGreatDoor.am
open Go Go.Proofs
def whenI(rule:Int)(is:Bool):Int:=bif is then rule else 0
theorem k57(rule:Int)(is:Bool):K 143 [.tr (ti rule),.tr (tb is)] [] (.ret (.tr (ti (whenI rule is)))) []:=by
 refine Ctr.of hT hmix Tryz.func143 rfl (fun _ _=>JR) rfl fun hok=>?_;conv=>whnf
 (repeat' (refine ah (fun _=>?_) (fun _=>?_)<;>conv=>whnf))<;>exact⟨Or.inl (E8 ti (by simp only[whenI, *]<;>rfl)),trivial⟩
theorem Gd(op:Int):K 64 [.tr (tu op)] [] (.ret (.tr (tb (lf op)))) []:=by
 refine Ctr.of hT hmix Tryz.func64 rfl (fun _ _=>JR) rfl fun hok=>?_;conv=>whnf
 (repeat' (refine ah (fun _=>?_) (fun _=>?_)<;>conv=>whnf))<;>exact⟨Or.inl (E8 tb (by simp only[lf, *]<;>rfl)),trivial⟩
theorem F6(op:Int):K 34 [.tr (tu op)] [] (.ret (.tr (tb (two op)))) []:=by
 refine Ctr.of hT hmix Tryz.func34 rfl (fun _ _=>JR) rfl fun hok=>?_;conv=>whnf
 refine aa.pure _ (Gd op) rfl rfl fun _=>?_;conv=>whnf
 (repeat' (refine ah (fun _=>?_) (fun _=>?_)<;>conv=>whnf))<;>exact⟨Or.inl (E8 tb (by rw[<-wK];simp only[EW, *]<;>rfl)),trivial⟩
theorem Gi(e:Expr):K 194 [e.av] [] (.ret (.tr (tb (partsB e)))) []:=by
 refine Ctr.of hT hmix Tryz.func194 rfl (fun _ _=>JR) rfl fun hok=>?_;clear hok;obtain⟨kind,op,word,name,kids,at_⟩:=e;conv=>whnf
 (repeat' (first|(refine ah (fun _=>?_) (fun _=>?_)<;>conv=>whnf)|(refine aa.pure _ (F6 op) rfl rfl fun _=>?_;conv=>whnf))) <;>
  exact⟨Or.inl (E8 tb (by simp only[partsB,noS,seq, *,It,G9,GS,IH,r7,lh,IU,HJ,I7,GU]<;>rfl)),J0⟩
def usesB(k:Int):Bool×Bool×Bool×Bool×Bool×Bool:=
 bif k==1 then(true,false,true,false,false,true)
 else bif k==2 then(true,true,true,false,false,true)
 else bif k==3 then(false,false,true,true,true,true)
 else bif k==4 then(false,false,true,true,false,true)
 else bif k==5 then(true,false,false,true,false,true)
 else bif k==6 then(false,false,true,false,false,true)
 else bif k==7 then(false,false,false,false,false,true)
 else(false,false,false,false,false,false)
theorem Gk(k:Int):K 193 [.tr (tu k)] [] (.ret (.tup [.agg [.tr (tb (usesB k).1),.tr (tb (usesB k).2.1),.tr (tb (usesB k).2.2.1),.tr (tb (usesB k).2.2.2.1),.tr (tb (usesB k).2.2.2.2.1)],.tr (tb (usesB k).2.2.2.2.2)])) []:=by
 refine Ctr.of hT hmix Tryz.func193 rfl (fun _ _=>JR) rfl fun hok=>?_;clear hok;conv=>whnf
 (repeat' (first|(refine ah (fun _=>?_) (fun _=>?_)<;>conv=>whnf)|(refine drT ?_;conv=>whnf)))<;>first
  |exact⟨⟨⟨Or.inl (E8 tb (by simp only[usesB, *]<;>rfl)),Or.inl (E8 tb (by simp only[usesB, *]<;>rfl)),Or.inl (E8 tb (by simp only[usesB, *]<;>rfl)),Or.inl (E8 tb (by simp only[usesB, *]<;>rfl)),Or.inl (E8 tb (by simp only[usesB, *]<;>rfl)),trivial⟩,
   Or.inl (E8 tb (by simp only[usesB, *]<;>rfl)),trivial⟩,trivial⟩
  |simp_all
def vr:Stmt->Bool
 | .mk kind name other e body els _=>(usesB kind).2.2.2.2.2&&((Expr.rows e).length:Int)==(bif (usesB kind).2.2.1 then 1 else 0)&&((usesB kind).1||noS name)&&((usesB kind).2.1||noS other)
  && ((usesB kind).2.2.2.1||((Stmt.rows body).length:Int)==0)&&((usesB kind).2.2.2.2.1||((Stmt.rows els).length:Int)==0)
theorem uses_cases(k:Int):usesB k=(true,false,true,false,false,true)/\(k==1)=true\/usesB k=(true,true,true,false,false,true)/\(k==1)=false/\(k==2)=true
  \/ usesB k=(false,false,true,true,true,true)/\(k==1)=false/\(k==2)=false/\(k==3)=true\/usesB k=(false,false,true,true,false,true)/\(k==1)=false/\(k==2)=false/\(k==3)=false/\(k==4)=true
  \/ usesB k=(true,false,false,true,false,true)/\(k==1)=false/\(k==2)=false/\(k==3)=false/\(k==4)=false/\(k==5)=true
  \/ usesB k=(false,false,true,false,false,true)/\(k==1)=false/\(k==2)=false/\(k==3)=false/\(k==4)=false/\(k==5)=false/\(k==6)=true
  \/ usesB k=(false,false,false,false,false,true)/\(k==1)=false/\(k==2)=false/\(k==3)=false/\(k==4)=false/\(k==5)=false/\(k==6)=false/\(k==7)=true
  \/ usesB k=(false,false,false,false,false,false)/\(k==1)=false/\(k==2)=false/\(k==3)=false/\(k==4)=false/\(k==5)=false/\(k==6)=false/\(k==7)=false:=by
 unfold usesB;cases h1:(k==1)<;>cases h2:(k==2)<;>cases h3:(k==3)<;>cases h4:(k==4)<;>cases h5:(k==5)<;>cases h6:(k==6)<;>cases h7:(k==7)<;>simp
theorem BB(n:Nat):(!decide ((n:Int) > 0))=((n:Int)==0):=by
 cases n with
 |zero=>rfl
 |succ n=>rw[Ic];simp;omega
theorem Ad(s:Stmt):vr s=fieldsB s:=by
 obtain⟨kind,name,other,e,body,els,at_⟩:=s;unfold vr fieldsB;simp only[BB];rcases uses_cases kind with⟨h,h1⟩|⟨h,h1,h2⟩|⟨h,h1,h2,h3⟩|⟨h,h1,h2,h3,h4⟩|⟨h,h1,h2,h3,h4,h5⟩|⟨h,h1,h2,h3,h4,h5,h6⟩|⟨h,h1,h2,h3,h4,h5,h6,h7⟩|⟨h,h1,h2,h3,h4,h5,h6,h7⟩ <;>
  simp only[*,r7,lh,GS,IH,HJ,GU,G9] <;>
  cases noS name<;>cases noS other<;>cases ((Expr.rows e).length:Int)==0<;>cases ((Expr.rows e).length:Int)==1<;>cases ((Stmt.rows body).length:Int)==0<;>cases ((Stmt.rows els).length:Int)==0<;>rfl
theorem k94(s:Stmt):K 181 [s.av] [] (.ret (.tr (tb (fieldsB s)))) []:=by
 rw[<-Ad];refine Ctr.of hT hmix Tryz.func181 rfl (fun _ _=>JR) rfl fun hok=>?_;clear hok;obtain⟨kind,name,other,e,body,els,at_⟩:=s;have hu:=Gk kind;rcases uses_cases kind with⟨h,h1⟩|⟨h,h1⟩|⟨h,h1⟩|⟨h,h1⟩|⟨h,h1⟩|⟨h,h1⟩|⟨h,h1⟩|⟨h,h1⟩<;>clear h1<;>rw[h] at hu<;>conv=>whnf
 all_goals
  refine aa.pure _ hu rfl rfl fun _=>?_;clear hu;conv=>whnf
  (repeat' (refine ah (fun _=>?_) (fun _=>?_)<;>conv=>whnf))<;>exact⟨Or.inl (E8 tb (by simp only[vr,noS,seq, *,r7,lh,GS,IH,HJ,GU,G9,It]<;>rfl)),trivial⟩
end Go.Proofs.YtapmdfcmpglieaaGreatDoor.am
set_option maxRecDepth 100000
set_option maxHeartbeats 4000000
namespace Go.Proofs.YtapmdfcmpglieaaGreatDoor.am
open Go Go.Proofs
abbrev MI:=List (MK×Int)
def bG(M:MI):List (MK×Tr):=M.map fun p=>(p.1,ti p.2)
def mgetI(M:MI)(q:MK):Int:=match M with
 |[]=>0
 |(k,v)::r=>bif MK.same q k then v else mgetI r q
theorem AF:∀(M:MI)(q:MK),(ew (bG M) q).getD (ti 0)=ti (mgetI M q)
 |[],q=>rfl
 | (k,v)::r,q=>by
   show(bif MK.same q k then some (ti v) else ew (bG r) q).getD (ti 0)=ti (bif MK.same q k then v else mgetI r q);cases MK.same q k with
   |true=>rfl
   |false=>exact AF r q
theorem fD(M:MI)(q:MK):(ew (bG M) q).getD (Tr.v (Z.val (.i .i64)))=ti (mgetI M q):=AF M q
abbrev pD(p:Prg):Blk:=.cells 236 [.tr (ae p.shared),.tr (ae p.locks),.tr (aA p.threads),.mp 1,.mp 2]
abbrev ip(p:Prg)(top locals:MI):List Blk:=[pD p,.map .string (bG top),.map .string (bG locals)]
abbrev cN(p:Prg)(top locals:MI):List (Option Blk):=(ip p top locals).map some
def bg(top locals:MI)(name:ByteArray)(alone:Bool):Int:=
 bif decide (mgetI locals (.ks name) > 0) then whenI 6 alone
 else bif mgetI top (.ks name)==0 then 5
 else whenI 6 (mgetI top (.ks name) != 1)
theorem k95(p:Prg)(top locals:MI)(name:ByteArray)(alone:Bool):K 182 [.ptr 0 0,.tr (ts name),.tr (tb alone)] (ip p top locals) (.ret (.tr (ti (bg top locals name alone)))) (cN p top locals):=by
 refine Ctr.of hT hmix Tryz.func182 rfl (fun _ _=>JR) rfl fun hok=>?_;clear hok;conv=>whnf
 rw[fD];conv=>whnf
 refine ah (fun h1=>?_) (fun h1=>?_)
 ·conv=>whnf
  refine aa.pure _ (k57 6 alone) rfl rfl fun _=>?_;conv=>whnf
  exact⟨Or.inl (E8 ti (by simp only[bg,h1]<;>rfl)),aut,JY,JY,J0⟩
 conv=>whnf
 rw[fD];conv=>whnf
 refine ah (fun h2=>?_) (fun h2=>?_)
 ·conv=>whnf
  exact⟨Or.inl (E8 ti (by simp only[bg,h1,h2]<;>rfl)),aut,JY,JY,J0⟩
 conv=>whnf
 rw[fD];conv=>whnf
 refine aa.pure _ (k57 6 (mgetI top (.ks name) != 1)) rfl rfl fun _=>?_;conv=>whnf
 exact⟨Or.inl (E8 ti (by simp only[bg,h1,h2]<;>rfl)),aut,JY,JY,J0⟩
def ir(top locals:MI)(name:ByteArray):Int:=
 bif mgetI top (.ks name)==0&&mgetI locals (.ks name)==0 then 5
 else whenI 6 (decide (mgetI locals (.ks name) > 0)||mgetI top (.ks name) != 2)
theorem k96(p:Prg)(top locals:MI)(name:ByteArray):K 183 [.ptr 0 0,.tr (ts name)] (ip p top locals) (.ret (.tr (ti (ir top locals name)))) (cN p top locals):=by
 refine Ctr.cut [3] hT hmix Tryz.func183 rfl (fun _ _=>JR) rfl fun hok=>?_;clear hok;conv=>whnf
 refine bD.by (fun _:Unit=>⟨[(0,.ptr 0 0),(1,.tr (ts name))],[(0,pD p),(1,.map .string (bG top)),(2,.map .string (bG locals))],3⟩) (fun _=>(mgetI top (.ks name)==0&&mgetI locals (.ks name)==0)=false) ?_ ?_
 ·conv=>whnf
  rw[fD];conv=>whnf
  refine ah (fun h1=>?_) (fun h1=>?_)
  ·conv=>whnf
   rw[fD];conv=>whnf
   refine ah (fun h2=>?_) (fun h2=>?_)
   ·conv=>whnf
    exact⟨Or.inl (E8 ti (by simp only[ir, *]<;>rfl)),aut,JY,JY,J0⟩
   ·conv=>whnf
    exact⟨(),[0,1,2],[],Sub.au,by simp only[*]<;>rfl⟩
  ·conv=>whnf
   exact⟨(),[0,1,2],[],Sub.au,by simp only[*]<;>rfl⟩
 rintro _ h1 -
 conv=>whnf
 rw[fD];conv=>whnf
 refine ah (fun h2=>?_) (fun h2=>?_)
 ·conv=>whnf
  refine aa.pure _ (k57 6 true) rfl rfl fun _=>?_;conv=>whnf
  exact⟨Or.inl (E8 ti (by simp only[ir, *]<;>rfl)),aut,JY,JY,J0⟩
 conv=>whnf
 rw[fD];conv=>whnf
 refine aa.pure _ (k57 6 (mgetI top (.ks name) != 2)) rfl rfl fun _=>?_;conv=>whnf
 exact⟨Or.inl (E8 ti (by simp only[ir, *]<;>rfl)),aut,JY,JY,J0⟩
end Go.Proofs.YtapmdfcmpglieaaGreatDoor.am
set_option maxRecDepth 100000
set_option maxHeartbeats 4000000
namespace Go.Proofs.YtapmdfcmpglieaaGreatDoor.am
open Go Go.Proofs
def leastW:List Int->Int->Int
 |[],a=>a
 |r::l,a=>leastW l (bif decide (r > 0)&&((a==0)||decide (r<a)) then r else a)
theorem wZ{l:List Int}{i:Nat}{r a:Int}(h:l[i]?=some r):leastW (l.drop i) a=leastW (l.drop (i+1)) (bif decide (r > 0)&&((a==0)||decide (r<a)) then r else a):=by rw[aG h];rfl
abbrev brk(at_ rule:Int):AV:=.ifc 230 (.agg [.tr (ti at_),.tr (ti rule)])
def Gt(b:Bool)(at_ rule:Int):AE:=bif b then .pan (brk at_ rule) else .ret (.tup [])
theorem k56(at_:Int)(rules:List Int)(b:Bool)(hb:decide (leastW rules 0 > 0)=b):K 142 [.tr (ti at_),.tr (az rules)] [] (Gt b at_ (leastW rules 0)) []:=by
 refine Ctr.cut [] hT hmix Tryz.func142 rfl (fun _ _=>JR) rfl fun hok=>?_;obtain⟨_,hl,_⟩:=(hok.slot 1 rfl).tr.lst;rw[ad] at hl;clear hok;conv=>whnf
 refine aq.by (fun x:Nat×Int=>⟨[(0,.tr (ti at_)),(4,.tr (ti x.2)),(7,.tr (az rules)),(8,.tr (ti (rules.map fun r=>[ti r]).length)),(9,.tr (ti x.1))],[],33⟩)
  (fun x=>x.1<=rules.length/\leastW rules 0=leastW (rules.drop x.1) x.2) (fun x=>rules.length-x.1) (0,0) [] []
  (Sub.mk' rfl aut trivial rfl rfl) ⟨x5 _,rfl⟩ ?_
 rintro⟨i,a⟩ ⟨hi,hf⟩ -
 have hi:i<=rules.length:=hi;have hf:leastW rules 0=leastW (rules.drop i) a:=hf;conv=>whnf
 refine ah (fun hlt=>?_) (fun hge=>?_)
 ·have hlt:i<rules.length:=by rw[ad] at hlt;simpa using hlt
  conv=>whnf
  refine⟨rfl,JQ,by rw[ad];omega,fun row hrow=>?_⟩;obtain⟨r,hd,rfl⟩:=aC hrow
  replace hd:rules[i]?=some r:=hd
  rw[wZ hd] at hf;clear hrow;conv=>whnf
  (repeat' (refine ah (fun _=>?_) (fun _=>?_)<;>conv=>whnf)) <;>
   exact⟨(i+1,_),[],[],Sub.mk' rfl ⟨JZ,JZ,JZ,JZ,.inl (ak hlt hl),J0⟩ trivial rfl rfl,⟨hlt,by rw[hf];clear hf hb;simp only[*]<;>rfl⟩,by show rules.length-(i+1)<rules.length-i;omega⟩
 ·have hge:rules.length<=i:=by rw[ad] at hge;simpa using hge
  rw[GK hge] at hf;have hf:leastW rules 0=a:=hf;conv=>whnf
  refine exT ?_;conv=>whnf
  rw[hf] at hb |-
  refine ah (fun h=>?_) (fun h=>?_)
  ·have:b=true:=hb.symm.trans h;subst this;conv=>whnf
   exact⟨⟨rfl,⟨Or.inl rfl,Or.inl rfl,J0⟩⟩,J0⟩
  ·have:b=false:=hb.symm.trans h;subst this;conv=>whnf
   exact⟨J0,J0⟩
end Go.Proofs.YtapmdfcmpglieaaGreatDoor.am
set_option maxRecDepth 100000
set_option maxHeartbeats 4000000
namespace Go.Proofs.YtapmdfcmpglieaaGreatDoor.am
open Go Go.Proofs
def exprRules(top locals:MI)(kind op word:Int)(name:ByteArray)(kids:List Expr)(at_ deep:Int):List Int:=
 [whenI 4 (!partsB (.mk kind op word name kids at_)),(bif kind==2 then bg top locals name false else 0),whenI 7 (decide (deep > 64))]
mutual
def exprW(top locals:MI):Expr->Int->Option Flt
 | .mk kind op word name kids at_,deep=>bif decide (leastW (exprRules top locals kind op word name kids at_ deep) 0 > 0) then some ⟨at_,leastW (exprRules top locals kind op word name kids at_ deep) 0⟩
  else exprsW top locals kids (deep+1)
def exprsW(top locals:MI):List Expr->Int->Option Flt
 |[],_=>none
 |e::l,deep=>match exprW top locals e deep with
  |some f=>some f
  |none=>exprsW top locals l deep
end
theorem oh{top locals:MI}{l:List Expr}{i:Nat}{d:Expr}{dp:Int}(h:l[i]?=some d):exprsW top locals (l.drop i) dp=match exprW top locals d dp with|some f=>some f|none=>exprsW top locals (l.drop (i+1)) dp:=by rw[aG h];rfl
def Ah:Option Flt->AE
 |some f=>.pan (brk f.at_ f.rule)
 |none=>.ret (.tup [])
theorem we{deep:Int}{l:List Int}(h1:-9223372036854775808<=deep)(h:decide (leastW (l++[whenI 7 (decide (deep > 64))]) 0 > 0)=false):deep<=64:=by
 have key:∀(l:List Int)(a:Int),0<=a->decide (leastW (l++[whenI 7 (decide (deep > 64))]) a > 0)=false->deep<=64:=by
  intro l;induction l with
  |nil=>
   intro a ha h;have h:=ud h;cases hq:decide (deep > 64) with
   |false=>have:=ud hq;omega
   |true=>
    exfalso;apply h;show leastW [] (bif decide (whenI 7 (decide (deep > 64)) > 0)&&((a==0)||decide (whenI 7 (decide (deep > 64))<a)) then whenI 7 (decide (deep > 64)) else a) > 0;rw[hq];show(bif true&&((a==0)||decide ((7:Int)<a)) then(7:Int) else a) > 0;rw[GS];cases hc:(a==0)||decide ((7:Int)<a) with
    |true=>show(7:Int) > 0;omega
    |false=>
     show a > 0;simp only[G8] at hc;have:a≠0:=by simpa using hc.1
     omega
  |cons r l ih=>
   intro a ha h;refine ih (bif decide (r > 0)&&((a==0)||decide (r<a)) then r else a) ?_ h;cases hr:decide (r > 0) with
   |false=>exact ha
   |true=>
    have:=of_decide_eq_true hr;rw[GS];cases ((a==0)||decide (r<a)) with
    |true=>show(0:Int)<=r;omega
    |false=>exact ha
 exact key l 0 (Hd 0) h
theorem k97(p:Prg)(top locals:MI):∀(n:Nat)(e:Expr)(deep:Int),SizeOf.sizeOf e<n->K 184 [.ptr 0 0,e.av,.tr (ti deep)] (ip p top locals) (Ah (exprW top locals e deep)) (cN p top locals):=by
 intro n;induction n with
 |zero=>intro e deep h;omega
 |succ n ih=>
 intro e deep hsz;refine Ctr.cut [4] hT hmix Tryz.func184 rfl (fun _ _=>JR) rfl fun hok=>?_;obtain⟨kind,op,word,name,kids,at_⟩:=e;have hdeep:=(hok.slot 2 rfl).tr.i64;have hkl:=((hok.slot 1 rfl).agg _ (.tail _ (.tail _ (.tail _ (.tail _ (.head _)))))).tr.lst.2.1;rw[aL] at hkl;simp only[Expr.mk.sizeOf_spec] at hsz;clear hok;conv=>whnf
 refine bD.by (fun r:Int=>⟨[(0,.ptr 0 0),(2,.tr (ti deep)),(4,.ptr 3 0),(6,.tr (ti r))],[(0,pD p),(1,.map .string (bG top)),(2,.map .string (bG locals)),(3,.cells 244 ((Expr.mk kind op word name kids at_).cells.map .tr))],4⟩)
  (fun r=>r=bif kind==2 then bg top locals name false else 0) ?_ ?_
 ·conv=>whnf
  refine ah (fun h2=>?_) (fun h2=>?_)
  ·conv=>whnf
   refine aa.gen [0,1,2] [] [.ptr 0 0,.tr (ts name),.tr (tb false)] (ip p top locals) _ (cN p top locals) (k95 p top locals name false) rfl rfl rfl rfl aut aut rfl rfl fun _=>?_;conv=>whnf
   exact⟨_,[0,1,2,3],[],Sub.au,by rw[h2];rfl⟩
  ·conv=>whnf
   exact⟨_,[0,1,2,3],[],Sub.au,by rw[h2];rfl⟩
 rintro r hr -
 have hL:exprRules top locals kind op word name kids at_ deep=[whenI 4 (!partsB (.mk kind op word name kids at_)),r,whenI 7 (decide (deep > 64))]:=by unfold exprRules;rw[hr]
 conv=>whnf
 refine aa.pure _ (Gi (.mk kind op word name kids at_)) rfl rfl ?_;conv=>whnf
 refine aa.pure _ (k57 4 (!partsB (.mk kind op word name kids at_))) rfl rfl ?_;conv=>whnf
 refine aa.pure _ (k57 7 (decide (deep > 64))) rfl rfl ?_;conv=>whnf
 cases hb:decide (leastW [whenI 4 (!partsB (.mk kind op word name kids at_)),r,whenI 7 (decide (deep > 64))] 0 > 0) with
 |true=>
  have hE:exprW top locals (.mk kind op word name kids at_) deep=some ⟨at_,leastW [whenI 4 (!partsB (.mk kind op word name kids at_)),r,whenI 7 (decide (deep > 64))] 0⟩:=by unfold exprW;rw[hL,hb];rfl
  rw[hE];refine aa.gen [] [14] [.tr (ti at_),.tr (az [whenI 4 (!partsB (.mk kind op word name kids at_)),r,whenI 7 (decide (deep > 64))])] [] _ [] (k56 at_ _ true hb) rfl rfl rfl rfl ⟨JZ,⟨rfl,t9 3,rfl⟩,J0⟩ trivial rfl rfl ?_;conv=>whnf
  refine⟨JR,JR,?_⟩;conv=>whnf
  exact⟨⟨rfl,Or.inl rfl,Or.inl rfl,J0⟩,aut,JY,JY,J0⟩
 |false=>
  have hE:exprW top locals (.mk kind op word name kids at_) deep=exprsW top locals kids (deep+1):=by unfold exprW;rw[hL,hb];rfl
  rw[hE];have hd64:deep<=64:=we (l:=[_,_]) hdeep.1 hb;have hw:IntKind.i64.wrap (deep+1)=deep+1:=w64 JQ JQ;refine aa.gen [] [14] [.tr (ti at_),.tr (az [whenI 4 (!partsB (.mk kind op word name kids at_)),r,whenI 7 (decide (deep > 64))])] [] _ [] (k56 at_ _ false hb) rfl rfl rfl rfl ⟨JZ,⟨rfl,t9 3,rfl⟩,J0⟩ trivial rfl rfl ?_;conv=>whnf
  refine drT ?_;conv=>whnf
  refine aq.by (fun i:Nat=>⟨[(0,.ptr 0 0),(2,.tr (ti deep)),(29,.tr (rg kids)),(30,.tr (ti (Expr.rows kids).length)),(31,.tr (ti i))],[(0,pD p),(1,.map .string (bG top)),(2,.map .string (bG locals))],3⟩)
   (fun i=>i<=kids.length/\exprsW top locals kids (deep+1)=exprsW top locals (kids.drop i) (deep+1)) (fun i=>kids.length-i) 0 [0,1,2] []
   (Sub.au) ⟨x5 _,rfl⟩ ?_
  rintro i ⟨hi,hf⟩ -
  conv=>whnf
  refine ah (fun hlt=>?_) (fun hge=>?_)
  ·have hlt:i<kids.length:=by rw[aL] at hlt;simpa using hlt
   conv=>whnf
   refine⟨rfl,JQ,by rw[aL];omega,fun row hrow=>?_⟩;obtain⟨d,hd,rfl⟩:=oB hrow
   replace hd:kids[i]?=some d:=hd
   have hsd:=yI hd;rw[oh hd] at hf;clear hrow;cases ho:exprW top locals d (deep+1) with
   |some f=>
    have hih:K 184 [.ptr 0 0,d.av,.tr (ti (IntKind.i64.wrap (deep+1)))] (ip p top locals) (Ah (some f)) (cN p top locals):=by rw[hw,<-ho];exact ih d (deep+1) JQ
    rw[ho] at hf;have hf:exprsW top locals kids (deep+1)=some f:=hf;rw[hf];obtain⟨k1,k2,k3,k4,k5,k6⟩:=d;conv=>whnf
    refine aa.gen [0,1,2] [] _ (ip p top locals) _ (cN p top locals) hih rfl rfl rfl rfl aut aut rfl rfl fun _=>?_;conv=>whnf
    exact⟨⟨rfl,Or.inl rfl,Or.inl rfl,J0⟩,aut,JY,JY,J0⟩
   |none=>
    have hih:K 184 [.ptr 0 0,d.av,.tr (ti (IntKind.i64.wrap (deep+1)))] (ip p top locals) (Ah none) (cN p top locals):=by rw[hw,<-ho];exact ih d (deep+1) JQ
    rw[ho] at hf;have hf:exprsW top locals kids (deep+1)=exprsW top locals (kids.drop (i+1)) (deep+1):=hf;obtain⟨k1,k2,k3,k4,k5,k6⟩:=d;conv=>whnf
    refine aa.gen [0,1,2] [] _ (ip p top locals) _ (cN p top locals) hih rfl rfl rfl rfl aut aut rfl rfl fun _=>?_;conv=>whnf
    exact⟨i+1,[0,1,2],[],Sub.mk' rfl ⟨JY,JZ,JZ,JZ,.inl (ak hlt hkl),J0⟩ aut rfl rfl,⟨hlt,hf⟩,JQ⟩
  ·have hge:kids.length<=i:=by rw[aL] at hge;simpa using hge
   rw[GK hge] at hf;have hf:exprsW top locals kids (deep+1)=none:=hf;rw[hf];conv=>whnf
   refine exT ?_;conv=>whnf
   exact aut
end Go.Proofs.YtapmdfcmpglieaaGreatDoor.am
set_option maxRecDepth 100000
set_option maxHeartbeats 4000000
namespace Go.Proofs.YtapmdfcmpglieaaGreatDoor.am
open Go Go.Proofs
theorem kV:∀(l:List Int)(a:Int),0<=a->(a > 0\/∃r∈l,r > 0)->leastW l a > 0
 | [],a,_,h=>by
   rcases h with h|⟨r,hr,_⟩
   ·exact h
   ·simp at hr
 | r::l,a,ha,h=>by
   have step:0<=(bif decide (r > 0)&&((a==0)||decide (r<a)) then r else a)/\((a > 0\/r > 0)->(bif decide (r > 0)&&((a==0)||decide (r<a)) then r else a) > 0):=by
    cases hr:decide (r > 0) with
    |false=>
     have:=ud hr;exact⟨ha,fun h=>by show a > 0;omega⟩
    |true=>
     have hr':=of_decide_eq_true hr;rw[GS];cases hc:((a==0)||decide (r<a)) with
     |true=>exact⟨by show(0:Int)<=r;omega,fun _=>hr'⟩
     |false=>
      simp only[G8] at hc;have h0:a≠0:=by simpa using hc.1
      exact⟨ha,fun _=>by show a > 0;omega⟩
   refine kV l _ step.1 ?_;rcases h with h|⟨x,hx,hp⟩
   ·exact .inl (step.2 (.inl h))
   ·rcases F5.1 hx with rfl|hx
    ·exact .inl (step.2 (.inr hp))
    ·exact .inr ⟨x,hx,hp⟩
theorem DA{deep:Int}{l:List Int}(hm:whenI 7 (decide (deep > 64))∈l)(h:decide (leastW l 0 > 0)=false):deep<=64:=by
 cases hq:decide (deep > 64) with
 |false=>have:=ud hq;omega
 |true=>exact absurd (kV l 0 (Hd 0) (.inr ⟨_,hm,by rw[hq];decide⟩)) (ud h)
def stmtRules(top locals:MI)(kind:Int)(name other:ByteArray)(e:List Expr)(body els:List Stmt)(at_ deep:Int):List Int:=
 bif kind==1 then[whenI 4 (!fieldsB (.mk kind name other e body els at_)),whenI 7 (decide (deep > 64)),bg top locals name false]
 else bif kind==2 then[whenI 4 (!fieldsB (.mk kind name other e body els at_)),whenI 7 (decide (deep > 64)),bg top locals name false,bg top locals other true]
 else bif kind==5 then[whenI 4 (!fieldsB (.mk kind name other e body els at_)),whenI 7 (decide (deep > 64)),ir top locals name]
 else[whenI 4 (!fieldsB (.mk kind name other e body els at_)),whenI 7 (decide (deep > 64))]
theorem kp(top locals:MI)(kind:Int)(name other:ByteArray)(e:List Expr)(body els:List Stmt)(at_ deep:Int):whenI 7 (decide (deep > 64))∈stmtRules top locals kind name other e body els at_ deep:=by unfold stmtRules;cases kind==1<;>cases kind==2<;>cases kind==5<;>simp
mutual
def stmtW(top locals:MI):Stmt->Int->Option Flt
 | .mk kind name other e body els at_,deep=>bif decide (leastW (stmtRules top locals kind name other e body els at_ deep) 0 > 0) then some ⟨at_,leastW (stmtRules top locals kind name other e body els at_ deep) 0⟩
  else match exprsW top locals e 1 with
   |some f=>some f
   |none=>match blockW top locals body (deep+1) with
    |some f=>some f
    |none=>blockW top locals els (deep+1)
def blockW(top locals:MI):List Stmt->Int->Option Flt
 |[],_=>none
 |e::l,deep=>match stmtW top locals e deep with
  |some f=>some f
  |none=>blockW top locals l deep
end
theorem vp{top locals:MI}{l:List Stmt}{i:Nat}{d:Stmt}{dp:Int}(h:l[i]?=some d):blockW top locals (l.drop i) dp=match stmtW top locals d dp with|some f=>some f|none=>blockW top locals (l.drop (i+1)) dp:=by rw[aG h];rfl
theorem Bh(p:Prg)(top locals:MI):∀(n:Nat),
  (∀(s:Stmt)(deep:Int),SizeOf.sizeOf s<n->K 171 [.ptr 0 0,s.av,.tr (ti deep)] (ip p top locals) (Ah (stmtW top locals s deep)) (cN p top locals)) /\
  (∀(l:List Stmt)(deep:Int),SizeOf.sizeOf l<n->K 162 [.ptr 0 0,.tr (ed l),.tr (ti deep)] (ip p top locals) (Ah (blockW top locals l deep)) (cN p top locals)):=by
 intro n;induction n with
 |zero=>exact⟨fun s deep h=>JQ,fun l deep h=>JQ⟩
 |succ n ih=>
 obtain⟨ihs,ihl⟩:=ih;constructor
 ·intro s deep hsz;refine Ctr.cut [9] hT hmix Tryz.func171 rfl (fun _ _=>JR) rfl fun hok=>?_;obtain⟨kind,name,other,e,body,els,at_⟩:=s;have hdeep:=(hok.slot 2 rfl).tr.i64;have hel:=((hok.slot 1 rfl).agg _ (.tail _ (.tail _ (.tail _ (.head _))))).tr.lst.2.1;rw[aL] at hel;simp only[Stmt.mk.sizeOf_spec] at hsz;clear hok;conv=>whnf
  refine aa.pure _ (k94 (.mk kind name other e body els at_)) rfl rfl fun _=>?_;conv=>whnf
  refine aa.pure _ (k57 4 (!fieldsB (.mk kind name other e body els at_))) rfl rfl fun _=>?_;conv=>whnf
  refine aa.pure _ (k57 7 (decide (deep > 64))) rfl rfl fun _=>?_;conv=>whnf
  refine bD.by (fun rules:List Int=>⟨[(0,.ptr 0 0),(2,.tr (ti deep)),(4,.ptr 3 0),(6,.sl 4 rules.length)],[(0,pD p),(1,.map .string (bG top)),(2,.map .string (bG locals)),(3,.cells 196 ((Stmt.mk kind name other e body els at_).cells.map .tr)),(4,.vec 3 1 8 (rules.map fun r=>[ti r]))],5⟩)
   (fun rules=>rules=stmtRules top locals kind name other e body els at_ deep) ?_ ?_
  ·conv=>whnf
   refine ah (fun h1=>?_) (fun h1=>?_)
   ·conv=>whnf
    refine aa.gen [0,1,2] [] [.ptr 0 0,.tr (ts name),.tr (tb false)] (ip p top locals) _ (cN p top locals) (k95 p top locals name false) rfl rfl rfl rfl aut aut rfl rfl fun _=>?_;conv=>whnf
    refine⟨rfl,rfl,rfl,t9 2,oo rfl,fun q hq=>?_,?_⟩
    ·cases hq with
     |head=>exact GG rfl
     |tail _ h=>cases h
    conv=>whnf
    exact⟨[whenI 4 (!fieldsB (.mk kind name other e body els at_)),whenI 7 (decide (deep > 64)),bg top locals name false],[0,1,2,3,23],[],Sub.au,by simp only[stmtRules,h1]<;>rfl⟩
   conv=>whnf
   refine ah (fun h2=>?_) (fun h2=>?_)
   ·conv=>whnf
    refine aa.gen [0,1,2] [] [.ptr 0 0,.tr (ts name),.tr (tb false)] (ip p top locals) _ (cN p top locals) (k95 p top locals name false) rfl rfl rfl rfl aut aut rfl rfl ?_;conv=>whnf
    refine aa.gen [0,1,2] [] [.ptr 0 0,.tr (ts other),.tr (tb true)] (ip p top locals) _ (cN p top locals) (k95 p top locals other true) rfl rfl rfl rfl aut aut rfl rfl ?_;conv=>whnf
    refine⟨rfl,rfl,rfl,t9 2,oo rfl,fun q hq=>?_,?_⟩
    ·cases hq with
     |head=>exact GG rfl
     |tail _ h=>cases h
    conv=>whnf
    refine drT ?_;conv=>whnf
    exact⟨[whenI 4 (!fieldsB (.mk kind name other e body els at_)),whenI 7 (decide (deep > 64)),bg top locals name false,bg top locals other true],[0,1,2,3,29],[],Sub.au,by simp only[stmtRules,h1,h2]<;>rfl⟩
   conv=>whnf
   refine ah (fun h3=>?_) (fun h3=>?_)
   ·conv=>whnf
    refine aa.gen [0,1,2] [] [.ptr 0 0,.tr (ts name)] (ip p top locals) _ (cN p top locals) (k96 p top locals name) rfl rfl rfl rfl aut aut rfl rfl fun _=>?_;conv=>whnf
    refine⟨rfl,rfl,rfl,t9 2,oo rfl,fun q hq=>?_,?_⟩
    ·cases hq with
     |head=>exact GG rfl
     |tail _ h=>cases h
    conv=>whnf
    exact⟨[whenI 4 (!fieldsB (.mk kind name other e body els at_)),whenI 7 (decide (deep > 64)),ir top locals name],[0,1,2,3,27],[],Sub.au,by simp only[stmtRules,h1,h2,h3]<;>rfl⟩
   conv=>whnf
   exact⟨[whenI 4 (!fieldsB (.mk kind name other e body els at_)),whenI 7 (decide (deep > 64))],[0,1,2,3,11],[],Sub.au,by simp only[stmtRules,h1,h2,h3]<;>rfl⟩
  rintro rules hr hok2;have hlen:=(hok2.vec 4 rfl).2.1;have hmem:whenI 7 (decide (deep > 64))∈rules:=by rw[hr];exact kp ..
  have hsee:az rules=.lst 1 8 ((rules.map fun r=>[ti r]).take rules.length):=by rw[vG JX];rfl
  have hle:rules.length<=(rules.map fun r=>[ti r]).length:=JX;clear hok2;conv=>whnf
  cases hb:decide (leastW rules 0 > 0) with
  |true=>
   have hE:stmtW top locals (.mk kind name other e body els at_) deep=some ⟨at_,leastW rules 0⟩:=by unfold stmtW;rw[<-hr,hb];rfl
   rw[hE];refine aa.gen [] [4] [.tr (ti at_),.tr (az rules)] [] _ [] (k56 at_ _ true hb) rfl rfl rfl rfl ⟨JZ,⟨rfl,hle,hsee⟩,J0⟩ trivial rfl rfl fun _=>?_;conv=>whnf
   exact⟨⟨rfl,Or.inl rfl,Or.inl rfl,J0⟩,aut,JY,JY,J0⟩
  |false=>
   have hE:stmtW top locals (.mk kind name other e body els at_) deep=match exprsW top locals e 1 with
    |some f=>some f
    |none=>match blockW top locals body (deep+1) with
     |some f=>some f
     |none=>blockW top locals els (deep+1):=by
    show(bif decide (leastW (stmtRules top locals kind name other e body els at_ deep) 0 > 0) then _ else _)=_;rw[<-hr,hb];rfl
   rw[hE];clear hE;have hd64:deep<=64:=DA hmem hb;have hw:IntKind.i64.wrap (deep+1)=deep+1:=w64 JQ JQ;refine aa.gen [] [4] [.tr (ti at_),.tr (az rules)] [] _ [] (k56 at_ _ false hb) rfl rfl rfl rfl ⟨JZ,⟨rfl,hle,hsee⟩,J0⟩ trivial rfl rfl fun _=>?_;conv=>whnf
   refine aq.by (fun i:Nat=>⟨[(0,.ptr 0 0),(2,.tr (ti deep)),(4,.ptr 3 0),(55,.tr (rg e)),(56,.tr (ti (Expr.rows e).length)),(57,.tr (ti i))],[(0,pD p),(1,.map .string (bG top)),(2,.map .string (bG locals)),(3,.cells 196 ((Stmt.mk kind name other e body els at_).cells.map .tr))],4⟩)
    (fun i=>i<=e.length/\exprsW top locals e 1=exprsW top locals (e.drop i) 1) (fun i=>e.length-i) 0 [0,1,2,3] []
    (Sub.au) ⟨x5 _,rfl⟩ ?_
   rintro i ⟨hi,hf⟩ -
   conv=>whnf
   refine ah (fun hlt=>?_) (fun hge=>?_)
   ·have hlt:i<e.length:=by rw[aL] at hlt;simpa using hlt
    conv=>whnf
    refine⟨rfl,JQ,by rw[aL];omega,fun row hrow=>?_⟩;obtain⟨d,hd,rfl⟩:=oB hrow
    replace hd:e[i]?=some d:=hd
    rw[oh hd] at hf;clear hrow;have hih:=k97 p top locals (SizeOf.sizeOf d+1) d 1 JQ;cases ho:exprW top locals d 1 with
    |some f=>
     rw[ho] at hf hih;have hf:exprsW top locals e 1=some f:=hf;rw[hf];obtain⟨k1,k2,k3,k4,k5,k6⟩:=d;conv=>whnf
     refine aa.gen [0,1,2] [] _ (ip p top locals) _ (cN p top locals) hih rfl rfl rfl rfl aut aut rfl rfl fun _=>?_;conv=>whnf
     exact⟨⟨rfl,Or.inl rfl,Or.inl rfl,J0⟩,aut,JY,JY,J0⟩
    |none=>
     rw[ho] at hf hih;have hf:exprsW top locals e 1=exprsW top locals (e.drop (i+1)) 1:=hf;obtain⟨k1,k2,k3,k4,k5,k6⟩:=d;conv=>whnf
     refine aa.gen [0,1,2] [] _ (ip p top locals) _ (cN p top locals) hih rfl rfl rfl rfl aut aut rfl rfl fun _=>?_;conv=>whnf
     exact⟨i+1,[0,1,2,3],[],Sub.mk' rfl ⟨JY,JZ,JY,JZ,JZ,.inl (ak hlt hel),J0⟩ aut rfl rfl,⟨hlt,hf⟩,JQ⟩
   ·have hge:e.length<=i:=by rw[aL] at hge;simpa using hge
    rw[GK hge] at hf;have hf:exprsW top locals e 1=none:=hf;rw[hf];have hbd:K 162 [.ptr 0 0,.tr (ed body),.tr (ti (IntKind.i64.wrap (deep+1)))] (ip p top locals) (Ah (blockW top locals body (deep+1))) (cN p top locals):=by rw[hw];exact ihl body (deep+1) JQ
    have hel2:K 162 [.ptr 0 0,.tr (ed els),.tr (ti (IntKind.i64.wrap (deep+1)))] (ip p top locals) (Ah (blockW top locals els (deep+1))) (cN p top locals):=by rw[hw];exact ihl els (deep+1) JQ
    cases ho:blockW top locals body (deep+1) with
    |some f=>
     rw[ho] at hbd;conv=>whnf
     refine exT ?_;conv=>whnf
     refine aa.gen [0,1,2] [] _ (ip p top locals) _ (cN p top locals) hbd rfl rfl rfl rfl aut aut rfl rfl fun _=>?_;conv=>whnf
     exact⟨⟨rfl,Or.inl rfl,Or.inl rfl,J0⟩,aut,JY,JY,J0⟩
    |none=>
     rw[ho] at hbd;cases ho2:blockW top locals els (deep+1) with
     |some f=>
      rw[ho2] at hel2;conv=>whnf
      refine exT ?_;conv=>whnf
      refine aa.gen [0,1,2] [] _ (ip p top locals) _ (cN p top locals) hbd rfl rfl rfl rfl aut aut rfl rfl fun _=>?_;conv=>whnf
      refine aa.gen [0,1,2] [] _ (ip p top locals) _ (cN p top locals) hel2 rfl rfl rfl rfl aut aut rfl rfl fun _=>?_;conv=>whnf
      exact⟨⟨rfl,Or.inl rfl,Or.inl rfl,J0⟩,aut,JY,JY,J0⟩
     |none=>
      rw[ho2] at hel2;conv=>whnf
      refine exT ?_;conv=>whnf
      refine aa.gen [0,1,2] [] _ (ip p top locals) _ (cN p top locals) hbd rfl rfl rfl rfl aut aut rfl rfl fun _=>?_;conv=>whnf
      refine aa.gen [0,1,2] [] _ (ip p top locals) _ (cN p top locals) hel2 rfl rfl rfl rfl aut aut rfl rfl fun _=>?_;conv=>whnf
      exact aut
 ·intro l deep hsz;refine Ctr.of hT hmix Tryz.func162 rfl (fun _ _=>JR) rfl fun hok=>?_;have hkl:=(hok.slot 1 rfl).tr.lst.2.1;rw[bz] at hkl;clear hok;conv=>whnf
  refine aq.by (fun i:Nat=>⟨[(0,.ptr 0 0),(2,.tr (ti deep)),(8,.tr (ed l)),(9,.tr (ti (Stmt.rows l).length)),(10,.tr (ti i))],[(0,pD p),(1,.map .string (bG top)),(2,.map .string (bG locals))],3⟩)
   (fun i=>i<=l.length/\blockW top locals l deep=blockW top locals (l.drop i) deep) (fun i=>l.length-i) 0 [0,1,2] []
   (Sub.au) ⟨x5 _,rfl⟩ ?_
  rintro i ⟨hi,hf⟩ -
  conv=>whnf
  refine ah (fun hlt=>?_) (fun hge=>?_)
  ·have hlt:i<l.length:=by rw[bz] at hlt;simpa using hlt
   conv=>whnf
   refine⟨rfl,JQ,by rw[bz];omega,fun row hrow=>?_⟩;obtain⟨d,hd,rfl⟩:=nU hrow
   replace hd:l[i]?=some d:=hd
   have hsd:=xP hd;rw[vp hd] at hf;clear hrow;have hih:=ihs d deep JQ;cases ho:stmtW top locals d deep with
   |some f=>
    rw[ho] at hf hih;have hf:blockW top locals l deep=some f:=hf;rw[hf];obtain⟨k1,k2,k3,k4,k5,k6,k7⟩:=d;conv=>whnf
    refine aa.gen [0,1,2] [] _ (ip p top locals) _ (cN p top locals) hih rfl rfl rfl rfl aut aut rfl rfl fun _=>?_;conv=>whnf
    exact⟨⟨rfl,Or.inl rfl,Or.inl rfl,J0⟩,aut,JY,JY,J0⟩
   |none=>
    rw[ho] at hf hih;have hf:blockW top locals l deep=blockW top locals (l.drop (i+1)) deep:=hf;obtain⟨k1,k2,k3,k4,k5,k6,k7⟩:=d;conv=>whnf
    refine aa.gen [0,1,2] [] _ (ip p top locals) _ (cN p top locals) hih rfl rfl rfl rfl aut aut rfl rfl fun _=>?_;conv=>whnf
    exact⟨i+1,[0,1,2],[],Sub.mk' rfl ⟨JY,JZ,JZ,JZ,.inl (ak hlt hkl),J0⟩ aut rfl rfl,⟨hlt,hf⟩,JQ⟩
  ·have hge:l.length<=i:=by rw[bz] at hge;simpa using hge
   rw[GK hge] at hf;have hf:blockW top locals l deep=none:=hf;rw[hf];conv=>whnf
   refine exT ?_;conv=>whnf
   exact aut
end Go.Proofs.YtapmdfcmpglieaaGreatDoor.am
set_option maxRecDepth 100000
set_option maxHeartbeats 4000000
namespace Go.Proofs.YtapmdfcmpglieaaGreatDoor.am
open Go Go.Proofs
def ce:MI->MK->Int->MI
 |[],q,x=>[(q,x)]
 |(k,v)::r,q,x=>bif MK.same q k then(q,x)::r else(k,v)::ce r q x
theorem fI:∀(M:MI)(q:MK)(x:Int),mput (bG M) q (ti x)=bG (ce M q x)
 |[],q,x=>rfl
 | (k,v)::r,q,x=>by show(bif MK.same q k then(q,ti x)::bG r else(k,ti v)::mput (bG r) q (ti x))=bG (bif MK.same q k then(q,x)::r else(k,v)::ce r q x);rw[fI r q x];cases MK.same q k<;>rfl
def d9(M:MI)(name:ByteArray)(s:Int):MI:=bif mgetI M (.ks name)==0 then ce M (.ks name) s else M
theorem k81(M:MI)(name:ByteArray)(s:Int):K 161 [.tr (ts name),.tr (ti s),.ptr 0 0] [.cells 232 [.mp 1],.map .string (bG M)] (.ret (.tup [])) [some (.cells 232 [.mp 1]),some (.map .string (bG (d9 M name s)))]:=by
 refine Ctr.of hT hmix Tryz.func161 rfl (fun _ _=>JR) rfl fun hok=>?_;clear hok;conv=>whnf
 rw[fD];conv=>whnf
 refine ah (fun h1=>?_) (fun h1=>?_)
 ·conv=>whnf
  exact⟨J0,aut,⟨rfl,by unfold d9;rw[h1];exact fI M (.ks name) s⟩,J0⟩
 ·conv=>whnf
  exact⟨J0,aut,⟨rfl,by unfold d9;rw[h1];rfl⟩,J0⟩
end Go.Proofs.YtapmdfcmpglieaaGreatDoor.am
set_option maxRecDepth 100000
set_option maxHeartbeats 4000000
namespace Go.Proofs.YtapmdfcmpglieaaGreatDoor.am
open Go Go.Proofs
def putAll(M:MI)(l:List Decl)(s:Int):MI:=l.foldl (fun M d=>d9 M d.name s) M
def putThs(M:MI)(l:List Thread):MI:=l.foldl (fun M d=>d9 M d.name 3) M
def topOf(p:Prg):MI:=putThs (putAll (putAll [] p.shared 1) p.locks 2) p.threads
theorem k55(p:Prg):K 141 [p.av] [] (.ret (.mp 0)) [some (.map .string (bG (topOf p)))]:=by
 refine Ctr.new [] hT hmix Tryz.func141 rfl (fun _ _=>JR) rfl fun hok=>?_;obtain⟨_,hl1,_⟩:=((hok.slot 0 rfl).agg _ (.head _)).tr.lst;obtain⟨_,hl2,_⟩:=((hok.slot 0 rfl).agg _ (.tail _ (.head _))).tr.lst;obtain⟨_,hl3,_⟩:=((hok.slot 0 rfl).agg _ (.tail _ (.tail _ (.head _)))).tr.lst;rw[ad] at hl1 hl2 hl3;clear hok;conv=>whnf
 refine aq.by (fun i:Nat=>⟨[(1,.ptr 0 0),(3,.ptr 1 0),(4,.fn 161 [.ptr 1 0]),(14,.tr (ae p.shared)),(15,.tr (ti (p.shared.map Decl.cells).length)),(16,.tr (ti i))],[(0,.cells 63 [.tr (ae p.shared),.tr (ae p.locks),.tr (aA p.threads)]),(1,.cells 232 [.mp 2]),(2,.map .string (bG (putAll [] (p.shared.take i) 1)))],4⟩)
  (fun i=>i<=p.shared.length) (fun i=>p.shared.length-i) 0 [0,3,2] []
  (Sub.au) (x5 _) ?_
 intro i hi _;conv=>whnf
 refine ah (fun hlt=>?_) (fun hge=>?_)
 ·have hlt:i<p.shared.length:=by rw[ad] at hlt;simpa using hlt
  conv=>whnf
  refine⟨rfl,JQ,by rw[ad];omega,fun row hrow=>?_⟩;obtain⟨d,hd,rfl⟩:=aC hrow
  replace hd:p.shared[i]?=some d:=hd
  clear hrow;have hM:putAll [] (p.shared.take (i+1)) 1=d9 (putAll [] (p.shared.take i) 1) d.name 1:=by rw[aN hd];simp[putAll,putThs]
  obtain⟨name,word,at_⟩:=d;conv=>whnf
  refine aa.gen [1,2] [] [.tr (ts name),.tr (ti 1),.ptr 0 0] [.cells 232 [.mp 1],.map .string (bG (putAll [] (p.shared.take i) 1))] _ _ (k81 (putAll [] (p.shared.take i) 1) name 1) rfl rfl rfl rfl aut aut rfl rfl fun _=>?_;conv=>whnf
  exact⟨i+1,[0,1,2],[],Sub.mk' rfl ⟨JY,JY,aut,JZ,JZ,.inl (ak hlt hl1),J0⟩ ⟨aut,aut,⟨rfl,by rw[hM]⟩,J0⟩ rfl rfl,hlt,JQ⟩
 ·have hge:p.shared.length<=i:=by rw[ad] at hge;simpa using hge
  rw[vG hge];conv=>whnf
  refine exT ?_;conv=>whnf
  refine aq.by (fun i:Nat=>⟨[(1,.ptr 0 0),(3,.ptr 1 0),(4,.fn 161 [.ptr 1 0]),(26,.tr (ae p.locks)),(27,.tr (ti (p.locks.map Decl.cells).length)),(28,.tr (ti i))],[(0,.cells 63 [.tr (ae p.shared),.tr (ae p.locks),.tr (aA p.threads)]),(1,.cells 232 [.mp 2]),(2,.map .string (bG (putAll (putAll [] p.shared 1) (p.locks.take i) 2)))],4⟩)
   (fun i=>i<=p.locks.length) (fun i=>p.locks.length-i) 0 [0,1,2] []
   (Sub.au) (x5 _) ?_
  intro i hi _;conv=>whnf
  refine ah (fun hlt=>?_) (fun hge=>?_)
  ·have hlt:i<p.locks.length:=by rw[ad] at hlt;simpa using hlt
   conv=>whnf
   refine⟨rfl,JQ,by rw[ad];omega,fun row hrow=>?_⟩;obtain⟨d,hd,rfl⟩:=aC hrow
   replace hd:p.locks[i]?=some d:=hd
   clear hrow;have hM:putAll (putAll [] p.shared 1) (p.locks.take (i+1)) 2=d9 (putAll (putAll [] p.shared 1) (p.locks.take i) 2) d.name 2:=by rw[aN hd];simp[putAll,putThs]
   obtain⟨name,word,at_⟩:=d;conv=>whnf
   refine aa.gen [1,2] [] [.tr (ts name),.tr (ti 2),.ptr 0 0] [.cells 232 [.mp 1],.map .string (bG (putAll (putAll [] p.shared 1) (p.locks.take i) 2))] _ _ (k81 (putAll (putAll [] p.shared 1) (p.locks.take i) 2) name 2) rfl rfl rfl rfl aut aut rfl rfl fun _=>?_;conv=>whnf
   exact⟨i+1,[0,1,2],[],Sub.mk' rfl ⟨JY,JY,aut,JZ,JZ,.inl (ak hlt hl2),J0⟩ ⟨aut,aut,⟨rfl,by rw[hM]⟩,J0⟩ rfl rfl,hlt,JQ⟩
  ·have hge:p.locks.length<=i:=by rw[ad] at hge;simpa using hge
   rw[vG hge];conv=>whnf
   refine exT ?_;conv=>whnf
   refine aq.by (fun i:Nat=>⟨[(1,.ptr 0 0),(3,.ptr 1 0),(4,.fn 161 [.ptr 1 0]),(38,.tr (aA p.threads)),(39,.tr (ti (p.threads.map Thread.cells).length)),(40,.tr (ti i))],[(0,.cells 63 [.tr (ae p.shared),.tr (ae p.locks),.tr (aA p.threads)]),(1,.cells 232 [.mp 2]),(2,.map .string (bG (putThs (putAll (putAll [] p.shared 1) p.locks 2) (p.threads.take i))))],4⟩)
    (fun i=>i<=p.threads.length) (fun i=>p.threads.length-i) 0 [0,1,2] []
    (Sub.au) (x5 _) ?_
   intro i hi _;conv=>whnf
   refine ah (fun hlt=>?_) (fun hge=>?_)
   ·have hlt:i<p.threads.length:=by rw[ad] at hlt;simpa using hlt
    conv=>whnf
    refine⟨rfl,JQ,by rw[ad];omega,fun row hrow=>?_⟩;obtain⟨d,hd,rfl⟩:=aC hrow
    replace hd:p.threads[i]?=some d:=hd
    clear hrow;have hM:putThs (putAll (putAll [] p.shared 1) p.locks 2) (p.threads.take (i+1))=d9 (putThs (putAll (putAll [] p.shared 1) p.locks 2) (p.threads.take i)) d.name 3:=by rw[aN hd];simp[putAll,putThs]
    obtain⟨name,ls,body,at_⟩:=d;conv=>whnf
    refine aa.gen [1,2] [] [.tr (ts name),.tr (ti 3),.ptr 0 0] [.cells 232 [.mp 1],.map .string (bG (putThs (putAll (putAll [] p.shared 1) p.locks 2) (p.threads.take i)))] _ _ (k81 (putThs (putAll (putAll [] p.shared 1) p.locks 2) (p.threads.take i)) name 3) rfl rfl rfl rfl aut aut rfl rfl fun _=>?_;conv=>whnf
    exact⟨i+1,[0,1,2],[],Sub.mk' rfl ⟨JY,JY,aut,JZ,JZ,.inl (ak hlt hl3),J0⟩ ⟨aut,aut,⟨rfl,by rw[hM]⟩,J0⟩ rfl rfl,hlt,JQ⟩
   ·have hge:p.threads.length<=i:=by rw[ad] at hge;simpa using hge
    rw[vG hge];conv=>whnf
    refine exT ?_;conv=>whnf
    exact⟨[2],rfl,rfl,rfl,JY,J0⟩
end Go.Proofs.YtapmdfcmpglieaaGreatDoor.am
set_option maxRecDepth 100000
set_option maxHeartbeats 4000000
namespace Go.Proofs.YtapmdfcmpglieaaGreatDoor.am
open Go Go.Proofs
def ones(M:MI)(l:List Decl):MI:=l.foldl (fun M d=>ce M (.ks d.name) 1) M
def kq(M:MI)(l:List (List Decl)):MI:=l.foldl ones M
def aboveM(p:Prg):MI:=kq [] [p.shared,p.locks]
def localRules(above M:MI)(i:Nat)(d:Decl):List Int:=
 [whenI 1 (!nameB d.name),whenI 2 (decide (IntKind.i64.wrap (mgetI M (.ks d.name)+mgetI above (.ks d.name)) > 0)),whenI 3 ((i:Int)==64),whenI 4 (d.word != 0)]
def localsW(above:MI):List Decl->Nat->MI->Option Flt
 |[],_,_=>none
 |d::l,i,M=>bif decide (leastW (localRules above M i d) 0 > 0) then some ⟨d.at_,leastW (localRules above M i d) 0⟩ else localsW above l (i+1) (ce M (.ks d.name) 1)
theorem kX{above M:MI}{l:List Decl}{i:Nat}{d:Decl}(h:l[i]?=some d):
  localsW above (l.drop i) i M=bif decide (leastW (localRules above M i d) 0 > 0) then some ⟨d.at_,leastW (localRules above M i d) 0⟩ else localsW above (l.drop (i+1)) (i+1) (ce M (.ks d.name) 1):=by
 rw[aG h];rfl
theorem ik{M:MI}{l:List Decl}{i:Nat}{d:Decl}(h:l[i]?=some d):ones M (l.take (i+1))=ce (ones M (l.take i)) (.ks d.name) 1:=by rw[aN h];simp[ones]
theorem qn{M:MI}{l:List (List Decl)}{i:Nat}{d:List Decl}(h:l[i]?=some d):kq M (l.take (i+1))=ones (kq M (l.take i)) d:=by rw[aN h];simp[kq]
def threadW(p:Prg)(top:MI)(t:Thread):Option Flt:=
 match localsW (aboveM p) t.locals 0 [] with
 |some f=>some f
 |none=>blockW top (ones [] t.locals) t.body 1
abbrev iC(p:Prg)(a:AV):Blk:=.cells 236 [.tr (ae p.shared),.tr (ae p.locks),.tr (aA p.threads),.mp 1,a]
theorem Ga(p:Prg)(top:MI)(t:Thread):K 144 [.ptr 0 0,t.av] [iC p (.tr (.v (.map none))),.map .string (bG top)] (Ah (threadW p top t))
  (match threadW p top t with|some _=>[none,none]|none=>[some (iC p (.mp 2)),some (.map .string (bG top)),some (.map .string (bG (ones [] t.locals)))]):=by
 refine Ctr.new [12] hT hmix Tryz.func144 rfl (fun _ _=>JR) rfl fun hok=>?_;obtain⟨tname,locals,body,tat⟩:=t;have hl0:=((hok.cells 0 rfl) _ (.head _)).tr.lst.2.1;have hl1:=((hok.cells 0 rfl) _ (.tail _ (.head _))).tr.lst.2.1;have hl2:=((hok.slot 1 rfl).agg _ (.tail _ (.head _))).tr.lst.2.1;rw[ad] at hl0 hl1 hl2;have hlL:∀l∈[p.shared,p.locks],l.length<=9223372036854775807:=by intro l hl;simp only[F5,Hr,Is] at hl;rcases hl with rfl|rfl<;>assumption
 clear hok hl0 hl1;conv=>whnf
 refine bD.by (fun _:Unit=>⟨[(0,.ptr 0 0),(3,.ptr 3 0),(4,.mp 4)],[(0,iC p (.mp 2)),(1,.map .string (bG top)),(2,.map .string (bG [])),(3,.cells 142 ((Thread.mk tname locals body tat).cells.map .tr)),(4,.map .string (bG (aboveM p)))],5⟩) (fun _=>True) ?_ ?_
 ·conv=>whnf
  refine drT ?_;conv=>whnf
  refine aq.by (fun j:Nat=>⟨[(0,.ptr 0 0),(3,.ptr 3 0),(4,.mp 4),(26,.sl 5 2),(27,.tr (ti 2)),(28,.tr (ti j))],[(0,iC p (.mp 2)),(1,.map .string (bG top)),(2,.map .string (bG [])),(3,.cells 142 ((Thread.mk tname locals body tat).cells.map .tr)),(4,.map .string (bG (kq [] ([p.shared,p.locks].take j)))),(5,.vec 23 1 24 ([p.shared,p.locks].map fun l=>[ae l]))],6⟩)
   (fun j=>j<=2) (fun j=>2-j) 0 [0,1,4,2,8,20] [] Sub.au (x5 _) ?_
  intro j hj _;conv=>whnf
  refine ah (fun hlt=>?_) (fun hge=>?_)
  ·have hlt:j<2:=by have:=of_decide_eq_true hlt;omega
   conv=>whnf
   refine⟨rfl,JQ,JQ,?_⟩;conv=>whnf
   refine⟨rfl,hlt,fun row hrow=>?_⟩;obtain⟨l,hd,rfl⟩:=aC hrow
   replace hd:[p.shared,p.locks][j]?=some l:=hd
   have hll:=hlL l (i3 hd);clear hrow;conv=>whnf
   refine⟨t9 _,fun t ht=>?_⟩;obtain rfl:=vx ht;clear ht;conv=>whnf
   refine aq.by (fun i:Nat=>⟨[(0,.ptr 0 0),(3,.ptr 3 0),(4,.mp 4),(26,.sl 5 2),(27,.tr (ti 2)),(28,.tr (ti j)),(32,.tr (ae l)),(33,.tr (ti (l.map Decl.cells).length)),(34,.tr (ti i))],[(0,iC p (.mp 2)),(1,.map .string (bG top)),(2,.map .string (bG [])),(3,.cells 142 ((Thread.mk tname locals body tat).cells.map .tr)),(4,.map .string (bG (ones (kq [] ([p.shared,p.locks].take j)) (l.take i)))),(5,.vec 23 1 24 ([p.shared,p.locks].map fun l=>[ae l]))],6⟩)
    (fun i=>i<=l.length) (fun i=>l.length-i) 0 [0,1,2,3,4,5] [] Sub.au (x5 _) ?_
   intro i hi _;conv=>whnf
   refine ah (fun hlt2=>?_) (fun hge2=>?_)
   ·have hlt2:i<l.length:=by rw[ad] at hlt2;simpa using hlt2
    conv=>whnf
    refine⟨rfl,JQ,by rw[ad];omega,fun row hrow=>?_⟩;obtain⟨d,hd2,rfl⟩:=aC hrow
    replace hd2:l[i]?=some d:=hd2
    clear hrow;have hM:=ik (M:=kq [] ([p.shared,p.locks].take j)) hd2;obtain⟨name,word,at_⟩:=d;conv=>whnf
    exact⟨i+1,[0,1,2,3,4,5],[],Sub.mk' rfl aut ⟨aut,aut,aut,aut,⟨rfl,by rw[hM];exact fI _ (.ks name) 1⟩,aut⟩ rfl rfl,hlt2,JQ⟩
   ·have hge2:l.length<=i:=by rw[ad] at hge2;simpa using hge2
    rw[vG hge2];conv=>whnf
    refine exT ?_;conv=>whnf
    exact⟨j+1,[0,1,2,3,4,5],[],Sub.mk' rfl ⟨aut,aut,aut,aut,aut,.inl (ak hlt JQ),J0⟩ ⟨aut,aut,aut,aut,⟨rfl,by rw[qn hd]⟩,aut⟩ rfl rfl,hlt,JQ⟩
  ·have hge:2<=j:=by have:=ud hge;omega
   rw[vG (by exact hge)];conv=>whnf
   refine exT ?_;conv=>whnf
   exact⟨(),[0,1,2,3,4],[],Sub.au,J0⟩
 ·rintro _ - -
  conv=>whnf
  refine aq.by (fun i:Nat=>⟨[(0,.ptr 0 0),(3,.ptr 3 0),(4,.mp 4),(44,.tr (ae locals)),(45,.tr (ti (locals.map Decl.cells).length)),(46,.tr (ti i))],[(0,iC p (.mp 2)),(1,.map .string (bG top)),(2,.map .string (bG (ones [] (locals.take i)))),(3,.cells 142 ((Thread.mk tname locals body tat).cells.map .tr)),(4,.map .string (bG (aboveM p)))],5⟩)
   (fun i=>i<=locals.length/\localsW (aboveM p) locals 0 []=localsW (aboveM p) (locals.drop i) i (ones [] (locals.take i))) (fun i=>locals.length-i) 0 [0,1,2,3,4] [] Sub.au ⟨x5 _,rfl⟩ ?_
  rintro i ⟨hi,hf⟩ -
  have hi:i<=locals.length:=hi;conv=>whnf
  refine ah (fun hlt=>?_) (fun hge=>?_)
  ·have hlt:i<locals.length:=by rw[ad] at hlt;simpa using hlt
   conv=>whnf
   refine⟨rfl,JQ,by rw[ad];omega,fun row hrow=>?_⟩;obtain⟨d,hd,rfl⟩:=aC hrow
   replace hd:locals[i]?=some d:=hd
   rw[kX hd] at hf;clear hrow;have hM:=ik (M:=[]) hd;have hrl:localRules (aboveM p) (ones [] (locals.take i)) i d=[_,_,_,_]:=rfl;obtain⟨name,word,at_⟩:=d;conv=>whnf
   refine aa.pure _ (k41 name) rfl rfl ?_;conv=>whnf
   refine aa.pure _ (k57 1 (!nameB name)) rfl rfl ?_;conv=>whnf
   rw[fD];conv=>whnf
   rw[fD];conv=>whnf
   refine aa.pure _ (k57 2 _) rfl rfl ?_;conv=>whnf
   refine aa.pure _ (k57 3 _) rfl rfl ?_;conv=>whnf
   refine aa.pure _ (k57 4 _) rfl rfl ?_;conv=>whnf
   cases hb:decide (leastW (localRules (aboveM p) (ones [] (locals.take i)) i ⟨name,word,at_⟩) 0 > 0) with
   |true=>
    rw[hb] at hf;have hE:threadW p top ⟨tname,locals,body,tat⟩=some ⟨at_,leastW (localRules (aboveM p) (ones [] (locals.take i)) i ⟨name,word,at_⟩) 0⟩:=by unfold threadW;rw[hf];rfl
    rw[hE];refine aa.gen [] [40] _ _ _ _ (k56 at_ _ true hb) rfl rfl rfl rfl aut aut rfl rfl ?_;conv=>whnf
    refine⟨JR,JR,?_⟩;conv=>whnf
    exact⟨[0,1],rfl,rfl,⟨rfl,Or.inl rfl,Or.inl rfl,J0⟩,J0⟩
   |false=>
    rw[hb] at hf;have hf:localsW (aboveM p) locals 0 []=localsW (aboveM p) (locals.drop (i+1)) (i+1) (ones [] (locals.take (i+1))):=by rw[hM];exact hf
    refine aa.gen [] [40] _ _ _ _ (k56 at_ _ false hb) rfl rfl rfl rfl aut aut rfl rfl ?_;conv=>whnf
    refine drT ?_;conv=>whnf
    refine drT ?_;conv=>whnf
    exact⟨i+1,[0,1,2,3,4],[],Sub.mk' rfl aut ⟨aut,aut,⟨rfl,by rw[hM];exact fI _ (.ks name) 1⟩,aut⟩ rfl rfl,⟨hlt,hf⟩,JQ⟩
  ·have hge:locals.length<=i:=by rw[ad] at hge;simpa using hge
   rw[GK hge] at hf;have hf:localsW (aboveM p) locals 0 []=none:=hf;rw[vG hge];have hE:threadW p top ⟨tname,locals,body,tat⟩=blockW top (ones [] locals) body 1:=by unfold threadW;rw[hf]
   rw[hE];conv=>whnf
   refine exT ?_;have hbd:=(Bh p top (ones [] locals) (SizeOf.sizeOf body+1)).2 body 1 JQ;cases ho:blockW top (ones [] locals) body 1 with
   |some f=>
    rw[ho] at hbd;refine aa.au [0,1,2] [] (hbd) ?_;intro _;conv=>whnf
    exact⟨[0,1],rfl,rfl,⟨rfl,Or.inl rfl,Or.inl rfl,J0⟩,J0⟩
   |none=>
    rw[ho] at hbd;refine aa.au [0,1,2] [] (hbd) ?_;intro _;conv=>whnf
    exact⟨[0,1,2],rfl,rfl,J0,aut⟩
theorem Gs(p:Prg)(top:MI)(M0:MI)(t:Thread):K 144 [.ptr 0 0,t.av] [iC p (.mp 2),.map .string (bG top),.map .string (bG M0)] (Ah (threadW p top t))
  (match threadW p top t with|some _=>[none,none,none]|none=>[some (iC p (.mp 3)),some (.map .string (bG top)),none,some (.map .string (bG (ones [] t.locals)))]):=by
 refine Ctr.new [12] hT hmix Tryz.func144 rfl (fun _ _=>JR) rfl fun hok=>?_;obtain⟨tname,locals,body,tat⟩:=t;have hl0:=((hok.cells 0 rfl) _ (.head _)).tr.lst.2.1;have hl1:=((hok.cells 0 rfl) _ (.tail _ (.head _))).tr.lst.2.1;have hl2:=((hok.slot 1 rfl).agg _ (.tail _ (.head _))).tr.lst.2.1;rw[ad] at hl0 hl1 hl2;have hlL:∀l∈[p.shared,p.locks],l.length<=9223372036854775807:=by intro l hl;simp only[F5,Hr,Is] at hl;rcases hl with rfl|rfl<;>assumption
 clear hok hl0 hl1;conv=>whnf
 refine bD.by (fun _:Unit=>⟨[(0,.ptr 0 0),(3,.ptr 4 0),(4,.mp 5)],[(0,iC p (.mp 3)),(1,.map .string (bG top)),(2,.map .string (bG M0)),(3,.map .string (bG [])),(4,.cells 142 ((Thread.mk tname locals body tat).cells.map .tr)),(5,.map .string (bG (aboveM p)))],6⟩) (fun _=>True) ?_ ?_
 ·conv=>whnf
  refine drT ?_;conv=>whnf
  refine aq.by (fun j:Nat=>⟨[(0,.ptr 0 0),(3,.ptr 4 0),(4,.mp 5),(26,.sl 6 2),(27,.tr (ti 2)),(28,.tr (ti j))],[(0,iC p (.mp 3)),(1,.map .string (bG top)),(2,.map .string (bG M0)),(3,.map .string (bG [])),(4,.cells 142 ((Thread.mk tname locals body tat).cells.map .tr)),(5,.map .string (bG (kq [] ([p.shared,p.locks].take j)))),(6,.vec 23 1 24 ([p.shared,p.locks].map fun l=>[ae l]))],7⟩)
   (fun j=>j<=2) (fun j=>2-j) 0 [0,1,2,5,3,9,21] [] Sub.au (x5 _) ?_
  intro j hj _;conv=>whnf
  refine ah (fun hlt=>?_) (fun hge=>?_)
  ·have hlt:j<2:=by have:=of_decide_eq_true hlt;omega
   conv=>whnf
   refine⟨rfl,JQ,JQ,?_⟩;conv=>whnf
   refine⟨rfl,hlt,fun row hrow=>?_⟩;obtain⟨l,hd,rfl⟩:=aC hrow
   replace hd:[p.shared,p.locks][j]?=some l:=hd
   have hll:=hlL l (i3 hd);clear hrow;conv=>whnf
   refine⟨t9 _,fun t ht=>?_⟩;obtain rfl:=vx ht;clear ht;conv=>whnf
   refine aq.by (fun i:Nat=>⟨[(0,.ptr 0 0),(3,.ptr 4 0),(4,.mp 5),(26,.sl 6 2),(27,.tr (ti 2)),(28,.tr (ti j)),(32,.tr (ae l)),(33,.tr (ti (l.map Decl.cells).length)),(34,.tr (ti i))],[(0,iC p (.mp 3)),(1,.map .string (bG top)),(2,.map .string (bG M0)),(3,.map .string (bG [])),(4,.cells 142 ((Thread.mk tname locals body tat).cells.map .tr)),(5,.map .string (bG (ones (kq [] ([p.shared,p.locks].take j)) (l.take i)))),(6,.vec 23 1 24 ([p.shared,p.locks].map fun l=>[ae l]))],7⟩)
    (fun i=>i<=l.length) (fun i=>l.length-i) 0 [0,1,2,3,4,5,6] [] Sub.au (x5 _) ?_
   intro i hi _;conv=>whnf
   refine ah (fun hlt2=>?_) (fun hge2=>?_)
   ·have hlt2:i<l.length:=by rw[ad] at hlt2;simpa using hlt2
    conv=>whnf
    refine⟨rfl,JQ,by rw[ad];omega,fun row hrow=>?_⟩;obtain⟨d,hd2,rfl⟩:=aC hrow
    replace hd2:l[i]?=some d:=hd2
    clear hrow;have hM:=ik (M:=kq [] ([p.shared,p.locks].take j)) hd2;obtain⟨name,word,at_⟩:=d;conv=>whnf
    exact⟨i+1,[0,1,2,3,4,5,6],[],Sub.mk' rfl aut ⟨aut,aut,aut,aut,aut,⟨rfl,by rw[hM];exact fI _ (.ks name) 1⟩,aut⟩ rfl rfl,hlt2,JQ⟩
   ·have hge2:l.length<=i:=by rw[ad] at hge2;simpa using hge2
    rw[vG hge2];conv=>whnf
    refine exT ?_;conv=>whnf
    exact⟨j+1,[0,1,2,3,4,5,6],[],Sub.mk' rfl ⟨aut,aut,aut,aut,aut,.inl (ak hlt JQ),J0⟩ ⟨aut,aut,aut,aut,aut,⟨rfl,by rw[qn hd]⟩,aut⟩ rfl rfl,hlt,JQ⟩
  ·have hge:2<=j:=by have:=ud hge;omega
   rw[vG (by exact hge)];conv=>whnf
   refine exT ?_;conv=>whnf
   exact⟨(),[0,1,2,3,4,5],[],Sub.au,J0⟩
 ·rintro _ - -
  conv=>whnf
  refine aq.by (fun i:Nat=>⟨[(0,.ptr 0 0),(3,.ptr 4 0),(4,.mp 5),(44,.tr (ae locals)),(45,.tr (ti (locals.map Decl.cells).length)),(46,.tr (ti i))],[(0,iC p (.mp 3)),(1,.map .string (bG top)),(2,.map .string (bG M0)),(3,.map .string (bG (ones [] (locals.take i)))),(4,.cells 142 ((Thread.mk tname locals body tat).cells.map .tr)),(5,.map .string (bG (aboveM p)))],6⟩)
   (fun i=>i<=locals.length/\localsW (aboveM p) locals 0 []=localsW (aboveM p) (locals.drop i) i (ones [] (locals.take i))) (fun i=>locals.length-i) 0 [0,1,2,3,4,5] [] Sub.au ⟨x5 _,rfl⟩ ?_
  rintro i ⟨hi,hf⟩ -
  have hi:i<=locals.length:=hi;conv=>whnf
  refine ah (fun hlt=>?_) (fun hge=>?_)
  ·have hlt:i<locals.length:=by rw[ad] at hlt;simpa using hlt
   conv=>whnf
   refine⟨rfl,JQ,by rw[ad];omega,fun row hrow=>?_⟩;obtain⟨d,hd,rfl⟩:=aC hrow
   replace hd:locals[i]?=some d:=hd
   rw[kX hd] at hf;clear hrow;have hM:=ik (M:=[]) hd;have hrl:localRules (aboveM p) (ones [] (locals.take i)) i d=[_,_,_,_]:=rfl;obtain⟨name,word,at_⟩:=d;conv=>whnf
   refine aa.pure _ (k41 name) rfl rfl ?_;conv=>whnf
   refine aa.pure _ (k57 1 (!nameB name)) rfl rfl ?_;conv=>whnf
   rw[fD];conv=>whnf
   rw[fD];conv=>whnf
   refine aa.pure _ (k57 2 _) rfl rfl ?_;conv=>whnf
   refine aa.pure _ (k57 3 _) rfl rfl ?_;conv=>whnf
   refine aa.pure _ (k57 4 _) rfl rfl ?_;conv=>whnf
   cases hb:decide (leastW (localRules (aboveM p) (ones [] (locals.take i)) i ⟨name,word,at_⟩) 0 > 0) with
   |true=>
    rw[hb] at hf;have hE:threadW p top ⟨tname,locals,body,tat⟩=some ⟨at_,leastW (localRules (aboveM p) (ones [] (locals.take i)) i ⟨name,word,at_⟩) 0⟩:=by unfold threadW;rw[hf];rfl
    rw[hE];refine aa.gen [] [41] _ _ _ _ (k56 at_ _ true hb) rfl rfl rfl rfl aut aut rfl rfl ?_;conv=>whnf
    refine⟨JR,JR,?_⟩;conv=>whnf
    exact⟨[0,1,2],rfl,rfl,⟨rfl,Or.inl rfl,Or.inl rfl,J0⟩,J0⟩
   |false=>
    rw[hb] at hf;have hf:localsW (aboveM p) locals 0 []=localsW (aboveM p) (locals.drop (i+1)) (i+1) (ones [] (locals.take (i+1))):=by rw[hM];exact hf
    refine aa.gen [] [41] _ _ _ _ (k56 at_ _ false hb) rfl rfl rfl rfl aut aut rfl rfl ?_;conv=>whnf
    refine drT ?_;conv=>whnf
    refine drT ?_;conv=>whnf
    exact⟨i+1,[0,1,2,3,4,5],[],Sub.mk' rfl aut ⟨aut,aut,aut,⟨rfl,by rw[hM];exact fI _ (.ks name) 1⟩,aut⟩ rfl rfl,⟨hlt,hf⟩,JQ⟩
  ·have hge:locals.length<=i:=by rw[ad] at hge;simpa using hge
   rw[GK hge] at hf;have hf:localsW (aboveM p) locals 0 []=none:=hf;rw[vG hge];have hE:threadW p top ⟨tname,locals,body,tat⟩=blockW top (ones [] locals) body 1:=by unfold threadW;rw[hf]
   rw[hE];conv=>whnf
   refine exT ?_;have hbd:=(Bh p top (ones [] locals) (SizeOf.sizeOf body+1)).2 body 1 JQ;cases ho:blockW top (ones [] locals) body 1 with
   |some f=>
    rw[ho] at hbd;refine aa.au [0,1,3] [] (hbd) ?_;intro _;conv=>whnf
    exact⟨[0,1,2],rfl,rfl,⟨rfl,Or.inl rfl,Or.inl rfl,J0⟩,J0⟩
   |none=>
    rw[ho] at hbd;refine aa.au [0,1,3] [] (hbd) ?_;intro _;conv=>whnf
    exact⟨[0,1,2,3],rfl,rfl,J0,aut⟩
end Go.Proofs.YtapmdfcmpglieaaGreatDoor.am
set_option maxRecDepth 100000
set_option maxHeartbeats 4000000
namespace Go.Proofs.YtapmdfcmpglieaaGreatDoor.am
open Go Go.Proofs
abbrev A5(a b:Int):Blk:=.cells 54 [.tr (ti a),.tr (ti b)]
theorem rY(a b:Int)(c:Bool)(at_ rule:Int):tH Tryz.prog 140 true [.ptr 0 0,.ptr 1 0] (brk at_ rule) [A5 a b,.cells 4 [.tr (tb c)]] [some (A5 at_ rule),some (.cells 4 [.tr (tb true)])]:=by
 refine tH.of hT hmix Tryz.func140 rfl (fun _ _=>JR) rfl rfl rfl rfl rfl rfl rfl (fun h=>by cases h) [] ?_;conv=>whnf
 exact⟨J0,aut⟩
theorem ED(a b:Int)(c:Bool):tH Tryz.prog 140 false [.ptr 0 0,.ptr 1 0] (.tr (.v .nilIface)) [A5 a b,.cells 4 [.tr (tb c)]] [some (A5 a b),some (.cells 4 [.tr (tb c)])]:=by
 refine tH.of hT hmix Tryz.func140 rfl (fun _ _=>JR) rfl rfl rfl rfl rfl rfl rfl (fun _=>rfl) [] ?_;conv=>whnf
 exact⟨J0,aut⟩
def topRules(seen:MI)(most:Int)(bad:Int->Bool)(i:Nat)(d:Decl):List Int:=
 [whenI 1 (!nameB d.name),whenI 2 (decide (mgetI seen (.ks d.name) > 0)),whenI 3 ((i:Int)==most),whenI 4 (bad d.word)]
def topsW(most:Int)(bad:Int->Bool):List Decl->Nat->MI->Option Flt
 |[],_,_=>none
 |d::l,i,M=>bif decide (leastW (topRules M most bad i d) 0 > 0) then some ⟨d.at_,leastW (topRules M most bad i d) 0⟩ else topsW most bad l (i+1) (ce M (.ks d.name) 1)
theorem rJ{most:Int}{bad:Int->Bool}{M:MI}{l:List Decl}{i:Nat}{d:Decl}(h:l[i]?=some d):
  topsW most bad (l.drop i) i M=bif decide (leastW (topRules M most bad i d) 0 > 0) then some ⟨d.at_,leastW (topRules M most bad i d) 0⟩ else topsW most bad (l.drop (i+1)) (i+1) (ce M (.ks d.name) 1):=by
 rw[aG h];rfl
def thRules(seen:MI)(i:Nat)(t:Thread):List Int:=[whenI 1 (!nameB t.name),whenI 2 (decide (mgetI seen (.ks t.name) > 0)),whenI 3 ((i:Int)==8)]
def ph(p:Prg)(top:MI):List Thread->Nat->MI->Option Flt
 |[],_,_=>none
 |t::l,i,M=>bif decide (leastW (thRules M i t) 0 > 0) then some ⟨t.at_,leastW (thRules M i t) 0⟩ else match threadW p top t with
  |some f=>some f
  |none=>ph p top l (i+1) (ce M (.ks t.name) 1)
theorem tR{p:Prg}{top M:MI}{l:List Thread}{i:Nat}{t:Thread}(h:l[i]?=some t):
  ph p top (l.drop i) i M=bif decide (leastW (thRules M i t) 0 > 0) then some ⟨t.at_,leastW (thRules M i t) 0⟩ else match threadW p top t with
  |some f=>some f
  |none=>ph p top (l.drop (i+1)) (i+1) (ce M (.ks t.name) 1):=by
 rw[aG h];rfl
def onesT(M:MI)(l:List Thread):MI:=l.foldl (fun M d=>ce M (.ks d.name) 1) M
theorem rM{M:MI}{l:List Thread}{i:Nat}{d:Thread}(h:l[i]?=some d):onesT M (l.take (i+1))=ce (onesT M (l.take i)) (.ks d.name) 1:=by rw[aN h];simp[onesT]
def minW(w:Int):Bool:=w == -9223372036854775808
def anyW(w:Int):Bool:=w != 0
def firstW(p:Prg):Option Flt:=
 match topsW 64 minW p.shared 0 [] with
 |some f=>some f
 |none=>match topsW 16 anyW p.locks 0 (ones [] p.shared) with
  |some f=>some f
  |none=>ph p (topOf p) p.threads 0 (ones (ones [] p.shared) p.locks)
def FH:Option Flt->Flt|some f=>f|none=>⟨0,0⟩
abbrev yW(p:Prg)(a:AV):Blk:=.cells 236 [.tr (ae p.shared),.tr (ae p.locks),.tr (aA p.threads),.mp 4,a]
theorem k29(p:Prg):K 96 [p.av] [] (.ret (.tup [Flt.av (FH (firstW p)),.tr (tb (firstW p).isSome)])) []:=by
 refine Ctr.guard [] hT hmix Tryz.func96 rfl (fun _ _=>JR) rfl rfl rfl rfl rfl rfl rfl fun hok=>?_;have hl0:=((hok.slot 0 rfl).agg _ (.head _)).tr.lst.2.1;have hl1:=((hok.slot 0 rfl).agg _ (.tail _ (.head _))).tr.lst.2.1;have hl2:=((hok.slot 0 rfl).agg _ (.tail _ (.tail _ (.head _)))).tr.lst.2.1;rw[ad] at hl0 hl1 hl2;clear hok;conv=>whnf
 refine⟨rfl,rfl,_,rfl,?_⟩;conv=>whnf
 refine aa.new [] [] _ _ _ _ (k55 p) rfl rfl rfl rfl aut aut rfl rfl ?_;conv=>whnf
 refine drT ?_;conv=>whnf
 refine aq.by (fun i:Nat=>⟨[(1,.ptr 0 0),(2,.ptr 1 0),(3,.ptr 2 0),(4,.ptr 3 0),(5,.mp 5),(20,.tr (ae p.shared)),(21,.tr (ti (p.shared.map Decl.cells).length)),(22,.tr (ti i))],[(0,.cells 63 [.tr (ae p.shared),.tr (ae p.locks),.tr (aA p.threads)]),(1,A5 0 0),(2,.cells 4 [.tr (tb false)]),(3,yW p (.tr (.v (.map none)))),(4,.map .string (bG (topOf p))),(5,.map .string (bG (ones [] (p.shared.take i))))],6⟩)
  (fun i=>i<=p.shared.length/\topsW 64 minW p.shared 0 []=topsW 64 minW (p.shared.drop i) i (ones [] (p.shared.take i))) (fun i=>p.shared.length-i) 0 [0,1,2,7,5,9] [] Sub.au ⟨x5 _,rfl⟩ ?_
 rintro i ⟨hi,hf⟩ -
 have hi:i<=p.shared.length:=hi;conv=>whnf
 refine ah (fun hlt=>?_) (fun hge=>?_)
 ·have hlt:i<p.shared.length:=by rw[ad] at hlt;simpa using hlt
  conv=>whnf
  refine⟨rfl,JQ,by rw[ad];omega,fun row hrow=>?_⟩;obtain⟨d,hd,rfl⟩:=aC hrow
  replace hd:p.shared[i]?=some d:=hd
  rw[rJ hd] at hf;clear hrow;have hM:=ik (M:=[]) hd;obtain⟨name,word,at_⟩:=d;conv=>whnf
  refine aa.pure _ (k41 name) rfl rfl ?_;conv=>whnf
  refine aa.pure _ (k57 1 (!nameB name)) rfl rfl ?_;conv=>whnf
  rw[fD];conv=>whnf
  refine aa.pure _ (k57 2 _) rfl rfl ?_;conv=>whnf
  refine aa.pure _ (k57 3 _) rfl rfl ?_;conv=>whnf
  refine aa.pure _ (k57 4 _) rfl rfl ?_;conv=>whnf
  cases hb:decide (leastW (topRules (ones [] (p.shared.take i)) 64 minW i ⟨name,word,at_⟩) 0 > 0) with
  |true=>
   rw[hb] at hf;have hE:firstW p=some ⟨at_,leastW (topRules (ones [] (p.shared.take i)) 64 minW i ⟨name,word,at_⟩) 0⟩:=by unfold firstW;rw[hf];rfl
   refine aa.gen [] [33] _ _ _ _ (k56 at_ _ true hb) rfl rfl rfl rfl aut aut rfl rfl ?_;rw[hE];conv=>whnf
   refine⟨JR,JR,?_⟩;conv=>whnf
   refine oe.by [1,2] [] (rY 0 0 false at_ _) rfl rfl rfl rfl aut aut rfl [] rfl rfl ?_;conv=>whnf
   exact⟨⟨⟨Or.inl rfl,Or.inl rfl,J0⟩,Or.inl rfl,J0⟩,J0⟩
  |false=>
   rw[hb] at hf;have hf:topsW 64 minW p.shared 0 []=topsW 64 minW (p.shared.drop (i+1)) (i+1) (ones [] (p.shared.take (i+1))):=by rw[hM];exact hf
   refine aa.gen [] [33] _ _ _ _ (k56 at_ _ false hb) rfl rfl rfl rfl aut aut rfl rfl ?_;conv=>whnf
   refine drT ?_;conv=>whnf
   exact⟨i+1,[0,1,2,3,4,5],[],Sub.mk' rfl aut ⟨aut,aut,aut,aut,aut,⟨rfl,by rw[hM];exact fI _ (.ks name) 1⟩,J0⟩ rfl rfl,⟨hlt,hf⟩,JQ⟩
 have hge:p.shared.length<=i:=by rw[ad] at hge;simpa using hge
 rw[GK hge] at hf;have f1:topsW 64 minW p.shared 0 []=none:=hf;clear hf;rw[vG hge];conv=>whnf
 refine exT ?_;conv=>whnf
 refine aq.by (fun i:Nat=>⟨[(1,.ptr 0 0),(2,.ptr 1 0),(3,.ptr 2 0),(4,.ptr 3 0),(5,.mp 5),(54,.tr (ae p.locks)),(55,.tr (ti (p.locks.map Decl.cells).length)),(56,.tr (ti i))],[(0,.cells 63 [.tr (ae p.shared),.tr (ae p.locks),.tr (aA p.threads)]),(1,A5 0 0),(2,.cells 4 [.tr (tb false)]),(3,yW p (.tr (.v (.map none)))),(4,.map .string (bG (topOf p))),(5,.map .string (bG (ones (ones [] p.shared) (p.locks.take i))))],6⟩)
  (fun i=>i<=p.locks.length/\topsW 16 anyW p.locks 0 (ones [] p.shared)=topsW 16 anyW (p.locks.drop i) i (ones (ones [] p.shared) (p.locks.take i))) (fun i=>p.locks.length-i) 0 [0,1,2,3,4,5] [] Sub.au ⟨x5 _,rfl⟩ ?_
 rintro i ⟨hi,hf⟩ -
 have hi:i<=p.locks.length:=hi;conv=>whnf
 refine ah (fun hlt=>?_) (fun hge=>?_)
 ·have hlt:i<p.locks.length:=by rw[ad] at hlt;simpa using hlt
  conv=>whnf
  refine⟨rfl,JQ,by rw[ad];omega,fun row hrow=>?_⟩;obtain⟨d,hd,rfl⟩:=aC hrow
  replace hd:p.locks[i]?=some d:=hd
  rw[rJ hd] at hf;clear hrow;have hM:=ik (M:=(ones [] p.shared)) hd;obtain⟨name,word,at_⟩:=d;conv=>whnf
  refine aa.pure _ (k41 name) rfl rfl ?_;conv=>whnf
  refine aa.pure _ (k57 1 (!nameB name)) rfl rfl ?_;conv=>whnf
  rw[fD];conv=>whnf
  refine aa.pure _ (k57 2 _) rfl rfl ?_;conv=>whnf
  refine aa.pure _ (k57 3 _) rfl rfl ?_;conv=>whnf
  refine aa.pure _ (k57 4 _) rfl rfl ?_;conv=>whnf
  cases hb:decide (leastW (topRules (ones (ones [] p.shared) (p.locks.take i)) 16 anyW i ⟨name,word,at_⟩) 0 > 0) with
  |true=>
   rw[hb] at hf;have hE:firstW p=some ⟨at_,leastW (topRules (ones (ones [] p.shared) (p.locks.take i)) 16 anyW i ⟨name,word,at_⟩) 0⟩:=by unfold firstW;rw[f1,hf];rfl
   refine aa.gen [] [33] _ _ _ _ (k56 at_ _ true hb) rfl rfl rfl rfl aut aut rfl rfl ?_;rw[hE];conv=>whnf
   refine⟨JR,JR,?_⟩;conv=>whnf
   refine oe.by [1,2] [] (rY 0 0 false at_ _) rfl rfl rfl rfl aut aut rfl [] rfl rfl ?_;conv=>whnf
   exact⟨⟨⟨Or.inl rfl,Or.inl rfl,J0⟩,Or.inl rfl,J0⟩,J0⟩
  |false=>
   rw[hb] at hf;have hf:topsW 16 anyW p.locks 0 (ones [] p.shared)=topsW 16 anyW (p.locks.drop (i+1)) (i+1) (ones (ones [] p.shared) (p.locks.take (i+1))):=by rw[hM];exact hf
   refine aa.gen [] [33] _ _ _ _ (k56 at_ _ false hb) rfl rfl rfl rfl aut aut rfl rfl ?_;conv=>whnf
   refine drT ?_;conv=>whnf
   exact⟨i+1,[0,1,2,3,4,5],[],Sub.mk' rfl aut ⟨aut,aut,aut,aut,aut,⟨rfl,by rw[hM];exact fI _ (.ks name) 1⟩,J0⟩ rfl rfl,⟨hlt,hf⟩,JQ⟩
 have hge:p.locks.length<=i:=by rw[ad] at hge;simpa using hge
 rw[GK hge] at hf;have f2:topsW 16 anyW p.locks 0 (ones [] p.shared)=none:=hf;clear hf;rw[vG hge];conv=>whnf
 refine exT ?_;conv=>whnf
 refine aq.by (fun x:Option (Nat×MI)=>match x with
   |none=>⟨[(1,.ptr 0 0),(2,.ptr 1 0),(3,.ptr 2 0),(4,.ptr 3 0),(5,.mp 5),(88,.tr (aA p.threads)),(89,.tr (ti (p.threads.map Thread.cells).length)),(90,.tr (ti (0:Nat)))],[(0,.cells 63 [.tr (ae p.shared),.tr (ae p.locks),.tr (aA p.threads)]),(1,A5 0 0),(2,.cells 4 [.tr (tb false)]),(3,yW p (.tr (.v (.map none)))),(4,.map .string (bG (topOf p))),(5,.map .string (bG (onesT (ones (ones [] p.shared) p.locks) (p.threads.take 0))))],6⟩
   |some (i,M0)=>⟨[(1,.ptr 0 0),(2,.ptr 1 0),(3,.ptr 2 0),(4,.ptr 3 0),(5,.mp 5),(88,.tr (aA p.threads)),(89,.tr (ti (p.threads.map Thread.cells).length)),(90,.tr (ti i))],[(0,.cells 63 [.tr (ae p.shared),.tr (ae p.locks),.tr (aA p.threads)]),(1,A5 0 0),(2,.cells 4 [.tr (tb false)]),(3,yW p (.mp 6)),(4,.map .string (bG (topOf p))),(5,.map .string (bG (onesT (ones (ones [] p.shared) p.locks) (p.threads.take i)))),(6,.map .string (bG M0))],7⟩)
  (fun x=>let i:=(x.map (·.1)).getD 0;i<=p.threads.length/\firstW p=ph p (topOf p) (p.threads.drop i) i (onesT (ones (ones [] p.shared) p.locks) (p.threads.take i))) (fun x=>p.threads.length-(x.map (·.1)).getD 0) none [0,1,2,3,4,5] [] Sub.au ⟨x5 _,by unfold firstW;rw[f1,f2];rfl⟩ ?_
 rintro x ⟨hi,hf⟩ -
 cases x with
 |none=>
  have hi:0<=p.threads.length:=hi;have hf:firstW p=ph p (topOf p) (p.threads.drop 0) 0 (onesT (ones (ones [] p.shared) p.locks) (p.threads.take 0)):=hf;conv=>whnf
  refine ah (fun hlt=>?_) (fun hge=>?_)
  ·have hlt:0<p.threads.length:=by rw[ad] at hlt;have:=of_decide_eq_true hlt;omega
   conv=>whnf
   refine⟨rfl,JQ,by rw[ad];omega,fun row hrow=>?_⟩;obtain⟨t,hd,rfl⟩:=aC hrow
   replace hd:p.threads[0]?=some t:=hd
   rw[tR hd] at hf;clear hrow;have hM:=rM (M:=(ones (ones [] p.shared) p.locks)) hd;obtain⟨name,locals,body,at_⟩:=t;conv=>whnf
   refine aa.pure _ (k41 name) rfl rfl ?_;conv=>whnf
   refine aa.pure _ (k57 1 (!nameB name)) rfl rfl ?_;conv=>whnf
   rw[fD];conv=>whnf
   refine aa.pure _ (k57 2 _) rfl rfl ?_;conv=>whnf
   refine aa.pure _ (k57 3 _) rfl rfl ?_;conv=>whnf
   cases hb:decide (leastW (thRules (onesT (ones (ones [] p.shared) p.locks) (p.threads.take 0)) 0 ⟨name,locals,body,at_⟩) 0 > 0) with
   |true=>
    rw[hb] at hf;have hE:firstW p=some ⟨at_,leastW (thRules (onesT (ones (ones [] p.shared) p.locks) (p.threads.take 0)) 0 ⟨name,locals,body,at_⟩) 0⟩:=hf;refine aa.gen [] [29] _ _ _ _ (k56 at_ _ true hb) rfl rfl rfl rfl aut aut rfl rfl ?_;rw[hE];conv=>whnf
    refine⟨JR,JR,?_⟩;conv=>whnf
    refine oe.by [1,2] [] (rY 0 0 false at_ _) rfl rfl rfl rfl aut aut rfl [] rfl rfl ?_;conv=>whnf
    exact⟨⟨⟨Or.inl rfl,Or.inl rfl,J0⟩,Or.inl rfl,J0⟩,J0⟩
   |false=>
    rw[hb] at hf;refine aa.gen [] [29] _ _ _ _ (k56 at_ _ false hb) rfl rfl rfl rfl aut aut rfl rfl ?_;conv=>whnf
    refine drT ?_;conv=>whnf
    have hth:=Ga p (topOf p) ⟨name,locals,body,at_⟩;cases ho:threadW p (topOf p) ⟨name,locals,body,at_⟩ with
    |some f=>
     rw[ho] at hth hf;have hE:firstW p=some f:=hf;refine aa.gen [3,4] [] _ _ _ _ hth rfl rfl rfl rfl aut ⟨aut,JY,J0⟩ rfl rfl fun _=>?_;rw[hE];conv=>whnf
     refine oe.by [1,2] [] (rY 0 0 false f.at_ f.rule) rfl rfl rfl rfl aut aut rfl [] rfl rfl ?_;conv=>whnf
     exact⟨⟨⟨Or.inl rfl,Or.inl rfl,J0⟩,Or.inl rfl,J0⟩,J0⟩
    |none=>
     rw[ho] at hth hf;refine aa.new [3,4] [] _ _ _ _ hth rfl rfl rfl rfl aut ⟨aut,JY,J0⟩ rfl rfl fun _=>?_;conv=>whnf
     exact⟨some (0+1,ones [] locals),[0,1,2,3,4,5,37],[],Sub.mk' rfl aut ⟨aut,aut,aut,aut,aut,⟨rfl,by rw[hM];exact fI _ (.ks name) 1⟩,aut⟩ rfl rfl,⟨hlt,by show firstW p=ph p (topOf p) (p.threads.drop (0+1)) (0+1) (onesT (ones (ones [] p.shared) p.locks) (p.threads.take (0+1)));rw[hM];exact hf⟩,by show p.threads.length-(0+1)<p.threads.length-0;omega⟩
  ·have hge:p.threads.length<=0:=by rw[ad] at hge;have:=ud hge;omega
   rw[GK hge] at hf;have hE:firstW p=none:=hf;rw[hE];conv=>whnf
   refine exT ?_;conv=>whnf
   refine oe.by [1,2] [] (ED 0 0 false) rfl rfl rfl rfl aut aut rfl [] rfl rfl ?_;conv=>whnf
   exact⟨⟨⟨Or.inl rfl,Or.inl rfl,J0⟩,Or.inl rfl,J0⟩,J0⟩
 |some x=>
  obtain⟨i,M0⟩:=x;have hi:i<=p.threads.length:=hi;have hf:firstW p=ph p (topOf p) (p.threads.drop i) i (onesT (ones (ones [] p.shared) p.locks) (p.threads.take i)):=hf;conv=>whnf
  refine ah (fun hlt=>?_) (fun hge=>?_)
  ·have hlt:i<p.threads.length:=by rw[ad] at hlt;have:=of_decide_eq_true hlt;omega
   conv=>whnf
   refine⟨rfl,JQ,by rw[ad];omega,fun row hrow=>?_⟩;obtain⟨t,hd,rfl⟩:=aC hrow
   replace hd:p.threads[i]?=some t:=hd
   rw[tR hd] at hf;clear hrow;have hM:=rM (M:=(ones (ones [] p.shared) p.locks)) hd;obtain⟨name,locals,body,at_⟩:=t;conv=>whnf
   refine aa.pure _ (k41 name) rfl rfl ?_;conv=>whnf
   refine aa.pure _ (k57 1 (!nameB name)) rfl rfl ?_;conv=>whnf
   rw[fD];conv=>whnf
   refine aa.pure _ (k57 2 _) rfl rfl ?_;conv=>whnf
   refine aa.pure _ (k57 3 _) rfl rfl ?_;conv=>whnf
   cases hb:decide (leastW (thRules (onesT (ones (ones [] p.shared) p.locks) (p.threads.take i)) i ⟨name,locals,body,at_⟩) 0 > 0) with
   |true=>
    rw[hb] at hf;have hE:firstW p=some ⟨at_,leastW (thRules (onesT (ones (ones [] p.shared) p.locks) (p.threads.take i)) i ⟨name,locals,body,at_⟩) 0⟩:=hf;refine aa.gen [] [30] _ _ _ _ (k56 at_ _ true hb) rfl rfl rfl rfl aut aut rfl rfl ?_;rw[hE];conv=>whnf
    refine⟨JR,JR,?_⟩;conv=>whnf
    refine oe.by [1,2] [] (rY 0 0 false at_ _) rfl rfl rfl rfl aut aut rfl [] rfl rfl ?_;conv=>whnf
    exact⟨⟨⟨Or.inl rfl,Or.inl rfl,J0⟩,Or.inl rfl,J0⟩,J0⟩
   |false=>
    rw[hb] at hf;refine aa.gen [] [30] _ _ _ _ (k56 at_ _ false hb) rfl rfl rfl rfl aut aut rfl rfl ?_;conv=>whnf
    refine drT ?_;conv=>whnf
    have hth:=Gs p (topOf p) M0 ⟨name,locals,body,at_⟩;cases ho:threadW p (topOf p) ⟨name,locals,body,at_⟩ with
    |some f=>
     rw[ho] at hth hf;have hE:firstW p=some f:=hf;refine aa.gen [3,4,6] [] _ _ _ _ hth rfl rfl rfl rfl aut ⟨aut,JY,JY,J0⟩ rfl rfl fun _=>?_;rw[hE];conv=>whnf
     refine oe.by [1,2] [] (rY 0 0 false f.at_ f.rule) rfl rfl rfl rfl aut aut rfl [] rfl rfl ?_;conv=>whnf
     exact⟨⟨⟨Or.inl rfl,Or.inl rfl,J0⟩,Or.inl rfl,J0⟩,J0⟩
    |none=>
     rw[ho] at hth hf;refine aa.new [3,4,6] [] _ _ _ _ hth rfl rfl rfl rfl aut ⟨aut,JY,JY,J0⟩ rfl rfl fun _=>?_;conv=>whnf
     exact⟨some (i+1,ones [] locals),[0,1,2,3,4,5,38],[],Sub.mk' rfl aut ⟨aut,aut,aut,aut,aut,⟨rfl,by rw[hM];exact fI _ (.ks name) 1⟩,aut⟩ rfl rfl,⟨hlt,by show firstW p=ph p (topOf p) (p.threads.drop (i+1)) (i+1) (onesT (ones (ones [] p.shared) p.locks) (p.threads.take (i+1)));rw[hM];exact hf⟩,by show p.threads.length-(i+1)<p.threads.length-i;omega⟩
  ·have hge:p.threads.length<=i:=by rw[ad] at hge;have:=ud hge;omega
   rw[GK hge] at hf;have hE:firstW p=none:=hf;rw[hE];conv=>whnf
   refine exT ?_;conv=>whnf
   refine oe.by [1,2] [] (ED 0 0 false) rfl rfl rfl rfl aut aut rfl [] rfl rfl ?_;conv=>whnf
   exact⟨⟨⟨Or.inl rfl,Or.inl rfl,J0⟩,Or.inl rfl,J0⟩,J0⟩
def checkW(p:Prg):Int×Flt:=match firstW p with
 |some f=>(50,f)
 |none=>(0,⟨0,0⟩)
theorem k10(p:Prg):K 40 [p.av] [] (.ret (.tup [.tr (ti (checkW p).1),Flt.av (checkW p).2])) []:=by
 refine Ctr.of hT hmix Tryz.func40 rfl (fun _ _=>JR) rfl fun hok=>?_;clear hok;have hk:=k29 p;unfold checkW;cases hE:firstW p with
 |some f=>
  rw[hE] at hk;conv=>whnf
  refine aa.pure _ (hk) rfl rfl fun _=>?_;conv=>whnf
  refine drT ?_;conv=>whnf
  exact⟨⟨Or.inl rfl,⟨Or.inl rfl,Or.inl rfl,J0⟩,J0⟩,J0⟩
 |none=>
  rw[hE] at hk;conv=>whnf
  refine aa.pure _ (hk) rfl rfl fun _=>?_;conv=>whnf
  exact⟨⟨Or.inl rfl,⟨Or.inl rfl,Or.inl rfl,J0⟩,J0⟩,J0⟩
end Go.Proofs.YtapmdfcmpglieaaGreatDoor.am
set_option maxRecDepth 100000
set_option maxHeartbeats 4000000
namespace Go.Proofs.YtapmdfcmpglieaaGreatDoor.am
open Go Go.Proofs
abbrev Eh(s:ByteArray):Blk:=.cells 9 [.tr (ts s)]
theorem k68(d:Decl)(name:ByteArray):K 173 [d.av,.ptr 0 0] [Eh name] (.ret (.tr (tb (seq d.name name)))) [some (Eh name)]:=by
 refine Ctr.of hT hmix Tryz.func173 rfl (fun _ _=>JR) rfl fun hok=>?_;clear hok;obtain⟨n,w,a⟩:=d;conv=>whnf
 exact⟨Or.inl rfl,aut⟩
theorem k67(l:List Decl)(name:ByteArray):K 172 [.tr (ae l),.fn 173 [.ptr 0 0]] [Eh name] (.ret (.tr (ti (findI l name 0)))) [some (Eh name)]:=by
 refine Ctr.of hT hmix Tryz.func172 rfl (fun _ _=>JR) rfl fun hok=>?_;have hl:=(hok.slot 0 rfl).tr.lst.2.1;rw[ad] at hl;clear hok;conv=>whnf
 refine aq.by (fun i:Nat=>⟨[(0,.tr (ae l)),(1,.fn 173 [.ptr 0 0]),(7,.tr (ti (l.map Decl.cells).length)),(8,.tr (ti i))],[(0,Eh name)],1⟩)
  (fun i=>i<=l.length/\findI l name 0=findI (l.drop i) name i) (fun i=>l.length-i) 0 [0] [] Sub.au ⟨x5 _,rfl⟩ ?_
 rintro i ⟨hi,hf⟩ -
 conv=>whnf
 refine ah (fun hlt=>?_) (fun hge=>?_)
 ·have hlt:i<l.length:=by rw[ad] at hlt;simpa using hlt
  conv=>whnf
  refine⟨rfl,JQ,by rw[ad];omega,fun row hrow=>?_⟩;obtain⟨d,hd,rfl⟩:=aC hrow
  replace hd:l[i]?=some d:=hd
  rw[zK hd] at hf;clear hrow;obtain⟨n,w,a⟩:=d;conv=>whnf
  refine aa.gen [0] [] _ _ _ _ (k68 ⟨n,w,a⟩ name) rfl rfl rfl rfl aut aut rfl rfl fun _=>?_;conv=>whnf
  refine ah (fun h1=>?_) (fun h1=>?_)
  ·conv=>whnf
   have h1:seq n name=true:=h1;exact⟨Or.inl (E8 ti (by rw[hf,Gw h1])),aut⟩
  ·conv=>whnf
   have h1:¬ seq n name=true:=by rw[show seq n name=false from h1];simp
   exact⟨i+1,[0],[],Sub.au,⟨hlt,by rw[hf,GN h1]⟩,JQ⟩
 ·have hge:l.length<=i:=by rw[ad] at hge;simpa using hge
  rw[GK hge] at hf;conv=>whnf
  refine exT ?_;conv=>whnf
  exact⟨Or.inl (E8 ti (by rw[hf];rfl)),aut⟩
theorem k38(l:List Decl)(name:ByteArray):K 163 [.tr (ae l),.tr (ts name)] [] (.ret (.tr (ti (findI l name 0)))) []:=by
 refine Ctr.of hT hmix Tryz.func163 rfl (fun _ _=>JR) rfl fun hok=>?_;clear hok;conv=>whnf
 refine aa.gen [0] [] _ _ _ _ (k67 l name) rfl rfl rfl rfl aut aut rfl rfl fun _=>?_;conv=>whnf
 exact⟨Or.inl rfl,J0⟩
theorem k16(p:Prg)(name:ByteArray):K 147 [p.av,.tr (ts name)] [] (.ret (.tr (ti (findI p.shared name 0)))) []:=by
 refine Ctr.of hT hmix Tryz.func147 rfl (fun _ _=>JR) rfl fun hok=>?_;clear hok;conv=>whnf
 refine aa.pure _ (k38 p.shared name) rfl rfl fun _=>?_;conv=>whnf
 exact⟨Or.inl rfl,J0⟩
theorem k20(p:Prg)(t:Int)(name:ByteArray):K 148 [p.av,.tr (ti t),.tr (ts name)] [] (.ret (.tr (ti (localI p t name)))) []:=by
 refine Ctr.of hT hmix Tryz.func148 rfl (fun _ _=>JR) rfl fun hok=>?_;have hl:=((hok.slot 0 rfl).agg _ (.tail _ (.tail _ (.head _)))).tr.lst.2.1;rw[ad] at hl;clear hok;conv=>whnf
 refine ah (fun h1=>?_) (fun h1=>?_)
 ·conv=>whnf
  have h1:t<0:=of_decide_eq_true h1;exact⟨Or.inl (E8 ti (by unfold localI;rw[Gw h1])),J0⟩
 have h1:¬ t<0:=ud h1;conv=>whnf
 refine ah (fun h2=>?_) (fun h2=>?_)
 ·conv=>whnf
  have h2:(p.threads.length:Int)<=t:=by have:=of_decide_eq_true h2;rw[ad] at this;exact this
  have:p.threads[t.toNat]?=none:=yB JQ;exact⟨Or.inl (E8 ti (by unfold localI;rw[GN h1,this])),J0⟩
 have h2:¬ (p.threads.length:Int)<=t:=by have:=ud h2;rw[ad] at this;exact this
 conv=>whnf
 refine⟨rfl,JQ,by rw[ad];omega,fun row hrow=>?_⟩;obtain⟨d,hd,rfl⟩:=aC hrow;clear hrow;have hE:localI p t name=findI d.locals name 0:=by unfold localI;rw[GN h1,hd]
 obtain⟨n,ls,b,a⟩:=d;conv=>whnf
 refine aa.pure _ (k38 ls name) rfl rfl fun _=>?_;conv=>whnf
 exact⟨Or.inl (E8 ti (by rw[hE])),J0⟩
end Go.Proofs.YtapmdfcmpglieaaGreatDoor.am
set_option maxRecDepth 100000
set_option maxHeartbeats 4000000
namespace Go.Proofs.YtapmdfcmpglieaaGreatDoor.am
open Go Go.Proofs
theorem k18(p:Prg)(name:ByteArray):K 152 [p.av,.tr (ts name)] [] (.ret (.tr (ti (findI p.locks name 0)))) []:=by
 refine Ctr.of hT hmix Tryz.func152 rfl (fun _ _=>JR) rfl fun hok=>?_;clear hok;conv=>whnf
 refine aa.pure _ (k38 p.locks name) rfl rfl fun _=>?_;conv=>whnf
 exact⟨Or.inl rfl,J0⟩
end Go.Proofs.YtapmdfcmpglieaaGreatDoor.am
set_option maxRecDepth 100000
set_option maxHeartbeats 4000000
namespace Go.Proofs.YtapmdfcmpglieaaGreatDoor.am
open Go Go.Proofs
structure Val where
 s:Bool
 k:Int
 w:Int
structure Nd where
 kind:Int
 op:Int
 slot:Int
 thing:Int
 a:Val
 b:Val
 next:Int
 els:Int
 origin:Int
structure Gr where
 name:ByteArray
 locals:Int
 slots:Int
 nodes:List Nd
def Nd.cells(n:Nd):List Tr:=[tu n.kind,tu n.op,ti n.slot,ti n.thing,tb n.a.s,ti n.a.k,ti n.a.w,tb n.b.s,ti n.b.k,ti n.b.w,ti n.next,ti n.els,ti n.origin]
def Nd.av(n:Nd):AV:=.agg (n.cells.map .tr)
abbrev aO(l:List Nd):Tr:=.lst 13 96 (l.map Nd.cells)
def Gr.cells(g:Gr):List Tr:=[ts g.name,ti g.locals,ti g.slots,aO g.nodes]
def Gr.av(g:Gr):AV:=.agg (g.cells.map .tr)
abbrev a8(l:List Nat):Tr:=az (l.map fun(x:Nat)=>(x:Int))
def folI(n:Nd):List Int:=bif n.kind==9 then[] else bif n.kind==8&&n.els != n.next then[n.next,n.els] else[n.next]
def fol(g:Gr)(x:Nat):List Nat:=match g.nodes[x]? with|some n=>(folI n).map Int.toNat|none=>[]
def gH(N:Int)(n:Nd):Bool:=!(n.kind==0||decide (n.kind>=10))&&(folI n).all fun k=>!(decide (k<0)||decide (k>=N))
def cm(g:Gr):Bool:=bif decide ((g.nodes.length:Int)<1)||decide ((g.nodes.length:Int) > 4096) then false else g.nodes.all (gH g.nodes.length)
theorem qL(n:Nd):(folI n).length<=2:=by unfold folI;cases (n.kind==9)<;>cases (n.kind==8&&n.els != n.next)<;>exact oo rfl
structure Whole(g:Gr):Prop where
 pos:0<g.nodes.length
 most:g.nodes.length<=4096
 kind:∀n∈g.nodes,n.kind≠0/\n.kind<10
 fol:∀(x:Nat) n,g.nodes[x]?=some n->folI n=(fol g x).map fun(x:Nat)=>(x:Int)
 lt:∀a,∀b∈am.fol g a,b<g.nodes.length
 len:∀a,(am.fol g a).length<=2
 nd:∀a,(am.fol g a).Nodup
theorem aT{g:Gr}(h:cm g=true):Whole g:=by
 unfold cm at h;cases hc:(decide ((g.nodes.length:Int)<1)||decide ((g.nodes.length:Int) > 4096)) with
 |true=>rw[hc] at h;cases h
 |false=>
  rw[hc,lh] at h;simp only[G8,IN] at hc;have hn:=fun n hn=>GQ.1 h n hn;have hk:∀n∈g.nodes,(n.kind≠0/\n.kind<10)/\∀k∈folI n,0<=k/\k<(g.nodes.length:Int):=fun n hm=>by have:=hn n hm;unfold gH at this;simp only[t4,Ha,G8,IN,GQ] at this;refine⟨⟨by simpa using this.1.1,JQ⟩,fun k hk=>?_⟩;have:=this.2 k hk;omega
  have hf:∀(x:Nat) n,g.nodes[x]?=some n->folI n=(fol g x).map fun(x:Nat)=>(x:Int):=fun x n hx=>by
   have hm:=i3 hx;unfold fol;rw[hx];simp only[Jh];conv=>lhs;rw[<-List.map_id (folI n)]
   refine Hv fun k hk'=>?_;have:=(hk n hm).2 k hk';show k=((k.toNat:Nat):Int);omega
  have hlen:∀a,(fol g a).length<=2:=fun a=>by
   unfold fol;split;·rw[ad];exact qL _
   ·exact x5 _
  refine⟨JQ,JQ,fun n hm=>(hk n hm).1,hf,fun a b hb=>?_,hlen,fun a=>?_⟩
  ·cases hx:g.nodes[a]? with
   |none=>unfold fol at hb;rw[hx] at hb;cases hb
   |some n=>
    have hm:=i3 hx;have:((b:Nat):Int)∈folI n:=by rw[hf a n hx];exact GM.2 ⟨b,hb,rfl⟩
    have:=(hk n hm).2 _ this;omega
  ·unfold fol;split
   ·rename_i n hx;have hm:=i3 hx;have hr:=(hk n hm).2;unfold folI at hr |-
    cases h1:(n.kind==9)
    ·cases h2:(n.kind==8&&n.els != n.next);·simp
     ·rw[h1,h2] at hr;have a1:=hr n.next JX;have a2:=hr n.els JX;have:n.els≠n.next:=by
       rw[t4] at h2;simpa using h2.2
      simp only[lh,r7,GO,Kg,II,F5,Hr,Is,Jt,IT,Ka];omega
    ·simp
   ·exact IT
theorem eJ(n:Nd):K 111 [n.av] [] (.ret (.tr (az (folI n)))) []:=by
 refine Ctr.of hT hmix Tryz.func111 rfl (fun _ _=>JR) rfl fun hok=>?_;clear hok;obtain⟨kind,op,slot,thing,⟨sa,ka,wa⟩,⟨sb,kb,wb⟩,next,els,origin⟩:=n;generalize hr:folI _=R;unfold folI at hr;simp only at hr;conv=>whnf
 (repeat' (refine ah (fun h=>?_) (fun h=>?_)<;>(try dsimp only at h)<;>conv=>whnf))
 all_goals
  first
   |(exfalso;clear hr;simp_all;done)
   |(refine⟨⟨rfl,t9 _,?_⟩,trivial⟩;rw[<-hr];simp only[*,IH,GS,It,G9,r7,lh];rfl)
   |exact⟨.inr ⟨rfl,1,8,by rw[<-hr];simp only[*,IH,GS,It,G9,r7,lh];rfl⟩,trivial⟩
end Go.Proofs.YtapmdfcmpglieaaGreatDoor.am
set_option maxRecDepth 100000
set_option maxHeartbeats 4000000
namespace Go.Proofs.YtapmdfcmpglieaaGreatDoor.am
open Go Go.Proofs
theorem iq{l:List Nd}{i:Nat}{row:List Tr}(h:(l.map Nd.cells)[i]?=some row):∃d,l[i]?=some d/\row=d.cells:=by rw[z5,z9] at h;obtain⟨d,h1,rfl⟩:=h;exact⟨d,h1,rfl⟩
theorem eK{l:List Int}{i:Nat}{row:List Tr}(h:(l.map irow)[i]?=some row):∃d,l[i]?=some d/\row=[ti d]:=by rw[z5,z9] at h;obtain⟨d,h1,rfl⟩:=h;exact⟨d,h1,rfl⟩
theorem lX(g:Gr):K 58 [g.av] [] (.ret (.tr (tb (cm g)))) []:=by
 generalize hR:cm g=R;unfold cm at hR;obtain⟨name,locals,slots,nodes⟩:=g;simp only at hR;have hln:(nodes.map Nd.cells).length=nodes.length:=ad ..;refine Ctr.of hT hmix Tryz.func58 rfl (fun _ _=>JR) rfl fun hok=>?_;clear hok;by_cases hN:1<=nodes.length/\nodes.length<=4096
 case neg=>
  have hR:false=R:=by
   rw[<-hR];have:(decide ((nodes.length:Int)<1)||decide ((nodes.length:Int) > 4096))=true:=by
    rw[Ib];by_cases h:nodes.length<1;·exact .inl (GC JQ)
    ·exact .inr (GC JQ)
   rw[this];rfl
  subst hR;by_cases h:nodes.length<1
  ·have e1:decide (((nodes.map Nd.cells).length:Int)<1)=true:=by rw[hln];exact GC JQ
   conv=>whnf
   rw[e1];conv=>whnf
   exact aut
  ·have e1:decide (((nodes.map Nd.cells).length:Int)<1)=false:=by rw[hln];exact Gz JQ
   have e2:decide (((nodes.map Nd.cells).length:Int) > 4096)=true:=by rw[hln];exact GC JQ
   conv=>whnf
   rw[e1];conv=>whnf
   rw[e2];conv=>whnf
   exact aut
 have e1:decide (((nodes.map Nd.cells).length:Int)<1)=false:=by rw[hln];exact Gz JQ
 have e2:decide (((nodes.map Nd.cells).length:Int) > 4096)=false:=by rw[hln];exact Gz JQ
 have hR:nodes.all (gH nodes.length)=R:=by rw[<-hR,show decide ((nodes.length:Int)<1)=false by rw[<-hln];exact e1,show decide ((nodes.length:Int) > 4096)=false by rw[<-hln];exact e2];rfl
 conv=>whnf
 rw[e1];conv=>whnf
 rw[e2];conv=>whnf
 refine aq.by (fun i:Nat=>⟨[(1,.ptr 0 0),(18,.tr (aO nodes)),(19,.tr (ti nodes.length)),(20,.tr (ti i))],[(0,.cells 41 [.tr (ts name),.tr (ti locals),.tr (ti slots),.tr (aO nodes)])],10⟩) (fun i=>i<=nodes.length/\(nodes.drop i).all (gH nodes.length)=R) (fun i=>nodes.length-i) 0 [_] []
  (Sub.mk' rfl ⟨⟨rfl,rfl⟩,.inl rfl,.inl (by rw[<-hln]),.inl rfl,trivial⟩ ⟨⟨rfl,.inl rfl,.inl rfl,.inl rfl,.inl rfl,trivial⟩,trivial⟩ rfl rfl) ⟨x5 _,hR⟩ ?_
 clear hR;rintro i ⟨hi,hR⟩ -
 conv=>whnf
 refine ah (fun hlt=>?_) (fun hge=>?_)
 ·have hlt:i<nodes.length:=by have:=of_decide_eq_true hlt;omega
  obtain⟨n,hn⟩:∃n,nodes[i]?=some n:=⟨_,ab hlt⟩;rw[HN hlt,Ik,(a9.1 hn).2] at hR;have hf:=eJ n;have hnk:gH nodes.length n=(!(n.kind==0||decide (n.kind>=10))&&(folI n).all fun k=>!(decide (k<0)||decide (k>=(nodes.length:Int)))):=rfl;have hfl:=qL n;rw[hnk] at hR;clear hnk;generalize folI n=F at hf hR hfl;obtain⟨kind,op,slot,thing,⟨sa,ka,wa⟩,⟨sb,kb,wb⟩,next,els,origin⟩:=n;simp only at hR;conv=>whnf
  refine⟨rfl,(JQ:(0:Int)<=i),(JQ:(i:Int)<((nodes.map Nd.cells).length:Int)),fun row hrow=>?_⟩;obtain⟨d,hd,rfl⟩:=iq hrow;obtain rfl:=vx (hn.symm.trans hd);clear hrow hd;conv=>whnf
  cases b1:(kind==0)
  case true=>
   rw[b1,HJ,Im,G9,G9] at hR;subst hR;conv=>whnf
   exact aut
  conv=>whnf
  cases b2:decide (kind>=10)
  case true=>
   rw[b1,b2,IU,Im,G9,G9] at hR;subst hR;conv=>whnf
   exact aut
  conv=>whnf
  rw[b1,b2,I7,Iv,GS] at hR;refine aa.pure _ (hf) rfl rfl fun _=>?_;conv=>whnf
  have hlF:(F.map irow).length=F.length:=ad ..;refine aq.by (fun j:Nat=>⟨[(1,.ptr 0 0),(18,.tr (aO nodes)),(19,.tr (ti nodes.length)),(20,.tr (ti i)),(33,.tr (az F)),(34,.tr (ti F.length)),(35,.tr (ti j))],[(0,.cells 41 [.tr (ts name),.tr (ti locals),.tr (ti slots),.tr (aO nodes)])],10⟩) (fun j=>j<=F.length/\((F.drop j).all (fun k=>!(decide (k<0)||decide (k>=(nodes.length:Int))))&&(nodes.drop (i+1)).all (gH nodes.length))=R) (fun j=>F.length-j) 0 [0] []
   (Sub.mk' rfl ⟨⟨rfl,rfl⟩,.inl rfl,.inl rfl,.inl rfl,.inl rfl,.inl (by rw[<-hlF]),aut⟩ aut rfl rfl) ⟨x5 _,hR⟩ ?_
  clear hR hf;rintro j ⟨hj,hR⟩ -
  conv=>whnf
  refine ah (fun hjt=>?_) (fun hjt=>?_)
  ·have hjt:j<F.length:=by have:=of_decide_eq_true hjt;omega
   obtain⟨k,hk⟩:∃k,F[j]?=some k:=⟨_,ab hjt⟩;rw[HN hjt,Ik,(a9.1 hk).2] at hR;conv=>whnf
   refine⟨rfl,(JQ:(0:Int)<=j),(JQ:(j:Int)<((F.map irow).length:Int)),fun row hrow=>?_⟩;obtain⟨d,hd,rfl⟩:=eK hrow;obtain rfl:=vx (hk.symm.trans hd);clear hrow hd;conv=>whnf
   cases c1:decide (k<0)
   case true=>
    rw[c1,HJ,Im,G9,G9] at hR;subst hR;conv=>whnf
    exact aut
   conv=>whnf
   cases c2:decide (k>=(nodes.length:Int))
   case true=>
    rw[c1,c2,IU,Im,G9,G9] at hR;subst hR;rw[<-hln] at c2;rw[c2];conv=>whnf
    exact aut
   rw[c1,c2,I7,Iv,GS] at hR;rw[<-hln] at c2;rw[c2];conv=>whnf
   exact⟨j+1,[0],[],Sub.mk' rfl ⟨JY,JZ,JZ,JZ,JZ,JZ,.inl (ak hjt JQ),J0⟩ aut rfl rfl,⟨hjt,hR⟩,by show F.length-(j+1)<F.length-j;omega⟩
  ·have hjt:j=F.length:=by have:=ud hjt;omega
   subst hjt;rw[JA] at hR;have hR:(nodes.drop (i+1)).all (gH nodes.length)=R:=hR;conv=>whnf
   refine exT ?_;conv=>whnf
   exact⟨i+1,[0],[],Sub.mk' rfl ⟨JY,JZ,JZ,.inl (ak hlt JQ),J0⟩ aut rfl rfl,⟨hlt,hR⟩,by show nodes.length-(i+1)<nodes.length-i;omega⟩
 ·have hge:i=nodes.length:=by have:=ud hge;omega
  subst hge;rw[JA] at hR;have hR:true=R:=hR;subst hR;conv=>whnf
  refine exT ?_;conv=>whnf
  exact aut
end Go.Proofs.YtapmdfcmpglieaaGreatDoor.am
set_option maxRecDepth 100000
set_option maxHeartbeats 4000000
namespace Go.Proofs.YtapmdfcmpglieaaGreatDoor.am
open Go Go.Proofs
def brow(b:Bool):List Tr:=[tb b]
def eo(x:Nat):List Tr:=[ti x]
abbrev bh(l:List Bool):Tr:=.lst 1 1 (l.map brow)
abbrev nQ(l:List Bool):Blk:=.vec 4 1 1 (l.map brow)
abbrev bX(l:List Nat):Blk:=.vec 3 1 8 (l.map eo)
theorem lN{l:List Bool}{i:Nat}{row:List Tr}(h:(l.map brow)[i]?=some row):∃d,l[i]?=some d/\row=brow d:=by rw[z5,z9] at h;obtain⟨d,h1,rfl⟩:=h;exact⟨d,h1,rfl⟩
theorem qS{l:List Nat}{i:Nat}{row:List Tr}(h:(l.map eo)[i]?=some row):∃d,l[i]?=some d/\row=eo d:=by rw[z5,z9] at h;obtain⟨d,h1,rfl⟩:=h;exact⟨d,h1,rfl⟩
theorem eY(l:List Bool)(i:Nat)(b c:Bool):(l.map brow).set i ((brow b).take 0++[tb c]++(brow b).drop (0+1))=(l.set i c).map brow:=by rw[Hp];rfl
theorem mw(n:Nat)(b:Bool):List.replicate n [Tr.v (.bool b)]=(List.replicate n b).map brow:=by rw[H9];rfl
theorem aU{l:List Nat}{i:Nat}{row:List Tr}(h:((l.map fun(x:Nat)=>(x:Int)).map irow)[i]?=some row):∃d,l[i]?=some d/\row=[ti (d:Nat)]:=by rw[Jh,z5,z9] at h;obtain⟨d,h1,rfl⟩:=h;exact⟨d,h1,rfl⟩
theorem aZ(l:List Nat):((l.map fun(x:Nat)=>(x:Int)).map irow).length=l.length:=JX
theorem Dp{l:List Bool}{x:Nat}{b c:Bool}(h:l[x]?=some b):l.getD x c=b:=by rw[t5,h];rfl
theorem tj{N:Nat}(h:0<N):aS ((List.replicate N false).set 0 true)+1=N:=by rw[ff (by rw[G1,Gw h])];simp[aS]
theorem rt(g:Gr)(cut:Int)(hW:Whole g):K 59 [g.av,.tr (ti cut)] [] (.ret (.tr (bh (rchL (fol g) cut g.nodes.length)))) []:=by
 have hS:=oX.start (fol:=fol g) (cut:=cut) hW.pos;have hFin:=fun out h=>oX.fin (fol:=fol g) (cut:=cut) (N:=g.nodes.length) (out:=out) h;have hfI:=hW.fol;have hlt:=hW.lt;have hfl:=hW.len;have hpos:=hW.pos;have hmo:=hW.most;clear hW;generalize hR:rchL (fol g) cut g.nodes.length=R at hFin |-
 clear hR;generalize fol g=f at hS hFin hfI hlt hfl;obtain⟨name,locals,slots,nodes⟩:=g;simp only at hS hFin hfI hlt hpos hmo;have hln:(nodes.map Nd.cells).length=nodes.length:=ad ..;obtain⟨N,hNe⟩:∃N,nodes.length=N:=⟨_,rfl⟩;rw[hNe] at hS hFin hlt hpos hmo hln;refine Ctr.of hT hmix Tryz.func59 rfl (fun _ _=>JR) rfl fun hok=>?_;clear hok;conv=>whnf
 refine⟨(by rw[hln];omega),Hd _,(by rw[hln];show(N:Int)*1<=_;omega),?_⟩;conv=>whnf
 rw[hln,GY];refine⟨rfl,JS,(JQ:(0:Int)<(N:Int)),?_⟩;conv=>whnf
 refine⟨rfl,rfl,(by rw[GE];exact hpos),fun row hrow=>?_⟩
 replace hrow:(List.replicate N [Tr.v (.bool false)])[0]?=some row:=hrow
 rw[G1,Gw hpos] at hrow;cases hrow;refine⟨JS,?_⟩;conv=>whnf
 refine aq.by (fun x:List Bool×List Nat×Nat=>⟨[(1,.tr (ti cut)),(2,.ptr 0 0),(5,.sl 1 N),(6,.sl 2 x.2.2)],[(0,.cells 41 [.tr (ts name),.tr (ti locals),.tr (ti slots),.tr (aO nodes)]),(1,nQ x.1),(2,bX x.2.1)],10⟩) (fun x=>x.2.2<=x.2.1.length/\x.2.1.length<=2*N+1/\2*aS x.1+x.2.2<=2*N/\oX f cut N x.1 (x.2.1.take x.2.2)) (fun x=>2*aS x.1+x.2.2) ((List.replicate N false).set 0 true,[0],1) [0,_,_] []
  (Sub.mk' rfl ⟨.inl rfl,⟨rfl,rfl⟩,⟨rfl,rfl⟩,⟨rfl,rfl⟩,trivial⟩ ⟨⟨rfl,.inl rfl,.inl rfl,.inl rfl,.inl rfl,trivial⟩,⟨rfl,rfl,rfl,by rw[<-eY _ _ false,<-mw];rfl⟩,⟨rfl,rfl,rfl,rfl⟩,trivial⟩ rfl rfl) ⟨t9 _,by show 1<=2*N+1;omega,by show 2*aS ((List.replicate N false).set 0 true)+1<=2*N;have:=tj hpos;omega,hS⟩ ?_
 clear hS;rintro⟨out,rows,k⟩ ⟨hk,hrl,hm,hS⟩ -
 simp only at hk hrl hm hS;conv=>whnf
 refine ah (fun hk0=>?_) (fun hk0=>?_)
 ·have hk0:0<k:=by have:decide ((k:Int) > 0)=true:=hk0;have:=of_decide_eq_true this;omega
  have hk1:IntKind.i64.wrap ((k:Int)-1)=((k-1:Nat):Int):=by rw[w64 JQ JQ];omega
  obtain⟨a,ha⟩:∃a,rows[k-1]?=some a:=⟨_,ab JQ⟩;have hp:∀x,x∈rows.take k<->x=a\/x∈rows.take (k-1):=fun x=>by
   have:rows.take k=rows.take (k-1)++[a]:=by
    conv=>lhs;rw[(JQ:k=(k-1)+1),Hx,ha]
    rfl
   rw[this,FK,xB];exact KH
  have haN:a<N:=hS.lt ((hp a).2 (.inl rfl));conv=>whnf
  rw[hk1];refine⟨rfl,(JQ:(0:Int)<=((k-1:Nat):Int)),(JQ:((k-1:Nat):Int)<(k:Int)),?_⟩;conv=>whnf
  refine ixV ha ?_;refine⟨(JS:0<1),fun t ht=>?_⟩;cases ht;conv=>whnf
  rw[hk1];refine⟨(JQ:(0:Int)<=((k-1:Nat):Int)),(JQ:((k-1:Nat):Int)<=(k:Int)),?_⟩;conv=>whnf
  cases hac:((a:Int)==cut)
  case true=>
   have hc:(a:Int)=cut:=eq_of_beq hac;conv=>whnf
   refine exT ?_;conv=>whnf
   exact⟨(out,rows,k-1),[0,1,2],[],Sub.au,⟨by show k-1<=rows.length;omega,hrl,by show 2*aS out+(k-1)<=2*N;omega,hS.cut hp hc⟩,by show 2*aS out+(k-1)<2*aS out+k;omega⟩
  have hc:(a:Int)≠cut:=fun w=>by rw[GX] at hac;exact hac w
  have hJ:=hS.take hp hc;obtain⟨n,hn⟩:∃n,nodes[a]?=some n:=⟨_,ab JQ⟩;have hf:=eJ n;rw[hfI a n hn] at hf;have hflt:=hlt a;have hfl:=hfl a;obtain⟨F,hF⟩:∃F,f a=F:=⟨_,rfl⟩;rw[hF] at hf hflt hfl;have hFl:=aZ F;obtain⟨kind,op,slot,thing,⟨sa,ka,wa⟩,⟨sb,kb,wb⟩,next,els,origin⟩:=n;conv=>whnf
  refine⟨rfl,(JQ:(0:Int)<=a),(JQ:(a:Int)<((nodes.map Nd.cells).length:Int)),fun row hrow=>?_⟩;obtain⟨d,hd,rfl⟩:=iq hrow;obtain rfl:=vx (hn.symm.trans hd);clear hrow hd hn;conv=>whnf
  refine aa.pure _ (hf) rfl rfl fun _=>?_;conv=>whnf
  refine aq.by (fun x:List Bool×List Nat×Nat×Nat=>⟨[(1,.tr (ti cut)),(2,.ptr 0 0),(5,.sl 1 N),(6,.sl 2 x.2.2.1),(39,.tr (a8 F)),(40,.tr (ti F.length)),(41,.tr (ti x.2.2.2))],[(0,.cells 41 [.tr (ts name),.tr (ti locals),.tr (ti slots),.tr (aO nodes)]),(1,nQ x.1),(2,bX x.2.1)],10⟩) (fun x=>x.2.2.1<=x.2.1.length/\x.2.1.length<=2*N+1/\x.2.2.2<=F.length/\2*aS x.1+x.2.2.1<2*aS out+k/\x3 f cut N x.1 (x.2.1.take x.2.2.1) a x.2.2.2) (fun x=>F.length-x.2.2.2) (out,rows,k-1,0) [0,1,2] []
   (Sub.mk' rfl ⟨.inl rfl,⟨rfl,rfl⟩,⟨rfl,rfl⟩,⟨rfl,rfl⟩,.inl rfl,.inl (by rw[<-hFl]),aut⟩ aut rfl rfl) ⟨by show k-1<=rows.length;omega,hrl,x5 _,by show 2*aS out+(k-1)<2*aS out+k;omega,hJ⟩ ?_
  clear hJ hf hS hp ha;rintro⟨o2,r2,k2,j⟩ ⟨hk2,hr2,hj,hmu,hJ⟩ -
  simp only at hk2 hr2 hj hmu hJ;have hol:=hJ.len;conv=>whnf
  refine ah (fun hjt=>?_) (fun hjt=>?_)
  ·have hjt:j<F.length:=by have:decide ((j:Int)<(F.length:Int))=true:=hjt;have:=of_decide_eq_true this;omega
   obtain⟨y,hy⟩:∃y,F[j]?=some y:=⟨_,ab hjt⟩;have hyN:=hflt y (i3 hy);have hyf:(f a)[j]?=some y:=by rw[hF];exact hy
   obtain⟨b,hb⟩:∃b,o2[y]?=some b:=⟨_,ab JQ⟩;conv=>whnf
   refine⟨rfl,(JQ:(0:Int)<=j),(JQ:(j:Int)<((((F.map fun(x:Nat)=>(x:Int))).map irow).length:Int)),fun row hrow=>?_⟩;obtain⟨d,hd,rfl⟩:=aU hrow;obtain rfl:=vx (hy.symm.trans hd);clear hrow hd;conv=>whnf
   refine⟨rfl,(JQ:(0:Int)<=y),(JQ:(y:Int)<(N:Int)),?_⟩;conv=>whnf
   refine ixV hb ?_;refine⟨(JS:0<1),fun t ht=>?_⟩;cases ht;cases b
   ·conv=>whnf
    refine⟨rfl,(JQ:(0:Int)<=y),(JQ:(y:Int)<(N:Int)),?_⟩;conv=>whnf
    refine ixS hb ?_;refine⟨(JS:0+1<=1),?_⟩;conv=>whnf
    refine⟨rfl,rfl,rfl,(by rw[ad];exact hk2),(JQ:(k2+1)*8<=150000000000000),fun q hq=>?_,?_⟩
    ·cases hq with
     |head=>exact GG rfl
     |tail _ h=>cases h
    conv=>whnf
    have hun:=ff hb;have hda:(r2.map eo).take k2++[[ti (y:Nat)]]=(r2.take k2++[y]).map eo:=by rw[FP,H7];rfl
    have hlen:(r2.take k2++[y]).length=k2+1:=by rw[uR,DK];simp;omega
    exact⟨(o2.set y true,r2.take k2++[y],k2+1,j+1),[0,1,_],[],Sub.mk' rfl ⟨JZ,JY,JY,JY,JZ,JZ,.inl (ak hjt JQ),J0⟩ ⟨⟨rfl,JZ,JZ,JZ,JZ,J0⟩,⟨rfl,rfl,rfl,eY o2 y false true⟩,⟨rfl,rfl,rfl,hda⟩,J0⟩ rfl rfl,⟨by show k2+1<=(r2.take k2++[y]).length;omega,by show(r2.take k2++[y]).length<=2*N+1;omega,hjt,by show 2*aS (o2.set y true)+(k2+1)<2*aS out+k;omega,hJ.push hyf hb (fun x=>by rw[vG (by rw[hlen];exact t9 _),FK,xB];exact KH)⟩,by show F.length-(j+1)<F.length-j;omega⟩
   ·conv=>whnf
    exact⟨(o2,r2,k2,j+1),[0,1,2],[],Sub.mk' rfl ⟨JZ,JY,JY,JY,JZ,JZ,.inl (ak hjt JQ),J0⟩ aut rfl rfl,⟨hk2,hr2,hjt,hmu,hJ.skip hyf hb⟩,by show F.length-(j+1)<F.length-j;omega⟩
  ·have hjt:F.length<=j:=by have:decide ((j:Int)<(F.length:Int))=false:=hjt;have:=ud this;omega
   conv=>whnf
   refine exT ?_;conv=>whnf
   exact⟨(o2,r2,k2),[0,1,2],[],Sub.au,⟨hk2,hr2,by show 2*aS o2+k2<=2*N;omega,hJ.fin (by rw[hF];exact hjt)⟩,hmu⟩
 ·have hk0:k=0:=by have:decide ((k:Int) > 0)=false:=hk0;have:=ud this;omega
  subst hk0;have:=hFin out hS;subst this;have hol:=hS.len;conv=>whnf
  refine exT ?_;conv=>whnf
  exact⟨⟨rfl,(by show N<=(out.map brow).length;rw[ad];omega),(by show bh out=Tr.lst 1 1 ((out.map brow).take N);rw[vG (by rw[ad];omega)])⟩,J0⟩
theorem jE(g:Gr)(hW:cm g=true):K 29 [g.av] [] (.ret (.tr (bh (rchL (fol g) (-1) g.nodes.length)))) []:=by
 have h1:=lX g;rw[hW] at h1;have h2:=rt g (-1) (aT hW);generalize rchL (fol g) (-1) g.nodes.length=R at h2 |-
 obtain⟨name,locals,slots,nodes⟩:=g;refine Ctr.of hT hmix Tryz.func29 rfl (fun _ _=>JR) rfl fun hok=>?_;clear hok;conv=>whnf
 refine aa.pure _ (h1) rfl rfl fun _=>?_;conv=>whnf
 refine aa.pure _ (h2) rfl rfl fun _=>?_;conv=>whnf
 exact aut
end Go.Proofs.YtapmdfcmpglieaaGreatDoor.am
set_option maxRecDepth 100000
set_option maxHeartbeats 4000000
namespace Go.Proofs.YtapmdfcmpglieaaGreatDoor.am
open Go Go.Proofs
def mM(l:List Nat):List Tr:=[a8 l]
abbrev cD(L:List (List Nat)):Tr:=.lst 1 24 (L.map mM)
theorem gq{l:List (List Nat)}{i:Nat}{row:List Tr}(h:(l.map mM)[i]?=some row):∃d,l[i]?=some d/\row=mM d:=by rw[z5,z9] at h;obtain⟨d,h1,rfl⟩:=h;exact⟨d,h1,rfl⟩
theorem Aj(N:Nat):nlR (List.replicate N [Tr.v (.slice none 0 0)]) ((List.replicate N ([]:List Nat)).map mM):=by
 induction N with
 |zero=>trivial
 |succ N ih=>exact⟨⟨.inr ⟨rfl,1,8,rfl⟩,J0⟩,ih⟩
theorem zJ(N:Nat):ll (List.replicate N [Tr.v (.slice none 0 0)]):=fun row hr t ht=>by rw[IE hr] at ht;rw[xB.1 ht];exact⟨_,rfl⟩
theorem yP(X:List (List Nat))(y:Nat)(x t:Tr)(hy:y<X.length):tJ ((X.map mM).set y [x]) y 0 t=(X.map mM).set y [t]:=by unfold tJ;rw[GD (by rw[ad];exact hy)];show((X.map mM).set y [x]).set y [t]=_;rw[List.set_set]
theorem tM(l:List Nat)(i:Nat):Tr.lst 1 8 ((((l.map fun(x:Nat)=>(x:Int)).map irow)++[[ti i]]).take (((l.map fun(x:Nat)=>(x:Int)).map irow).length+1))=a8 (l++[i]):=by rw[vG (by rw[uR];exact t9 _)];show _=Tr.lst 1 8 (((l++[i]).map fun(x:Nat)=>(x:Int)).map irow);rw[FP,FP];rfl
theorem pM(g:Gr)(hW:cm g=true):K 62 [g.av] [] (.ret (.tr (cD (aheadL (fol g) g.nodes.length)))) []:=by
 have hw:=lX g;rw[hW] at hw;have hW:=aT hW;have hput:=fun n j k a b=>sL (fol:=fol g) (N:=g.nodes.length) (n:=n) (j:=j) (k:=k) a b (hW.nd n);have hat:=fun n j k hk=>eA (fol:=fol g) (N:=g.nodes.length) (n:=n) (j:=j) (k:=k) hk;have hnext:=fun n j hj=>oM (fol:=fol g) (N:=g.nodes.length) (n:=n) (j:=j) hj;have hz:bY (fol g) g.nodes.length 0 0=List.replicate g.nodes.length []:=o9;have hfin:bY (fol g) g.nodes.length g.nodes.length 0=aheadL (fol g) g.nodes.length:=rW;have hlen:∀n j,(bY (fol g) g.nodes.length n j).length=g.nodes.length:=fun n j=>by simp[bY]
 have hal:∀n k,(bj (fol g) n k).length<=n:=fun n k=>by
  have:=HO (fun i=>(fol g i).contains k) (List.range n)
  rwa [HZ] at this
 have hfI:=hW.fol;have hlt:=hW.lt;have hfl:=hW.len;have hpos:=hW.pos;have hmo:=hW.most;clear hW;generalize aheadL (fol g) g.nodes.length=R at hfin |-
 generalize bY (fol g) g.nodes.length=A at hput hat hnext hz hfin hlen;generalize bj (fol g)=B at hput hal;generalize fol g=f at hput hat hnext hfI hlt hfl;clear hat;obtain⟨name,locals,slots,nodes⟩:=g;simp only at hput hnext hz hfin hlen hpos hmo hfI hlt;have hln:(nodes.map Nd.cells).length=nodes.length:=ad ..;obtain⟨N,hNe⟩:∃N,nodes.length=N:=⟨_,rfl⟩;rw[hNe] at hput hz hfin hlen hlt hpos hmo hln;refine Ctr.of hT hmix Tryz.func62 rfl (fun _ _=>JR) rfl fun hok=>?_;clear hok;conv=>whnf
 refine aa.pure _ (hw) rfl rfl fun _=>?_;conv=>whnf
 refine⟨(by rw[hln];omega),Hd _,(by rw[hln];show(N:Int)*24<=_;omega),?_⟩;conv=>whnf
 rw[hln,GY];refine aq.by (fun i:Nat=>⟨[(1,.ptr 0 0),(3,.sl 1 N),(16,.tr (aO nodes)),(17,.tr (ti N)),(18,.tr (ti i))],[(0,.cells 41 [.tr (ts name),.tr (ti locals),.tr (ti slots),.tr (aO nodes)]),(1,.own 1 24 ((A i 0).map mM) [])],10⟩) (fun i=>i<=N) (fun i=>N-i) 0 [0,_] []
  (Sub.mk' rfl ⟨⟨rfl,rfl⟩,⟨rfl,rfl⟩,.inl rfl,.inl rfl,.inl rfl,trivial⟩ ⟨⟨rfl,.inl rfl,.inl rfl,.inl rfl,.inl rfl,trivial⟩,⟨rfl,rfl,rfl,zJ N,.inr (by show nlR _ ((A 0 0).map mM);rw[hz];exact Aj N)⟩,trivial⟩ rfl rfl) (x5 _) ?_
 rintro i hi -
 conv=>whnf
 refine ah (fun hlt1=>?_) (fun hge=>?_)
 ·have hlt1:i<N:=by have:=of_decide_eq_true hlt1;omega
  obtain⟨n,hn⟩:∃n,nodes[i]?=some n:=⟨_,ab JQ⟩;have hf:=eJ n;rw[hfI i n hn] at hf;have hflt:=hlt i;have hfl:=hfl i;have hput:=hput i;have hnext:=hnext i;obtain⟨F,hF⟩:∃F,f i=F:=⟨_,rfl⟩;rw[hF] at hf hflt hfl hput hnext;have hFl:=aZ F;obtain⟨kind,op,slot,thing,⟨sa,ka,wa⟩,⟨sb,kb,wb⟩,next,els,origin⟩:=n;conv=>whnf
  refine⟨rfl,(JQ:(0:Int)<=i),(JQ:(i:Int)<((nodes.map Nd.cells).length:Int)),fun row hrow=>?_⟩;obtain⟨d,hd,rfl⟩:=iq hrow;obtain rfl:=vx (hn.symm.trans hd);clear hrow hd hn;conv=>whnf
  refine aa.pure _ (hf) rfl rfl fun _=>?_;conv=>whnf
  refine aq.by (fun j:Nat=>⟨[(1,.ptr 0 0),(3,.sl 1 N),(4,.tr (ti i)),(16,.tr (aO nodes)),(17,.tr (ti N)),(18,.tr (ti i)),(24,.tr (a8 F)),(25,.tr (ti F.length)),(26,.tr (ti j))],[(0,.cells 41 [.tr (ts name),.tr (ti locals),.tr (ti slots),.tr (aO nodes)]),(1,.own 1 24 ((A i j).map mM) [])],10⟩) (fun j=>j<=F.length) (fun j=>F.length-j) 0 [0,1] []
   (Sub.mk' rfl ⟨⟨rfl,rfl⟩,⟨rfl,rfl⟩,.inl rfl,.inl rfl,.inl rfl,.inl rfl,.inl rfl,.inl (by rw[<-hFl]),aut⟩ aut rfl rfl) (x5 _) ?_
  rintro j hj -
  conv=>whnf
  refine ah (fun hjt=>?_) (fun hjt=>?_)
  ·have hjt:j<F.length:=by have:=of_decide_eq_true hjt;omega
   obtain⟨y,hy⟩:∃y,F[j]?=some y:=⟨_,ab hjt⟩;have hyN:=hflt y (i3 hy);obtain⟨hset,hget⟩:=hput j y hy hyN;have hbl:=hal i y;generalize B i y=l at hset hget hbl;conv=>whnf
   refine⟨rfl,(JQ:(0:Int)<=j),(JQ:(j:Int)<((((F.map fun(x:Nat)=>(x:Int))).map irow).length:Int)),fun row hrow=>?_⟩;obtain⟨d,hd,rfl⟩:=aU hrow;obtain rfl:=vx (hy.symm.trans hd);clear hrow hd;conv=>whnf
   refine⟨rfl,(JQ:(0:Int)<=y),(JQ:(y:Int)<(N:Int)),?_⟩;conv=>whnf
   refine⟨rfl,(by show y<((A i j).map mM).length;rw[ad,hlen];exact hyN),fun row hrow=>?_⟩;obtain⟨d,hd,rfl⟩:=gq hrow;obtain rfl:=vx (hget.symm.trans hd);clear hrow hd;refine⟨(JS:0<1),fun t ht=>?_⟩;cases ht;conv=>whnf
   refine⟨(JS:0<1),?_⟩;conv=>whnf
   refine⟨rfl,rfl,t9 _,(by show(((l.map fun(x:Nat)=>(x:Int)).map irow).length+1)*8<=_;rw[aZ];omega),J0,(fun row hr t ht=>by rw[xB.1 hr] at ht;rw[xB.1 ht];exact⟨_,rfl⟩),J0,?_⟩;conv=>whnf
   refine⟨rfl,(JQ:(0:Int)<=y),(JQ:(y:Int)<(N:Int)),?_⟩;conv=>whnf
   refine .inl ⟨rfl,rfl,rfl,(by show y<((A i j).map mM).length;rw[ad,hlen];exact hyN),⟨fun _=>rfl,J0⟩,fun row hrow=>?_⟩;obtain⟨d,hd,rfl⟩:=gq hrow;obtain rfl:=vx (hget.symm.trans hd);clear hrow hd;refine⟨(JS:0+1<=1),?_⟩;conv=>whnf
   refine⟨j+1,[0,1],[],Sub.pk [1] ?_,hjt,by show F.length-(j+1)<F.length-j;omega⟩;conv=>whnf
   refine⟨rfl,rfl,(by show((l.map fun(x:Nat)=>(x:Int)).map irow).length+1<=(((l.map fun(x:Nat)=>(x:Int)).map irow)++[[ti i]]).length;rw[uR];exact t9 _),?_⟩;refine yX.mk' rfl ⟨JY,JY,JZ,JZ,JZ,JZ,JZ,JZ,.inl (ak hjt JQ),J0⟩ ⟨aut,⟨rfl,rfl,rfl,rfl,.inl ?_⟩,J0⟩ rfl rfl;refine(yP (A i j) y _ _ (by rw[hlen];exact hyN)).trans ?_;rw[hset,Hp];exact E8 (fun q=>((A i j).map mM).set y [q]) (tM l i)
  ·have hjt:F.length<=j:=by have:=ud hjt;omega
   conv=>whnf
   refine exT ?_;conv=>whnf
   exact⟨i+1,[0,1],[],Sub.mk' rfl ⟨JY,JY,JZ,JZ,.inl (ak hlt1 JQ),J0⟩ ⟨aut,⟨rfl,rfl,rfl,rfl,.inl (by rw[hnext j hjt])⟩,J0⟩ rfl rfl,hlt1,by show N-(i+1)<N-i;omega⟩
 ·have hge:i=N:=by have:=ud hge;omega
  subst hge;conv=>whnf
  refine exT ?_;conv=>whnf
  exact⟨⟨rfl,(by show i<=((A i 0).map mM).length;rw[ad,hlen];exact t9 _),(by show cD R=Tr.lst 1 24 (((A i 0).map mM).take i);rw[vG (by rw[ad,hlen];exact t9 _),hfin])⟩,J0⟩
end Go.Proofs.YtapmdfcmpglieaaGreatDoor.am
set_option maxRecDepth 100000
set_option maxHeartbeats 4000000
namespace Go.Proofs.YtapmdfcmpglieaaGreatDoor.am
open Go Go.Proofs
theorem ctf{b:Bool}{C:Prop}(h1:b=true)(h2:b=false):C:=by rw[h1] at h2;cases h2
def tG(l:List Nat)(i:Nat):List Nat:=(List.range l.length).map fun x=>bif decide (x<i)||decide (l.length<=x+i) then l.getD (l.length-1-x) 0 else l.getD x 0
theorem dO(l:List Nat)(i:Nat):(tG l i).length=l.length:=by simp[tG]
theorem gO{l:List Nat}{i x:Nat}(hx:x<l.length):(tG l i)[x]?=some (bif decide (x<i)||decide (l.length<=x+i) then l.getD (l.length-1-x) 0 else l.getD x 0):=by simp only[tG,z5,GZ hx,G5]
theorem j5{l:List Nat}{x:Nat}(hx:x<l.length):l[x]?=some (l.getD x 0):=by rw[ab hx,t5,ab hx];rfl
theorem xf(l:List Nat):tG l 0=l:=by
 refine GT fun x=>?_;by_cases hx:x<l.length;·rw[gO hx,Gz JQ,Gz JQ,j5 hx];rfl
 ·rw[yB (by rw[dO];omega),yB JQ]
theorem z8{l:List Nat}{i:Nat}(h:l.length<=2*i+1):tG l i=l.reverse:=by
 refine GT fun x=>?_;by_cases hx:x<l.length
 ·rw[gO hx,IY hx,j5 (JQ:l.length-1-x<l.length)];by_cases h1:x<i;·rw[GC h1];rfl
  ·by_cases h2:l.length<=x+i;·rw[GC h2,IU];rfl
   ·rw[Gz h1,Gz h2];show some (l.getD x 0)=_;rw[(JQ:l.length-1-x=x)]
 ·rw[yB (by rw[dO];omega),yB (by rw[H5];omega)]
theorem uS{l:List Nat}{i j:Nat}(hj:j=l.length-1-i)(h:i<j):(tG l i)[i]?=some (l.getD i 0)/\(tG l i)[j]?=some (l.getD j 0)/\((tG l i).set i (l.getD j 0)).set j (l.getD i 0)=tG l (i+1):=by
 refine⟨by rw[gO JQ,Gz JQ,Gz JQ];rfl,by rw[gO JQ,Gz JQ,Gz JQ];rfl,GT fun x=>?_⟩;by_cases hx:x<l.length
 ·rw[gO hx];by_cases e1:x=j
  ·subst e1;rw[GD (by rw[G0,dO];omega),GC (JQ:l.length<=x+(i+1)),IU,r7,(JQ:l.length-1-x=i)]
  ·rw[GW (fun w=>e1 w.symm)];by_cases e2:x=i
   ·subst e2;rw[GD (by rw[dO];omega),GC (JQ:x<x+1),HJ,r7,hj]
   ·rw[GW (fun w=>e2 w.symm),gO hx];congr 2;rw[show decide (x<i)=decide (x<i+1) by congr 1;simp;omega,show decide (l.length<=x+i)=decide (l.length<=x+(i+1)) by congr 1;simp;omega]
 ·rw[yB (by simp[dO];omega),yB (by rw[dO];omega)]
theorem mo(l:List Nat)(i a b:Nat):(l.map eo).set i ((eo a).take 0++[ti (b:Nat)]++(eo a).drop (0+1))=(l.set i b).map eo:=by rw[Hp];rfl
theorem uM(l:List Nat)(h1:1<=l.length)(h2:l.length<=1048576):K 165 [.sl 0 l.length] [bX l] (.ret (.tup [])) [some (bX l.reverse)]:=by
 have hj0:IntKind.i64.wrap ((l.length:Int)-1)=((l.length-1:Nat):Int):=by rw[w64 JQ JQ];omega
 refine Ctr.of hT hmix Tryz.func165 rfl (fun _ _=>JR) rfl fun hok=>?_;clear hok;conv=>whnf
 rw[hj0];refine aq.by (fun i:Nat=>⟨[(0,.sl 0 l.length),(2,.tr (ti i)),(3,.tr (ti ((l.length-1-i:Nat))))],[(0,bX (tG l i))],10⟩) (fun i=>i<l.length) (fun i=>l.length-i) 0 [0] []
  (Sub.mk' rfl aut ⟨⟨rfl,rfl,rfl,by rw[xf]⟩,trivial⟩ rfl rfl) (JQ:0<l.length) ?_
 rintro i hi -
 obtain⟨j,hj⟩:∃j,l.length-1-i=j:=⟨_,rfl⟩;conv=>whnf
 rw[hj];refine ah (fun hlt=>?_) (fun hge=>?_)
 ·have hlt:i<j:=by have:decide ((i:Int)<(j:Int))=true:=hlt;have:=of_decide_eq_true this;omega
  obtain⟨s1,s2,s3⟩:=uS hj.symm hlt;have hrl:=dO l i;generalize tG l i=R at s1 s2 s3 hrl;generalize l.getD i 0=a at s1 s3;generalize l.getD j 0=b at s2 s3;conv=>whnf
  refine⟨rfl,(JQ:(0:Int)<=(j:Int)),(JQ:(j:Int)<(l.length:Int)),?_⟩;conv=>whnf
  refine ixV s2 ?_;refine⟨(JS:0<1),fun t ht=>?_⟩;cases ht;conv=>whnf
  refine⟨rfl,(JQ:(0:Int)<=(i:Int)),(JQ:(i:Int)<(l.length:Int)),?_⟩;conv=>whnf
  refine ixV s1 ?_;refine⟨(JS:0<1),fun t ht=>?_⟩;cases ht;conv=>whnf
  refine⟨rfl,(JQ:(0:Int)<=(i:Int)),(JQ:(i:Int)<(l.length:Int)),?_⟩;conv=>whnf
  refine ixS s1 ?_;refine⟨(JS:0+1<=1),?_⟩;conv=>whnf
  refine⟨rfl,(JQ:(0:Int)<=(j:Int)),(JQ:(j:Int)<(l.length:Int)),?_⟩;conv=>whnf
  refine⟨rfl,rfl,(by rw[G0,ad];show j<R.length;omega),fun row hrow=>?_⟩
  replace hrow:((R.set i b).map eo)[j]?=some row:=by rw[<-mo R i a b];exact hrow
  obtain⟨d,hd,rfl⟩:=qS hrow;clear hrow hd;refine⟨(JS:0+1<=1),?_⟩;conv=>whnf
  refine drT ?_;conv=>whnf
  have hiw:IntKind.i64.wrap ((i:Int)+1)=((i+1:Nat):Int):=by rw[w64 JQ JQ];omega
  have hjw:IntKind.i64.wrap ((j:Int)-1)=((l.length-1-(i+1):Nat):Int):=by rw[w64 JQ JQ];omega
  rw[hiw,hjw];exact⟨i+1,[0],[],Sub.mk' rfl aut ⟨⟨rfl,rfl,rfl,by rw[<-s3,Hp,Hp];rfl⟩,J0⟩ rfl rfl,(JQ:i+1<l.length),by show l.length-(i+1)<l.length-i;omega⟩
 ·have hge:j<=i:=by have:decide ((i:Int)<(j:Int))=false:=hge;have:=ud this;omega
  have:=z8 (l:=l) (i:=i) JQ;conv=>whnf
  refine exT ?_;conv=>whnf
  exact⟨J0,⟨rfl,rfl,rfl,by rw[this]⟩,J0⟩
end Go.Proofs.YtapmdfcmpglieaaGreatDoor.am
set_option maxRecDepth 100000
set_option maxHeartbeats 4000000
namespace Go.Proofs.YtapmdfcmpglieaaGreatDoor.am
open Go Go.Proofs
def qJ(v:Nat×Nat):List Tr:=[ti (v.1:Nat),ti (v.2:Nat)]
abbrev F9(l:List (Nat×Nat)):Blk:=.vec 266 2 16 (l.map qJ)
theorem fc{l:List (Nat×Nat)}{i:Nat}{row:List Tr}(h:(l.map qJ)[i]?=some row):∃d,l[i]?=some d/\row=qJ d:=by rw[z5,z9] at h;obtain⟨d,h1,rfl⟩:=h;exact⟨d,h1,rfl⟩
def cO(ord:List Nat)(N i:Nat):List Nat:=(List.range N).map fun x=>bif ord.contains x&&decide (ord.idxOf x<i) then ord.idxOf x else 0
def eF(ord:List Nat)(N:Nat):List Nat:=cO ord N ord.length
theorem pu(ord:List Nat)(N:Nat):cO ord N 0=List.replicate N 0:=by
 refine GT fun x=>?_;by_cases hx:x<N;·simp[cO,hx]
 ·rw[yB (by simp[cO];omega),yB (by simp;omega)]
theorem cu(ord:List Nat)(N i:Nat):(cO ord N i).length=N:=by simp[cO]
theorem sP{f:Nat->List Nat}{ord:List Nat}(h:c9 f ord){N i x:Nat}(hi:ord[i]?=some x)(hx:x<N):cO ord N (i+1)=(cO ord N i).set x i:=by
 refine GT fun y=>?_;by_cases hy:y<N
 ·by_cases e:y=x
  ·subst e;rw[GD (by rw[cu];exact hy)];have hm:ord.contains y=true:=GJ.2 (i3 hi);simp only[cO,z5,GZ hy,G5,hm,h.idx hi,GS,GC (Hh i),r7]
  ·rw[GW (fun w=>e w.symm)];simp only[cO,z5,GZ hy,G5];congr 2;cases hm:ord.contains y with
   |false=>rfl
   |true=>
    have hne:ord.idxOf y≠i:=fun w=>by have hm2:y∈ord:=GJ.1 hm;have hl:=IF.2 hm2;have:=Jk hl;rw[<-w,ab hl,this] at hi;cases hi;exact e rfl
    rw[GS,GS];congr 1;simp;omega
 ·rw[yB (by rw[cu];omega),yB (by rw[G0,cu];omega)]
theorem xE{f:Nat->List Nat}{ord:List Nat}(h:c9 f ord){N i x:Nat}(hi:ord[i]?=some x)(hx:x<N):(eF ord N)[x]?=some i:=by have hm:ord.contains x=true:=GJ.2 (i3 hi);have hl:=(a9.1 hi).1;simp only[eF,cO,z5,GZ hx,G5,hm,h.idx hi,GS,GC hl,r7]
theorem uY{α:Type}{l:List α}{i:Nat}{x:α}(h:i<l.length):(l.set i x).take (i+1)=l.take i++[x]:=by rw[Hx,GD h,JU (t9 _)];rfl
theorem cI:∀(N:Nat)(l:List Nat),l.Nodup->(∀x∈l,x<N)->l.length<=N
 |0,l,_,h=>by
  cases l with
  |nil=>exact t9 _
  |cons x l=>exact absurd (h x (.head _)) (Hl x)
 |N+1,l,hn,h=>by
  by_cases hm:N∈l
  ·have:=cI N (l.erase N) (hn.erase N) (fun x hx=>by
    have:=(hn.mem_erase_iff).1 hx;have:=h x this.2;omega)
   rw[Jw hm] at this;omega
  ·have:=cI N l hn (fun x hx=>by
    have:=h x hx;have:x≠N:=fun w=>hm (w ▸ hx);omega)
   omega
theorem rf.post_len{f:Nat->List Nat}{N:Nat}{s:wN}(h:rf f N s):s.2.1.length<=N/\s.2.2.length<=N:=by
 have hnd:=h.nodup;have hlt:∀x∈s.2.1++s.2.2.map (·.1),x<N:=fun x hx=>by have:=(h.seen x).2 (FK.1 hx);have:=(a9.1 this).1;rw[h.len] at this;exact this
 have:=cI N _ hnd hlt;rw[uR,ad] at this;omega
theorem ic(l:List Nat):a8 l=.lst 1 8 (l.map eo):=by show Tr.lst 1 8 ((l.map fun(x:Nat)=>(x:Int)).map irow)=_;rw[Jh];rfl
theorem ry(n:Nat):List.replicate n [Tr.v (.int .i64 0)]=(List.replicate n 0).map eo:=by rw[H9];rfl
theorem oU(g:Gr)(hW:Whole g)(r:List Nat)(hr:vD (fol g) ((List.replicate g.nodes.length false).set 0 true,[],[(0,0)]) r)(ho:c9 (fol g) r.reverse)(hrN:∀x∈r,x<g.nodes.length):K 154 [g.av] [] (.ret (.tup [.tr (a8 r.reverse),.tr (a8 (eF r.reverse g.nodes.length))])) []:=by
 have hS:=rf.start (fol g) hW.pos;have hInv:=fun s h=>qZ (fol:=fol g) (N:=g.nodes.length) hW.lt (s:=s) h;have hLess:=fun s h h2=>nE (fol:=fol g) hW.len (N:=g.nodes.length) (s:=s) h hW.lt h2;have hput:=fun i x=>sP ho (N:=g.nodes.length) (i:=i) (x:=x);have hfI:=hW.fol;have hlt:=hW.lt;have hfl:=hW.len;have hpos:=hW.pos;have hmo:=hW.most;have h1r:1<=r.length:=by
  have:=(a9.1 ho.zero).1
  rwa [H5] at this
 clear hW ho;generalize fol g=f at hr hS hInv hLess hput hfI hlt hfl;obtain⟨name,locals,slots,nodes⟩:=g;simp only at hr hS hInv hLess hput hfI hlt hpos hmo hrN |-
 have hln:(nodes.map Nd.cells).length=nodes.length:=ad ..;obtain⟨N,hNe⟩:∃N,nodes.length=N:=⟨_,rfl⟩;rw[hNe] at hr hS hInv hLess hput hlt hpos hmo hln hrN |-
 refine Ctr.of hT hmix Tryz.func154 rfl (fun _ _=>JR) rfl fun hok=>?_;clear hok;conv=>whnf
 refine⟨(by rw[hln];omega),Hd _,(by rw[hln];show(N:Int)*1<=_;omega),?_⟩;conv=>whnf
 rw[hln,GY];refine⟨rfl,JS,(JQ:(0:Int)<(N:Int)),?_⟩;conv=>whnf
 refine⟨rfl,rfl,(by rw[GE];exact hpos),fun row hrow=>?_⟩
 replace hrow:(List.replicate N [Tr.v (.bool false)])[0]?=some row:=hrow
 rw[G1,Gw hpos] at hrow;cases hrow;refine⟨JS,?_⟩;conv=>whnf
 refine aq.by (fun x:List Bool×List Nat×List (Nat×Nat)×Nat=>⟨[(1,.ptr 0 0),(4,.sl 1 N),(5,.sl 3 x.2.1.length),(6,.sl 2 x.2.2.2)],[(0,.cells 41 [.tr (ts name),.tr (ti locals),.tr (ti slots),.tr (aO nodes)]),(1,nQ x.1),(2,F9 x.2.2.1),(3,bX x.2.1)],10⟩) (fun x=>x.2.2.2<=x.2.2.1.length/\rf f N (x.1,x.2.1,(x.2.2.1.take x.2.2.2).reverse)/\vD f (x.1,x.2.1,(x.2.2.1.take x.2.2.2).reverse) r) (fun x=>yZ f (x.1,x.2.1,(x.2.2.1.take x.2.2.2).reverse)) ((List.replicate N false).set 0 true,[],[(0,0)],1) [0,_,_] [3]
  (Sub.mk' rfl ⟨⟨rfl,rfl⟩,⟨rfl,rfl⟩,⟨rfl,rfl,rfl,rfl⟩,⟨rfl,rfl⟩,trivial⟩ ⟨⟨rfl,.inl rfl,.inl rfl,.inl rfl,.inl rfl,trivial⟩,⟨rfl,rfl,rfl,by rw[<-eY _ _ false,<-mw];rfl⟩,⟨rfl,rfl,rfl,rfl⟩,⟨rfl,_,_,_,rfl,JS⟩,trivial⟩ rfl rfl) ⟨t9 _,hS,hr⟩ ?_
 clear hS hr;rintro⟨seen,post,rows,k⟩ ⟨hk,hI,hE⟩ -
 simp only at hk hI hE;obtain⟨hpl,hsl⟩:=hI.post_len;simp only[H5,DK] at hpl hsl;have hkN:k<=N:=JQ;conv=>whnf
 refine ah (fun hk0=>?_) (fun hk0=>?_)
 ·have hk0:0<k:=by have:decide ((k:Int) > 0)=true:=hk0;have:=of_decide_eq_true this;omega
  have hk1:IntKind.i64.wrap ((k:Int)-1)=((k-1:Nat):Int):=by rw[w64 JQ JQ];omega
  obtain⟨⟨v,kk⟩,hv⟩:∃v,rows[k-1]?=some v:=⟨_,ab JQ⟩;have htk:rows.take k=rows.take (k-1)++[(v,kk)]:=by
   conv=>lhs;rw[(JQ:k=(k-1)+1),Hx,hv]
   rfl
  have hst:(rows.take k).reverse=(v,kk)::(rows.take (k-1)).reverse:=by rw[htk,ID];rfl
  have hI':=hInv _ hI;have hL':=hLess _ hI (by show(rows.take k).reverse≠[];rw[hst];simp);have hE':=hE.next (by show(rows.take k).reverse≠[];rw[hst];simp);have htop:=hI.top (v,kk) (by show(v,kk)∈(rows.take k).reverse;rw[hst];simp);have hvN:v<N:=by
   have:=(hI.seen v).2 (.inr (by show v∈(rows.take k).reverse.map (·.1);rw[hst];simp));have:=(a9.1 this).1
   rwa [hI.len] at this
  have hsel:=hI.len;simp only at htop hsel;simp only[hst,A0] at hI' hL' hE';clear hI hE hInv hLess;obtain⟨n,hn⟩:∃n,nodes[v]?=some n:=⟨_,ab JQ⟩;have hf:=eJ n;rw[hfI v n hn] at hf;have hflt:=hlt v;obtain⟨F,hF⟩:∃F,f v=F:=⟨_,rfl⟩;have hfl:=hfl v;rw[hF] at hf hflt hfl htop hI' hL' hE';have hFl:=aZ F;obtain⟨kind,op,slot,thing,⟨sa,ka,wa⟩,⟨sb,kb,wb⟩,next,els,origin⟩:=n;have hrl:(rows.map qJ).length=rows.length:=ad ..;conv=>whnf
  rw[hk1];refine⟨rfl,(JQ:(0:Int)<=((k-1:Nat):Int)),(JQ:((k-1:Nat):Int)<(k:Int)),?_⟩;conv=>whnf
  refine⟨rfl,(by show k-1<(rows.map qJ).length;omega),fun row hrow=>?_⟩;obtain⟨d,hd,rfl⟩:=fc hrow;obtain rfl:=vx (hv.symm.trans hd);clear hrow hd;refine⟨(JS:0<2),fun t ht=>?_⟩;cases ht;conv=>whnf
  refine⟨rfl,(JQ:(0:Int)<=v),(JQ:(v:Int)<((nodes.map Nd.cells).length:Int)),fun row hrow=>?_⟩;obtain⟨d,hd,rfl⟩:=iq hrow;obtain rfl:=vx (hn.symm.trans hd);clear hrow hd hn;conv=>whnf
  refine aa.pure _ (hf) rfl rfl ?_;conv=>whnf
  refine drT ?_;conv=>whnf
  refine⟨rfl,(by show k-1<(rows.map qJ).length;omega),fun row hrow=>?_⟩;obtain⟨d,hd,rfl⟩:=fc hrow;obtain rfl:=vx (hv.symm.trans hd);clear hrow hd;refine⟨(JS:1<2),fun t ht=>?_⟩;cases ht;conv=>whnf
  by_cases hkF:kk=F.length
  ·
   have e1:((kk:Int)==((((F.map fun(x:Nat)=>(x:Int))).map irow).length:Int))=true:=by rw[hFl,hkF];exact HP _
   have hnone:F[kk]?=none:=yB JQ;rw[hnone] at hI' hL' hE';simp only at hI' hL' hE';rw[e1];conv=>whnf
   refine⟨rfl,(by show k-1<(rows.map qJ).length;omega),fun row hrow=>?_⟩;obtain⟨d,hd,rfl⟩:=fc hrow;obtain rfl:=vx (hv.symm.trans hd);clear hrow hd;refine⟨(JS:0<2),fun t ht=>?_⟩;cases ht;conv=>whnf
   refine⟨rfl,rfl,rfl,(by rw[ad];exact t9 _),(JQ:(post.length+1)*8<=150000000000000),fun q hq=>?_,?_⟩
   ·cases hq with
    |head=>exact GG rfl
    |tail _ h=>cases h
   conv=>whnf
   rw[hk1];refine⟨(JQ:(0:Int)<=((k-1:Nat):Int)),(JQ:((k-1:Nat):Int)<=(k:Int)),?_⟩;conv=>whnf
   refine exT ?_;conv=>whnf
   exact⟨(seen,post++[v],rows,k-1),[0,1,2,_],[],Sub.mk' rfl ⟨JY,JY,⟨rfl,JX⟩,JY,J0⟩ ⟨⟨rfl,JZ,JZ,JZ,JZ,J0⟩,⟨rfl,rfl,rfl,rfl⟩,⟨rfl,rfl,rfl,rfl⟩,⟨rfl,rfl,rfl,by rw[vG (by rw[ad];exact t9 _),FP];rfl⟩,J0⟩ rfl rfl,⟨by show k-1<=rows.length;omega,hI',hE'⟩,by show yZ f (seen,post++[v],_)<yZ f (seen,post,(rows.take k).reverse);rw[hst];exact hL'⟩
  ·have hklt:kk<F.length:=JQ;obtain⟨y,hy⟩:∃y,F[kk]?=some y:=⟨_,ab hklt⟩;have hyN:=hflt y (i3 hy);obtain⟨b,hb⟩:∃b,seen[y]?=some b:=⟨_,ab JQ⟩;rw[hy] at hI' hL' hE';simp only[Dp hb] at hI' hL' hE';have e1:((kk:Int)==((((F.map fun(x:Nat)=>(x:Int))).map irow).length:Int))=false:=by rw[hFl,GX];omega
   have hkw:IntKind.i64.wrap ((kk:Int)+1)=((kk+1:Nat):Int):=by rw[w64 JQ JQ];omega
   have hset:(rows.map qJ).set (k-1) ((qJ (v,kk)).take (0+1)++[ti ((kk+1:Nat))]++(qJ (v,kk)).drop (0+1+1))=(rows.set (k-1) (v,kk+1)).map qJ:=by rw[Hp];rfl
   have htk2:(rows.set (k-1) (v,kk+1)).take k=rows.take (k-1)++[(v,kk+1)]:=by
    have:=uY (l:=rows) (i:=k-1) (x:=(v,kk+1)) JQ
    rwa [(JQ:k-1+1=k)] at this
   rw[e1];conv=>whnf
   refine⟨rfl,(by show k-1<(rows.map qJ).length;omega),fun row hrow=>?_⟩;obtain⟨d,hd,rfl⟩:=fc hrow;obtain rfl:=vx (hv.symm.trans hd);clear hrow hd;refine⟨(JS:1<2),fun t ht=>?_⟩;cases ht;conv=>whnf
   refine⟨rfl,(JQ:(0:Int)<=kk),(show(kk:Int)<((((F.map fun(x:Nat)=>(x:Int))).map irow).length:Int) by rw[hFl];omega),fun row hrow=>?_⟩;obtain⟨d,hd,rfl⟩:=aU hrow;obtain rfl:=vx (hy.symm.trans hd);clear hrow hd;conv=>whnf
   refine⟨rfl,(by show k-1<(rows.map qJ).length;omega),fun row hrow=>?_⟩;obtain⟨d,hd,rfl⟩:=fc hrow;obtain rfl:=vx (hv.symm.trans hd);clear hrow hd;refine⟨(JS:1<2),fun t ht=>?_⟩;cases ht;conv=>whnf
   rw[hkw];refine⟨rfl,rfl,(by show k-1<(rows.map qJ).length;omega),fun row hrow=>?_⟩;obtain⟨d,hd,rfl⟩:=fc hrow;obtain rfl:=vx (hv.symm.trans hd);clear hrow hd;refine⟨(JS:1+1<=2),?_⟩;conv=>whnf
   refine⟨rfl,(JQ:(0:Int)<=y),(JQ:(y:Int)<(N:Int)),?_⟩;conv=>whnf
   refine ixV hb ?_;refine⟨(JS:0<1),fun t ht=>?_⟩;cases ht;cases b
   ·conv=>whnf
    refine⟨rfl,(JQ:(0:Int)<=y),(JQ:(y:Int)<(N:Int)),?_⟩;conv=>whnf
    refine ixS hb ?_;refine⟨(JS:0+1<=1),?_⟩;conv=>whnf
    refine⟨rfl,rfl,rfl,(by rw[G0,ad];exact hk),(JQ:(k+1)*16<=150000000000000),fun q hq=>?_,?_⟩
    ·cases hq with
     |head=>exact GG rfl
     |tail _ h=>cases h
    conv=>whnf
    have hlen:((rows.set (k-1) (v,kk+1)).take k++[(y,0)]).length=k+1:=by rw[uR,DK,G0];simp;omega
    have hst2:(((rows.set (k-1) (v,kk+1)).take k++[(y,0)]).take (k+1)).reverse=(y,0)::(v,kk+1)::(rows.take (k-1)).reverse:=by rw[vG (by rw[hlen];exact t9 _),ID,htk2,ID];rfl
    exact⟨(seen.set y true,post,(rows.set (k-1) (v,kk+1)).take k++[(y,0)],k+1),[0,1,_,3],[],Sub.mk' rfl ⟨JY,JY,JY,JY,J0⟩ ⟨⟨rfl,JZ,JZ,JZ,JZ,J0⟩,⟨rfl,rfl,rfl,eY seen y false true⟩,⟨rfl,rfl,rfl,by rw[FP,H7,<-hset];rfl⟩,⟨rfl,rfl,rfl,rfl⟩,J0⟩ rfl rfl,⟨by show k+1<=((rows.set (k-1) (v,kk+1)).take k++[(y,0)]).length;omega,by rw[hst2];exact hI',by rw[hst2];exact hE'⟩,by simp only;rw[hst2,hst];exact hL'⟩
   ·conv=>whnf
    have hst2:((rows.set (k-1) (v,kk+1)).take k).reverse=(v,kk+1)::(rows.take (k-1)).reverse:=by rw[htk2,ID];rfl
    exact⟨(seen,post,rows.set (k-1) (v,kk+1),k),[0,1,2,3],[],Sub.mk' rfl aut ⟨aut,aut,⟨rfl,rfl,rfl,by rw[<-hset];rfl⟩,aut⟩ rfl rfl,⟨by show k<=(rows.set (k-1) (v,kk+1)).length;rw[G0];exact hk,by rw[hst2];exact hI',by rw[hst2];exact hE'⟩,by simp only;rw[hst2,hst];exact hL'⟩
 ·have hk0:k=0:=by have:decide ((k:Int) > 0)=false:=hk0;have:=ud this;omega
  subst hk0;have hp:r=post:=hE.done;subst hp;have hrv:=uM r h1r JQ;obtain⟨ord,hord⟩:∃ord,r.reverse=ord:=⟨_,rfl⟩;have hol:ord.length=r.length:=by rw[<-hord,H5]
  have hoN:∀x∈ord,x<N:=fun x hx=>hrN x (by rw[<-hord] at hx;exact I3.1 hx);rw[hord] at hrv hput |-
  conv=>whnf
  refine exT ?_;conv=>whnf
  refine aa.au [3] [] (hrv) ?_;intro _;conv=>whnf
  refine⟨(by rw[hln];omega),Hd _,(by rw[hln];show(N:Int)*8<=_;omega),?_⟩;conv=>whnf
  rw[hln,GY];refine aq.by (fun i:Nat=>⟨[(5,.sl 0 r.length),(10,.sl 1 N),(90,.sl 0 r.length),(91,.tr (ti r.length)),(92,.tr (ti i))],[(0,bX ord),(1,bX (cO ord N i))],10⟩) (fun i=>i<=r.length) (fun i=>r.length-i) 0 [3,_] []
   (Sub.mk' rfl ⟨⟨rfl,rfl⟩,⟨rfl,rfl⟩,⟨rfl,rfl⟩,.inl rfl,.inl rfl,trivial⟩ ⟨⟨rfl,rfl,rfl,rfl⟩,⟨rfl,rfl,rfl,by rw[pu,<-ry];rfl⟩,trivial⟩ rfl rfl) (x5 _) ?_
  rintro i hi -
  conv=>whnf
  refine ah (fun hit=>?_) (fun hit=>?_)
  ·have hit:i<r.length:=by have:decide ((i:Int)<(r.length:Int))=true:=hit;have:=of_decide_eq_true this;omega
   obtain⟨x,hx⟩:∃x,ord[i]?=some x:=⟨_,ab JQ⟩;have hxN:=hoN x (i3 hx);have hput:=hput i x hx hxN;conv=>whnf
   refine⟨rfl,(JQ:(0:Int)<=i),(JQ:(i:Int)<(r.length:Int)),?_⟩;conv=>whnf
   refine ixV hx ?_;refine⟨(JS:0<1),fun t ht=>?_⟩;cases ht;conv=>whnf
   refine⟨rfl,(JQ:(0:Int)<=x),(JQ:(x:Int)<(N:Int)),?_⟩;conv=>whnf
   refine⟨rfl,rfl,(by show x<((cO ord N i).map eo).length;rw[ad,cu];exact hxN),fun row hrow=>?_⟩;obtain⟨d,hd,rfl⟩:=qS hrow;clear hrow hd;refine⟨(JS:0+1<=1),?_⟩;conv=>whnf
   exact⟨i+1,[0,1],[],Sub.mk' rfl ⟨JY,JY,JY,JZ,.inl (ak hit JQ),J0⟩ ⟨aut,⟨rfl,rfl,rfl,by rw[hput];exact mo _ x d i⟩,J0⟩ rfl rfl,hit,by show r.length-(i+1)<r.length-i;omega⟩
  ·have hit:i=r.length:=by have:decide ((i:Int)<(r.length:Int))=false:=hit;have:=ud this;omega
   have hfin:cO ord N i=eF ord N:=by rw[hit,<-hol];rfl
   conv=>whnf
   refine exT ?_;conv=>whnf
   refine⟨⟨⟨rfl,(by show r.length<=(ord.map eo).length;rw[ad];omega),?_⟩,⟨rfl,(by show N<=((cO ord N i).map eo).length;rw[ad,cu];exact t9 _),?_⟩,J0⟩,J0⟩
   ·show a8 ord=Tr.lst 1 8 ((ord.map eo).take r.length);rw[vG (by rw[ad];omega),ic]
   ·show a8 (eF ord N)=Tr.lst 1 8 (((cO ord N i).map eo).take N);rw[vG (by rw[ad,cu];exact t9 _),hfin,ic]
end Go.Proofs.YtapmdfcmpglieaaGreatDoor.am
set_option maxRecDepth 100000
set_option maxHeartbeats 4000000
namespace Go.Proofs.YtapmdfcmpglieaaGreatDoor.am
open Go Go.Proofs
abbrev lK(l:List Int):Blk:=.vec 3 1 8 (l.map irow)
def nodeAt(ord:List Nat)(i:Nat):Nat:=ord.getD i 0
theorem uJ{ord:List Nat}{i x:Nat}(h:ord[i]?=some x):nodeAt ord i=x:=bR h
theorem DV{f:Nat->List Nat}{ord:List Nat}(hO:c9 f ord){N:Nat}(hN:∀x∈ord,x<N)(hN4:N<=4096){o:Nat->Option Nat}(hU:uu o)(hs:∀i,(o i).isSome=true->i<ord.length){a b m:Nat}(ha:(o a).isSome=true)(hb:(o b).isSome=true)(hm:∀x,Anc o x m<->(Anc o x a/\Anc o x b)):
  K 155 [.tr (ti (nodeAt ord a:Nat)),.tr (ti (nodeAt ord b:Nat)),.ptr 0 0,.ptr 1 0] [.cells 38 [.tr (a8 (eF ord N))],.cells 38 [.sl 2 N],lK (outD ord N o)] (.ret (.tr (ti (nodeAt ord m:Nat)))) [some (.cells 38 [.tr (a8 (eF ord N))]),some (.cells 38 [.sl 2 N]),some (lK (outD ord N o))]:=by
 have hat:∀i,(o i).isSome=true->ord[i]?=some (nodeAt ord i)/\nodeAt ord i<N:=fun i hi=>by have:=j5 (hs i hi);exact⟨this,hN _ (i3 this)⟩
 have hpl:∀i,(o i).isSome=true->(eF ord N)[nodeAt ord i]?=some i:=fun i hi=>xE hO (hat i hi).1 (hat i hi).2;have hou:∀i j,o i=some j->(outD ord N o)[nodeAt ord i]?=some ((nodeAt ord j:Nat):Int):=fun i j hj=>by
  have hi:(o i).isSome=true:=by rw[hj];rfl
  rw[eG hO (hat i hi).1 (hat i hi).2,hj];rfl
 have hij:∀i j,(o i).isSome=true->(o j).isSome=true->nodeAt ord i=nodeAt ord j->i=j:=fun i j hi hj e=>hO.inj (hat i hi).1 (by rw[e];exact(hat j hj).1);have hol:(outD ord N o).length=N:=by simp[outD]
 have hpll:(eF ord N).length=N:=cu ..;clear hO hN hs;generalize outD ord N o=OU at hou hol |-
 generalize eF ord N=PL at hpl hpll |-
 generalize nodeAt ord=nd at hat hpl hou hij |-
 have hPl:=aZ PL;refine Ctr.of hT hmix Tryz.func155 rfl (fun _ _=>JR) rfl fun hok=>?_;clear hok;conv=>whnf
 refine aq.by (fun x:Nat×Nat=>⟨[(0,.tr (ti (nd x.1:Nat))),(1,.tr (ti (nd x.2:Nat))),(2,.ptr 0 0),(3,.ptr 1 0)],[(0,.cells 38 [.tr (a8 PL)]),(1,.cells 38 [.sl 2 N]),(2,lK OU)],10⟩) (fun x=>(o x.1).isSome=true/\(o x.2).isSome=true/\∀z,Anc o z m<->(Anc o z x.1/\Anc o z x.2)) (fun x=>x.1+x.2) (a,b) [0,1,2] []
  (Sub.au) ⟨ha,hb,hm⟩ ?_
 clear ha hb hm;rintro⟨a,b⟩ ⟨ha,hb,hm⟩ -
 simp only at ha hb hm;conv=>whnf
 by_cases hab:a=b
 ·subst hab;obtain rfl:m=a:=Ce hU fun x=>(hm x).trans ⟨fun w=>w.1,fun w=>⟨w,w⟩⟩;have e:(((nd m:Nat):Int) != ((nd m:Nat):Int))=false:=JX;refine ah (fun g=>ctf g e) (fun _=>?_);conv=>whnf
  refine exT ?_;conv=>whnf
  exact aut
 have e:(((nd a:Nat):Int) != ((nd b:Nat):Int))=true:=by have:nd a≠nd b:=fun w=>hab (hij a b ha hb w);exact J4.2 (fun w=>this JQ)
 refine ah (fun _=>?_) (fun g=>ctf e g);conv=>whnf
 refine aq.by (fun x:Nat=>⟨[(0,.tr (ti (nd x:Nat))),(1,.tr (ti (nd b:Nat))),(2,.ptr 0 0),(3,.ptr 1 0)],[(0,.cells 38 [.tr (a8 PL)]),(1,.cells 38 [.sl 2 N]),(2,lK OU)],10⟩) (fun x=>(o x).isSome=true/\x<=a/\∀z,Anc o z m<->(Anc o z x/\Anc o z b)) (fun x=>x) a [0,1,2] []
  (Sub.au) ⟨ha,t9 _,hm⟩ ?_
 clear hm e;rintro x ⟨hx,hxa,hm⟩ -
 conv=>whnf
 refine⟨rfl,(JQ:(0:Int)<=(nd x:Nat)),(by show((nd x:Nat):Int)<((((PL.map fun(x:Nat)=>(x:Int))).map irow).length:Int);rw[hPl,hpll];have:=(hat x hx).2;omega),fun row hrow=>?_⟩;obtain⟨d,hd,rfl⟩:=aU hrow;obtain rfl:=vx ((hpl x hx).symm.trans hd);clear hrow hd;conv=>whnf
 refine⟨rfl,(JQ:(0:Int)<=(nd b:Nat)),(by show((nd b:Nat):Int)<((((PL.map fun(x:Nat)=>(x:Int))).map irow).length:Int);rw[hPl,hpll];have:=(hat b hb).2;omega),fun row hrow=>?_⟩;obtain⟨d,hd,rfl⟩:=aU hrow;obtain rfl:=vx ((hpl b hb).symm.trans hd);clear hrow hd;conv=>whnf
 refine drT ?_;conv=>whnf
 refine ah (fun hgt=>?_) (fun hgt=>?_)
 ·have hgt:b<x:=by have:decide ((x:Int) > (b:Int))=true:=hgt;have:=of_decide_eq_true this;omega
  obtain⟨j,hj⟩:=GV.1 hx;obtain⟨q1,q2⟩:=hU.lt x j JQ hj;have hxN:=(hat x hx).2;conv=>whnf
  refine⟨rfl,(JQ:(0:Int)<=(nd x:Nat)),(JQ:((nd x:Nat):Int)<(N:Int)),?_⟩;conv=>whnf
  refine⟨rfl,(by show nd x<(OU.map irow).length;rw[ad];omega),fun row hrow=>?_⟩;obtain⟨d,hd,rfl⟩:=eK hrow;obtain rfl:=vx ((hou x j hj).symm.trans hd);clear hrow hd;refine⟨(JS:0<1),fun t ht=>?_⟩;cases ht;conv=>whnf
  exact⟨j,[0,1,2],[],Sub.au,⟨q2,JQ,fun z=>(hm z).trans (iS hU hgt hj)⟩,q1⟩
 have hle:x<=b:=by have:decide ((x:Int) > (b:Int))=false:=hgt;have:=ud this;omega
 conv=>whnf
 refine exT ?_;conv=>whnf
 refine aq.by (fun y:Nat=>⟨[(0,.tr (ti (nd x:Nat))),(1,.tr (ti (nd y:Nat))),(2,.ptr 0 0),(3,.ptr 1 0)],[(0,.cells 38 [.tr (a8 PL)]),(1,.cells 38 [.sl 2 N]),(2,lK OU)],10⟩) (fun y=>(o y).isSome=true/\y<=b/\∀z,Anc o z m<->(Anc o z x/\Anc o z y)) (fun y=>y) b [0,1,2] []
  (Sub.au) ⟨hb,t9 _,hm⟩ ?_
 clear hm hgt;rintro y ⟨hy,hyb,hm⟩ -
 conv=>whnf
 refine⟨rfl,(JQ:(0:Int)<=(nd y:Nat)),(by show((nd y:Nat):Int)<((((PL.map fun(x:Nat)=>(x:Int))).map irow).length:Int);rw[hPl,hpll];have:=(hat y hy).2;omega),fun row hrow=>?_⟩;obtain⟨d,hd,rfl⟩:=aU hrow;obtain rfl:=vx ((hpl y hy).symm.trans hd);clear hrow hd;conv=>whnf
 refine⟨rfl,(JQ:(0:Int)<=(nd x:Nat)),(by show((nd x:Nat):Int)<((((PL.map fun(x:Nat)=>(x:Int))).map irow).length:Int);rw[hPl,hpll];have:=(hat x hx).2;omega),fun row hrow=>?_⟩;obtain⟨d,hd,rfl⟩:=aU hrow;obtain rfl:=vx ((hpl x hx).symm.trans hd);clear hrow hd;conv=>whnf
 refine drT ?_;conv=>whnf
 refine ah (fun hgt=>?_) (fun hgt=>?_)
 ·have hgt:x<y:=by have:decide ((y:Int) > (x:Int))=true:=hgt;have:=of_decide_eq_true this;omega
  obtain⟨j,hj⟩:=GV.1 hy;obtain⟨q1,q2⟩:=hU.lt y j JQ hj;have hyN:=(hat y hy).2;conv=>whnf
  refine⟨rfl,(JQ:(0:Int)<=(nd y:Nat)),(JQ:((nd y:Nat):Int)<(N:Int)),?_⟩;conv=>whnf
  refine⟨rfl,(by show nd y<(OU.map irow).length;rw[ad];omega),fun row hrow=>?_⟩;obtain⟨d,hd,rfl⟩:=eK hrow;obtain rfl:=vx ((hou y j hj).symm.trans hd);clear hrow hd;refine⟨(JS:0<1),fun t ht=>?_⟩;cases ht;conv=>whnf
  exact⟨j,[0,1,2],[],Sub.au,⟨q2,JQ,fun z=>by have:=iS hU (x:=z) hgt hj;exact(hm z).trans ⟨fun w=>(this.1 ⟨w.2,w.1⟩).symm,fun w=>(this.2 ⟨w.2,w.1⟩).symm⟩⟩,q1⟩
 have hle2:y<=x:=by have:decide ((y:Int) > (x:Int))=false:=hgt;have:=ud this;omega
 conv=>whnf
 refine exT ?_;conv=>whnf
 exact⟨(x,y),[0,1,2],[],Sub.au,⟨hx,hy,hm⟩,by show x+y<a+b;omega⟩
end Go.Proofs.YtapmdfcmpglieaaGreatDoor.am
set_option maxRecDepth 100000
set_option maxHeartbeats 4000000
namespace Go.Proofs.YtapmdfcmpglieaaGreatDoor.am
open Go Go.Proofs
def wq(ord:List Nat):Option Nat->Int
 |none=>-1
 |some m=>(nodeAt ord m:Nat)
theorem mh(l:List Int)(i:Nat)(a b:Int):(l.map irow).set i ((irow a).take 0++[ti b]++(irow a).drop (0+1))=(l.set i b).map irow:=by rw[Hp];rfl
theorem eX{l:List Int}{i:Nat}{row:List Tr}(h:(l.map irow)[i]?=some row):∃d,l[i]?=some d/\row=irow d:=eK h
theorem ze(n:Nat):List.replicate n [Tr.v (.int .i64 0)]=(List.replicate n (0:Int)).map irow:=by rw[H9];rfl
theorem nr(g:Gr)(hW:cm g=true):K 113 [g.av] [] (.ret (.tr (az (fy (fol g) g.nodes.length)))) []:=by
 have hw:=lX g;rw[hW] at hw;have ha:=pM g hW;have hWh:=aT hW;obtain⟨r,sn,hr,hI⟩:=qU hWh.len hWh.lt _ _ (Hh _) (rf.start (fol g) hWh.pos);have hO:=hI.ord;have hrN:∀x∈r,x<g.nodes.length:=fun x hx=>((hO.mem x).1 (I3.2 hx)).lt hWh.pos hWh.lt;have hbk:=oU g hWh r hr hO hrN;have hM1:=(a9.1 hO.zero).1;clear hI hr;obtain⟨ord,hord⟩:∃ord,r.reverse=ord:=⟨_,rfl⟩;rw[hord] at hO hbk hM1;have hN:∀x∈ord,x<g.nodes.length:=fun x hx=>hrN x (by rw[<-hord] at hx;exact I3.1 hx);clear hord hrN;obtain⟨t,ht⟩:=hO.tree;have hidom:=fun o h1 h2=>wm (N:=g.nodes.length) hWh.pos hWh.lt hO (t:=t) (o:=o) h1 h2;have hst:=sF hO hWh.pos;have hdom0:=om.start hM1 (gI (fol g) ord) t;have hstep:=fun n b o h h0 hn hb=>om.step (P:=gI (fol g) ord) ht (n:=n) (b:=b) (o:=o) h h0 hn hb;have hfin:=fun i x o b hi h1 h2 hm=>fu.fin hO hN (i:=i) (x:=x) (o:=o) (t:=t) (b:=b) hi h1 h2 hm;have hset:=fun o n b x y hn hb=>zU hO (N:=g.nodes.length) (o:=o) (n:=n) (b:=b) (x:=x) (y:=y) hn hb;have hat:=fun o i x hi hx=>eG hO (N:=g.nodes.length) (o:=o) (i:=i) (x:=x) hi hx;have hno:=fun(o:Nat->Option Nat) x hx h2=>iX (ord:=ord) (N:=g.nodes.length) (o:=o) (x:=x) hx h2;have hal:∀x,x<g.nodes.length->(aheadL (fol g) g.nodes.length)[x]?=some (bj (fol g) g.nodes.length x):=fun x hx=>by simp[aheadL,hx]
 have hall:(aheadL (fol g) g.nodes.length).length=g.nodes.length:=by simp[aheadL]
 have haN:∀x,∀p∈bj (fol g) g.nodes.length x,p<g.nodes.length:=fun x p hp=>(cV.1 hp).1;have hBl:∀x,(bj (fol g) g.nodes.length x).length<=g.nodes.length:=fun x=>by
  have:=HO (fun i=>(fol g i).contains x) (List.range g.nodes.length)
  rwa [HZ] at this
 have hmeet:=fun o hU hs a b m ha hb hm=>DV hO hN hWh.most (o:=o) hU hs (a:=a) (b:=b) (m:=m) ha hb hm;have hidx:=fun i x h=>hO.idx (i:=i) (x:=x) h;have hpos:=hWh.pos;have hmo:=hWh.most;have hml:ord.length<=g.nodes.length:=cI _ _ hO.nodup hN;clear hWh hW;generalize fy (fol g) g.nodes.length=R at hidom |-
 generalize aheadL (fol g) g.nodes.length=A at ha hal hall;generalize bj (fol g) g.nodes.length=B at hfin hal haN hBl;generalize gI (fol g) ord=P at ht hidom hdom0 hstep hfin;obtain⟨name,locals,slots,nodes⟩:=g;simp only at hbk hidom hst hset hat hno hal hall haN hmeet hpos hmo hml hN hBl;have hln:(nodes.map Nd.cells).length=nodes.length:=ad ..;obtain⟨N,hNe⟩:∃N,nodes.length=N:=⟨_,rfl⟩;rw[hNe] at hbk hidom hst hset hat hno hal hall haN hmeet hpos hmo hln hml hN hBl;obtain⟨M,hMe⟩:∃M,ord.length=M:=⟨_,rfl⟩;rw[hMe] at hM1 ht hidom hdom0 hstep hml;have hol:∀o,(outD ord N o).length=N:=fun o=>by simp[outD]
 generalize eF ord N=PL at hbk hmeet;have hno2:=aZ ord;refine Ctr.of hT hmix Tryz.func113 rfl (fun _ _=>JR) rfl fun hok=>?_;clear hok;conv=>whnf
 refine aa.pure _ (hw) rfl rfl fun _=>?_;conv=>whnf
 refine aa.pure _ (hbk) rfl rfl fun _=>?_;conv=>whnf
 refine aa.pure _ (ha) rfl rfl fun _=>?_;conv=>whnf
 refine⟨(by rw[hln];omega),Hd _,(by rw[hln];show(N:Int)*8<=_;omega),?_⟩;conv=>whnf
 rw[hln,GY];refine aq.by (fun i:Nat=>⟨[(3,.tr (a8 ord)),(4,.ptr 0 0),(5,.tr (cD A)),(6,.ptr 1 0),(30,.tr (ti N)),(31,.tr (ti i))],[(0,.cells 38 [.tr (a8 PL)]),(1,.cells 38 [.sl 2 N]),(2,lK (iB N i))],10⟩) (fun i=>i<=N) (fun i=>N-i) 0 [_,_,_] []
  (Sub.mk' rfl ⟨.inl rfl,⟨rfl,rfl⟩,.inl rfl,⟨rfl,rfl⟩,.inl rfl,.inl rfl,trivial⟩ ⟨⟨rfl,.inl rfl,trivial⟩,⟨rfl,⟨rfl,rfl⟩,trivial⟩,⟨rfl,rfl,rfl,by show List.replicate N [Tr.v (.int .i64 0)]=(iB N 0).map irow;rw[ze];rfl⟩,trivial⟩ rfl rfl) (x5 _) ?_
 rintro i hi -
 conv=>whnf
 refine ah (fun hit=>?_) (fun hit=>?_)
 ·have hit:i<N:=by have:=of_decide_eq_true hit;omega
  have hfs:=xG hit;have hfl:(iB N i).length=N:=by simp[iB];omega
  conv=>whnf
  refine⟨rfl,(JQ:(0:Int)<=i),(JQ:(i:Int)<(N:Int)),?_⟩;conv=>whnf
  refine⟨rfl,rfl,(by show i<((iB N i).map irow).length;rw[ad];omega),fun row hrow=>?_⟩;obtain⟨d,hd,rfl⟩:=eX hrow;clear hrow hd;refine⟨(JS:0+1<=1),?_⟩;conv=>whnf
  exact⟨i+1,[0,1,2],[],Sub.mk' rfl ⟨JZ,JY,JZ,JY,JZ,.inl (ak hit JQ),J0⟩ ⟨aut,aut,⟨rfl,rfl,rfl,by rw[<-hfs];exact mh _ i d (-1)⟩,J0⟩ rfl rfl,hit,by show N-(i+1)<N-i;omega⟩
 have hit:i=N:=by have:=ud hit;omega
 subst hit;have hfi:(iB i i).set 0 0=outD ord i rF:=by rw[hst];simp[iB]
 conv=>whnf
 refine exT ?_;conv=>whnf
 refine⟨rfl,JS,(JQ:(0:Int)<(i:Int)),?_⟩;conv=>whnf
 refine⟨rfl,rfl,(by show 0<((iB i i).map irow).length;rw[ad];simp[iB];omega),fun row hrow=>?_⟩;obtain⟨d,hd,rfl⟩:=eX hrow;clear hrow hd;refine⟨(JS:0+1<=1),?_⟩;conv=>whnf
 obtain⟨N,hNi⟩:∃N,i=N:=⟨_,rfl⟩;refine aq.by (fun x:(Nat->Option Nat)×Bool=>⟨[(3,.tr (a8 ord)),(4,.ptr 0 0),(5,.tr (cD A)),(6,.ptr 1 0),(8,.fn 155 [.ptr 0 0,.ptr 1 0]),(9,.tr (tb x.2))],[(0,.cells 38 [.tr (a8 PL)]),(1,.cells 38 [.sl 2 i]),(2,lK (outD ord i x.1))],10⟩) (fun x=>(x.2=true->om M P t 1 x.1)/\(x.2=false->om M P t M x.1/\∀n b,0<n->n<M->x.1 n=some b->sN P x.1 n b)) (fun x=>2*tF M x.1+x.2.toNat) (rF,true) [0,1,2] []
  (Sub.mk' rfl aut ⟨aut,aut,⟨rfl,rfl,rfl,by rw[<-hfi];exact mh _ 0 d 0⟩,trivial⟩ rfl rfl) ⟨fun _=>hdom0,fun h=>by cases h⟩ ?_
 rintro⟨o0,again⟩ ⟨hA,hB⟩ -
 simp only at hA hB;cases again
 ·obtain⟨h1,h2⟩:=hB rfl;have hR:=hidom o0 h1 h2;conv=>whnf
  refine exT ?_;conv=>whnf
  refine⟨rfl,JS,(JQ:(0:Int)<(i:Int)),?_⟩;conv=>whnf
  refine⟨rfl,rfl,(by show 0<((outD ord i o0).map irow).length;rw[ad,hol];omega),fun row hrow=>?_⟩;obtain⟨d,hd,rfl⟩:=eX hrow;clear hrow hd;refine⟨(JS:0+1<=1),?_⟩;conv=>whnf
  refine⟨⟨rfl,(by rw[G0,ad,hol];exact t9 _),?_⟩,J0⟩;rw[vG (by rw[G0,ad,hol];exact t9 _),<-hR];exact E8 (Tr.lst 1 8) (mh _ 0 d (-1)).symm
 have hA:=hA rfl;clear hB;have hd43:Tr.lst 1 8 ((((ord.map fun(x:Nat)=>(x:Int)).map irow).take ((ord.map fun(x:Nat)=>(x:Int)).map irow).length).drop 1)=a8 (ord.drop 1):=by rw[Hi,<-List.map_drop,<-List.map_drop]
 have hl43:((((ord.map fun(x:Nat)=>(x:Int)).map irow).take ((ord.map fun(x:Nat)=>(x:Int)).map irow).length).drop 1).length=M-1:=by rw[Hi,Hu,hno2,hMe]
 conv=>whnf
 refine⟨rfl,JS,(JQ:(1:Int)<=((((ord.map fun(x:Nat)=>(x:Int)).map irow).length:Nat):Int)),Hd _,?_⟩;conv=>whnf
 refine aq.by (fun x:(Nat->Option Nat)×Bool×Nat=>⟨[(3,.tr (a8 ord)),(4,.ptr 0 0),(5,.tr (cD A)),(6,.ptr 1 0),(8,.fn 155 [.ptr 0 0,.ptr 1 0]),(9,.tr (tb x.2.1)),(43,.tr (a8 (ord.drop 1))),(44,.tr (ti (M-1:Nat))),(45,.tr (ti x.2.2))],[(0,.cells 38 [.tr (a8 PL)]),(1,.cells 38 [.sl 2 i]),(2,lK (outD ord i x.1))],10⟩) (fun x=>x.2.2<=M-1/\om M P t (x.2.2+1) x.1/\(x.2.1=false->x.1=o0/\∀n b,0<n->n<x.2.2+1->x.1 n=some b->sN P x.1 n b)/\(x.2.1=true->tF M x.1<tF M o0)) (fun x=>M-1-x.2.2) (o0,false,0) [0,1,2] []
  (Sub.mk' rfl ⟨.inl rfl,⟨rfl,rfl⟩,.inl rfl,⟨rfl,rfl⟩,aut,.inl rfl,.inl hd43,.inl (E8 (fun q:Nat=>ti (q:Nat)) hl43),aut⟩ aut rfl rfl) ⟨x5 _,hA,fun _=>⟨rfl,fun n b h1 h2=>absurd h2 (by show¬ (n<0+1);omega)⟩,fun h=>by cases h⟩ ?_
 clear hA;rintro⟨o,again,k⟩ ⟨hk,hD,hF,hT⟩ -
 simp only at hk hD hF hT;conv=>whnf
 refine ah (fun hkt=>?_) (fun hkt=>?_)
 case refine_2=>
  have hkt:k=M-1:=by have:decide ((k:Int)<((M-1:Nat):Int))=false:=hkt;have:=ud this;omega
  subst hkt;rw[(JQ:M-1+1=M)] at hD hF;conv=>whnf
  refine exT ?_;conv=>whnf
  refine⟨(o,again),[0,1,2],[],Sub.au,⟨fun _=>hD.again,fun h=>⟨hD,fun n b h1 h2 h3=>(hF h).2 n b h1 h2 h3⟩⟩,?_⟩;cases again;·rw[(hF rfl).1];show 2*tF M o0+0<2*tF M o0+1;omega
  ·have:=hT rfl;show 2*tF M o+1<2*tF M o0+1;omega
 have hkt:k<M-1:=by have:decide ((k:Int)<((M-1:Nat):Int))=true:=hkt;have:=of_decide_eq_true this;omega
 obtain⟨x,hx⟩:∃x,ord[k+1]?=some x:=⟨_,ab JQ⟩;have hx43:(ord.drop 1)[k]?=some x:=by rw[GA,Kd];exact hx
 have hxN:=hN x (i3 hx);obtain⟨ht1,ht2⟩:=ht (k+1) JQ JQ;have hts:=hD.did _ ht2;have hstep:=hstep (k+1);have hfin:=hfin (k+1) x;have haN:=haN x;have halx:=hal x hxN;have hlL:=aZ (B x);obtain⟨L,hL⟩:∃L,B x=L:=⟨_,rfl⟩;have hLi:=hBl x;rw[hL] at hfin haN halx hlL hLi;conv=>whnf
 refine⟨rfl,(JQ:(0:Int)<=k),(by show(k:Int)<(((((ord.drop 1).map fun(x:Nat)=>(x:Int))).map irow).length:Int);rw[aZ,Hu];omega),fun row hrow=>?_⟩;obtain⟨d,hd,rfl⟩:=aU hrow;obtain rfl:=vx (hx43.symm.trans hd);clear hrow hd;conv=>whnf
 refine⟨rfl,(JQ:(0:Int)<=x),(by show(x:Int)<((A.map mM).length:Int);rw[ad,hall];omega),fun row hrow=>?_⟩;obtain⟨d,hd,rfl⟩:=gq hrow;obtain rfl:=vx (halx.symm.trans hd);clear hrow hd;conv=>whnf
 refine aq.by (fun q:Option Nat×Nat=>⟨[(3,.tr (a8 ord)),(4,.ptr 0 0),(5,.tr (cD A)),(6,.ptr 1 0),(8,.fn 155 [.ptr 0 0,.ptr 1 0]),(9,.tr (tb again)),(11,.tr (ti x)),(12,.tr (ti (wq ord q.1))),(43,.tr (a8 (ord.drop 1))),(44,.tr (ti (M-1:Nat))),(45,.tr (ti k)),(52,.tr (a8 L)),(53,.tr (ti L.length)),(54,.tr (ti q.2))],[(0,.cells 38 [.tr (a8 PL)]),(1,.cells 38 [.sl 2 i]),(2,lK (outD ord i o))],10⟩) (fun q=>q.2<=L.length/\fu o (uv ord (L.take q.2)) q.1) (fun q=>L.length-q.2) (none,0) [0,1,2] []
  (Sub.mk' rfl ⟨.inl rfl,⟨rfl,rfl⟩,.inl rfl,⟨rfl,rfl⟩,aut,.inl rfl,.inl rfl,.inl rfl,.inl rfl,.inl rfl,.inl rfl,.inl rfl,.inl (by rw[<-hlL]),aut⟩ aut rfl rfl) ⟨x5 _,fun p hp=>by cases hp⟩ ?_
 rintro⟨best,j⟩ ⟨hj,hMK⟩ -
 simp only at hj hMK;conv=>whnf
 refine ah (fun hjt=>?_) (fun hjt=>?_)
 ·have hjL:j<L.length:=by have:decide ((j:Int)<(L.length:Int))=true:=hjt;have:=of_decide_eq_true this;omega
  clear hjt;obtain⟨p,hp⟩:∃p,L[j]?=some p:=⟨_,ab hjL⟩;have hpN:=haN p (i3 hp);have htk:L.take (j+1)=L.take j++[p]:=by rw[Hx,hp];rfl
  have hsn:=xd ord (L.take j) p;rw[<-htk] at hsn;obtain⟨v,hv⟩:∃v,(outD ord i o)[p]?=some v:=⟨_,ab (by rw[hol];exact hpN)⟩;conv=>whnf
  refine⟨rfl,(JQ:(0:Int)<=j),(by show(j:Int)<((((L.map fun(x:Nat)=>(x:Int))).map irow).length:Int);rw[hlL];omega),fun row hrow=>?_⟩;obtain⟨d,hd,rfl⟩:=aU hrow;obtain rfl:=vx (hp.symm.trans hd);clear hrow hd;conv=>whnf
  refine⟨rfl,(JQ:(0:Int)<=p),(JQ:(p:Int)<(i:Int)),?_⟩;conv=>whnf
  refine⟨rfl,(by show p<((outD ord i o).map irow).length;rw[ad,hol];exact hpN),fun row hrow=>?_⟩;obtain⟨d,hd,rfl⟩:=eX hrow;obtain rfl:=vx (hv.symm.trans hd);clear hrow hd;refine⟨(JS:0<1),fun t ht=>?_⟩;cases ht;by_cases hsk:v<0
  ·
   have hMK2:fu o (uv ord (L.take (j+1))) best:=by
    rw[hsn];cases hc:ord.contains p with
    |false=>exact hMK
    |true=>
     obtain⟨q,hq⟩:∃q:Nat,ord[q]?=some p:=by obtain⟨q,hq,e⟩:=Gy.1 (GJ.1 hc);exact⟨q,by rw[ab hq,e]⟩
     rw[hidx q p hq];refine hMK.skip ?_;have:=hat o q p hq hpN;rw[hv] at this;cases ho:o q with
     |none=>rfl
     |some w=>rw[ho] at this;cases this;exact absurd hsk (by simp only;omega)
   have e1:decide (v<0)=true:=GC hsk;conv=>whnf
   rw[e1];conv=>whnf
   refine exT ?_;conv=>whnf
   exact⟨(best,j+1),[0,1,2],[],Sub.mk' rfl ⟨JZ,JY,JZ,JY,aut,JZ,JZ,JZ,JZ,JZ,JZ,JZ,JZ,.inl (ak hjL (by have:L.length<=i:=hLi;omega)),J0⟩ aut rfl rfl,⟨hjL,hMK2⟩,by show L.length-(j+1)<L.length-j;omega⟩
  have e1:decide (v<0)=false:=Gz hsk;obtain⟨q,hq⟩:∃q:Nat,ord[q]?=some p:=by
   cases hc:ord.contains p with
   |true=>
    obtain⟨q,hq,e⟩:=Gy.1 (GJ.1 hc);exact⟨q,by rw[ab hq,e]⟩
   |false=>
    have:=hno o p (by simpa using hc) hpN;rw[hv] at this;cases this;exact absurd (JS:(-1:Int)<0) hsk
  have hqs:(o q).isSome=true:=by
   have:=hat o q p hq hpN;rw[hv] at this;cases ho:o q with
   |none=>rw[ho] at this;cases this;exact absurd (JS:(-1:Int)<0) hsk
   |some w=>rfl
  have hcon:ord.contains p=true:=GJ.2 (i3 hq);rw[hcon,r7,hidx q p hq] at hsn;have hpq:nodeAt ord q=p:=uJ hq;conv=>whnf
  rw[e1];conv=>whnf
  cases best with
  |none=>
   have e2:decide (wq ord none<0)=true:=(JS:decide ((-1:Int)<0)=true);rw[e2];conv=>whnf
   exact⟨(some q,j+1),[0,1,2],[],Sub.mk' rfl ⟨JZ,JY,JZ,JY,aut,JZ,JZ,.inl (by show ti (p:Nat)=ti (nodeAt ord q:Nat);rw[hpq]),JZ,JZ,JZ,JZ,JZ,.inl (ak hjL (by have:L.length<=i:=hLi;omega)),J0⟩ aut rfl rfl,⟨hjL,by show fu o (uv ord (L.take (j+1))) (some q);rw[hsn];exact hMK.first hqs⟩,by show L.length-(j+1)<L.length-j;omega⟩
  |some m=>
   have e2:decide (wq ord (some m)<0)=false:=Gz (by show¬ (((nodeAt ord m:Nat):Int)<0);omega);obtain⟨w,hw1,hw2⟩:=pL hD.up (m+q) m q (t9 _) hMK.1 hqs;have hmt:=hmeet o hD.up (fun i hi=>by rw[hMe];exact hD.most i hi) m q w hMK.1 hqs hw2;rw[hpq] at hmt;rw[e2];conv=>whnf
   refine aa.au [0,1,2] [] (hmt) ?_;intro _;conv=>whnf
   exact⟨(some w,j+1),[0,1,2],[],Sub.mk' rfl ⟨JZ,JY,JZ,JY,aut,JZ,JZ,JZ,JZ,JZ,JZ,JZ,JZ,.inl (ak hjL (by have:L.length<=i:=hLi;omega)),J0⟩ aut rfl rfl,⟨hjL,by show fu o (uv ord (L.take (j+1))) (some w);rw[hsn];exact hMK.more hqs hw1 hw2⟩,by show L.length-(j+1)<L.length-j;omega⟩
 have hjt:j=L.length:=by have:decide ((j:Int)<(L.length:Int))=false:=hjt;have:=ud this;omega
 subst hjt;rw[Hi] at hMK;obtain⟨b,rfl,hbs,hmi⟩:=hfin o best hx ht1 hts hMK;obtain⟨hD2,hbl,hcl⟩:=hstep b o hD JQ JQ hmi;have hbx:ord[b]?=some (nodeAt ord b):=j5 JQ;have hox:=hat o (k+1) x hx hxN;obtain⟨v,hv⟩:∃v,(outD ord i o)[x]?=some v:=⟨_,ab (by rw[hol];exact hxN)⟩;rw[hv] at hox;have hox:=vx hox;conv=>whnf
 refine exT ?_;conv=>whnf
 refine⟨rfl,(JQ:(0:Int)<=x),(JQ:(x:Int)<(i:Int)),?_⟩;conv=>whnf
 refine⟨rfl,(by show x<((outD ord i o).map irow).length;rw[ad,hol];exact hxN),fun row hrow=>?_⟩;obtain⟨d,hd,rfl⟩:=eX hrow;obtain rfl:=vx (hv.symm.trans hd);clear hrow hd;refine⟨(JS:0<1),fun t ht=>?_⟩;cases ht;by_cases hsame:o (k+1)=some b
 ·
  have hv2:v=(nodeAt ord b:Nat):=by rw[hox,hsame];rfl
  have e1:(v != wq ord (some b))=false:=by rw[hv2];show(((nodeAt ord b:Nat):Int) != ((nodeAt ord b:Nat):Int))=false;simp
  rw[B3 hsame] at hD2;conv=>whnf
  rw[e1];conv=>whnf
  exact⟨(o,again,k+1),[0,1,2],[],Sub.mk' rfl ⟨JZ,JY,JZ,JY,aut,JZ,JZ,JZ,.inl (ak hkt JQ),J0⟩ aut rfl rfl,⟨hkt,hD2,fun h=>⟨(hF h).1,fun n c h1 h2 h3=>by
   by_cases e:n=k+1;·subst e;have h3:o (k+1)=some c:=h3;rw[hsame] at h3;cases h3;exact hmi
   ·exact(hF h).2 n c h1 (by show n<k+1;have:n<k+1+1:=h2;omega) h3⟩,hT⟩,by show M-1-(k+1)<M-1-k;omega⟩
 ·have hv2:v≠(nodeAt ord b:Nat):=by
   cases ho:o (k+1) with
   |none=>rw[ho] at hox;rw[hox];simp only;omega
   |some c=>
    rw[ho] at hox;intro w;rw[hox] at w;have hc:=hcl c ho;have hck:=(hD.up.lt (k+1) c JQ ho).1;have hcx:ord[c]?=some (nodeAt ord c):=j5 JQ;have e2:nodeAt ord c=nodeAt ord b:=by have:((ord.getD c 0:Nat):Int)=((nodeAt ord b:Nat):Int):=w;exact Int.ofNat_inj.1 this
    have h3:=hidx c _ hcx;have h4:=hidx b _ hbx;rw[e2] at h3;exact hsame (by rw[ho,<-h3,h4])
  have e1:(v != wq ord (some b))=true:=J4.2 hv2;have hst2:=hset o (k+1) b x _ hx hbx;have hlt:=wj (M:=M) (o:=o) (n:=k+1) (b:=b) JQ hbl hcl hsame;conv=>whnf
  rw[e1];conv=>whnf
  refine⟨rfl,(JQ:(0:Int)<=x),(JQ:(x:Int)<(i:Int)),?_⟩;conv=>whnf
  refine⟨rfl,rfl,(by show x<((outD ord i o).map irow).length;rw[ad,hol];exact hxN),fun row hrow=>?_⟩;obtain⟨d,hd,rfl⟩:=eX hrow;clear hrow hd;refine⟨(JS:0+1<=1),?_⟩;conv=>whnf
  exact⟨(kE o (k+1) b,true,k+1),[0,1,2],[],Sub.mk' rfl ⟨JZ,JY,JZ,JY,aut,JZ,JZ,JZ,.inl (ak hkt JQ),J0⟩ ⟨aut,aut,⟨rfl,rfl,rfl,by rw[hst2];exact mh _ x d _⟩,J0⟩ rfl rfl,⟨hkt,hD2,fun h=>(by cases h),fun _=>by
   show tF M (kE o (k+1) b)<tF M o0;cases again;·rw[<-(hF rfl).1];exact hlt
   ·have:=hT rfl;omega⟩,by show M-1-(k+1)<M-1-k;omega⟩
end Go.Proofs.YtapmdfcmpglieaaGreatDoor.am
