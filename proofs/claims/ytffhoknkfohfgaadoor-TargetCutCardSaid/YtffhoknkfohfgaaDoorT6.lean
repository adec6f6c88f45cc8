/- The types of the translation, as the abstract machine has them (printed by gen_ty.py). Contracts of target: the kinds and fields of instructions. Contracts of target: what is used, right instructions, what is read, written, comes next. Contracts: names (the program's). Contracts of target: right instructions; what is read, written, comes next. Contracts of target: numbers and words as bytes. Contracts of target: bytes behind a row that has no room; the region that makes it, by hand. Contracts of target: putNumber behind the magic; putWord; Encode's own function. Contracts of target: an instruction's fields as bytes. Contracts of target: the shape of objects; right objects. Contracts of target: right objects. Plain: what Check tells of an object. Contract of target.Encode. Plain: numbers and words as bytes, there and back. Parse, of the package and of the reference. Parse of the package: a text that begins with no minus. Parse of the package: a text that begins with a minus. Print, of the package and of the reference. Parse, at every text. -/
import Derived.Test.YtffhoknkfohfgaaDoorT3
import Derived.Test.YtffhoknkfohfgaaDoorProg
import Derived.KernelRfl
import Derived.Test.YtffhoknkfohfgaaDoorT4
import Derived.Lib.ConvBytes
import Derived.WalkLawsBesides
import Derived.Deep.WholeRow
import Derived.Lib.Hide
import Derived.Below
import Derived.Lib.Mul64
import Derived.Laws.Bits64b
import Derived.ShutString
set_option linter.all false

namespace Go.Proofs.YtffhoknkfohfgaaDoor.am
open Go
set_option maxRecDepth 100000 in
def T : Ty := [
  (1, ⟨.func, 1, 8, [.f], false⟩),
  (2, ⟨.int .i64, 1, 8, [.i .i64], false⟩),
  (3, ⟨.int .i64, 1, 8, [.i .i64], false⟩),
  (4, ⟨.bool, 1, 1, [.b], false⟩),
  (5, ⟨.int .u8, 1, 1, [.i .u8], false⟩),
  (9, ⟨.string, 1, 16, [.s], false⟩),
  (12, ⟨.int .u64, 1, 8, [.i .u64], false⟩),
  (15, ⟨.ptr 166, 1, 8, [.p], false⟩),
  (16, ⟨.ptr 169, 1, 8, [.p], false⟩),
  (20, ⟨.iface, 1, 16, [.n], false⟩),
  (21, ⟨.int .i32, 1, 4, [.i .i32], false⟩),
  (22, ⟨.slice 2, 1, 24, [.sl], false⟩),
  (23, ⟨.slice 33, 1, 24, [.sl], false⟩),
  (24, ⟨.struct [(22, 0), (3, 1), (3, 2), (3, 3), (23, 4)], 5, 72, [.sl, .i .i64, .i .i64, .i .i64, .sl], true⟩),
  (25, ⟨.struct [(22, 0), (3, 1), (3, 2), (3, 3), (23, 4)], 5, 72, [.sl, .i .i64, .i .i64, .i .i64, .sl], true⟩),
  (26, ⟨.func, 1, 8, [.f], false⟩),
  (27, ⟨.int .i64, 1, 8, [.i .i64], false⟩),
  (29, ⟨.func, 1, 8, [.f], false⟩),
  (30, ⟨.func, 1, 8, [.f], false⟩),
  (31, ⟨.slice 37, 1, 24, [.sl], false⟩),
  (32, ⟨.struct [(9, 0), (31, 1)], 2, 40, [.s, .sl], true⟩),
  (33, ⟨.struct [(9, 0), (31, 1)], 2, 40, [.s, .sl], true⟩),
  (34, ⟨.int .u8, 1, 1, [.i .u8], false⟩),
  (35, ⟨.int .u8, 1, 1, [.i .u8], false⟩),
  (36, ⟨.struct [(34, 0), (35, 1), (3, 2), (3, 3), (3, 4), (3, 5), (3, 6), (2, 7), (3, 8)], 9, 64, [.i .u8, .i .u8, .i .i64, .i .i64, .i .i64, .i .i64, .i .i64, .i .i64, .i .i64], true⟩),
  (37, ⟨.struct [(34, 0), (35, 1), (3, 2), (3, 3), (3, 4), (3, 5), (3, 6), (2, 7), (3, 8)], 9, 64, [.i .u8, .i .u8, .i .i64, .i .i64, .i .i64, .i .i64, .i .i64, .i .i64, .i .i64], true⟩),
  (38, ⟨.slice 5, 1, 24, [.sl], false⟩),
  (40, ⟨.func, 1, 8, [.f], false⟩),
  (41, ⟨.func, 1, 8, [.f], false⟩),
  (42, ⟨.func, 1, 8, [.f], false⟩),
  (43, ⟨.func, 1, 8, [.f], false⟩),
  (45, ⟨.func, 1, 8, [.f], false⟩),
  (46, ⟨.func, 1, 8, [.f], false⟩),
  (47, ⟨.slice 3, 1, 24, [.sl], false⟩),
  (48, ⟨.func, 1, 8, [.f], false⟩),
  (49, ⟨.func, 1, 8, [.f], false⟩),
  (50, ⟨.func, 1, 8, [.f], false⟩),
  (51, ⟨.func, 1, 8, [.f], false⟩),
  (53, ⟨.func, 1, 8, [.f], false⟩),
  (54, ⟨.func, 1, 8, [.f], false⟩),
  (55, ⟨.func, 1, 8, [.f], false⟩),
  (57, ⟨.func, 1, 8, [.f], false⟩),
  (59, ⟨.func, 1, 8, [.f], false⟩),
  (60, ⟨.func, 1, 8, [.f], false⟩),
  (61, ⟨.func, 1, 8, [.f], false⟩),
  (62, ⟨.func, 1, 8, [.f], false⟩),
  (63, ⟨.func, 1, 8, [.f], false⟩),
  (64, ⟨.ptr 25, 1, 8, [.p], false⟩),
  (65, ⟨.func, 1, 8, [.f], false⟩),
  (66, ⟨.int .u64, 1, 8, [.i .u64], false⟩),
  (67, ⟨.func, 1, 8, [.f], false⟩),
  (68, ⟨.func, 1, 8, [.f], false⟩),
  (69, ⟨.ptr 37, 1, 8, [.p], false⟩),
  (70, ⟨.int .u8, 1, 1, [.i .u8], false⟩),
  (71, ⟨.ptr 3, 1, 8, [.p], false⟩),
  (72, ⟨.ptr 2, 1, 8, [.p], false⟩),
  (73, ⟨.func, 1, 8, [.f], false⟩),
  (74, ⟨.func, 1, 8, [.f], false⟩),
  (75, ⟨.array 4 70, 4, 4, [.i .u8, .i .u8, .i .u8, .i .u8], false⟩),
  (76, ⟨.struct [(9, 0), (75, 1)], 5, 24, [.s, .i .u8, .i .u8, .i .u8, .i .u8], true⟩),
  (77, ⟨.struct [(9, 0), (75, 1)], 5, 24, [.s, .i .u8, .i .u8, .i .u8, .i .u8], true⟩),
  (79, ⟨.func, 1, 8, [.f], false⟩),
  (81, ⟨.func, 1, 8, [.f], false⟩),
  (82, ⟨.func, 1, 8, [.f], false⟩),
  (83, ⟨.func, 1, 8, [.f], false⟩),
  (84, ⟨.func, 1, 8, [.f], false⟩),
  (85, ⟨.func, 1, 8, [.f], false⟩),
  (86, ⟨.func, 1, 8, [.f], false⟩),
  (87, ⟨.ptr 89, 1, 8, [.p], false⟩),
  (88, ⟨.struct [(38, 0), (4, 1)], 2, 32, [.sl, .b], true⟩),
  (89, ⟨.struct [(38, 0), (4, 1)], 2, 32, [.sl, .b], true⟩),
  (90, ⟨.func, 1, 8, [.f], false⟩),
  (91, ⟨.func, 1, 8, [.f], false⟩),
  (92, ⟨.func, 1, 8, [.f], false⟩),
  (93, ⟨.func, 1, 8, [.f], false⟩),
  (94, ⟨.slice 9, 1, 24, [.sl], false⟩),
  (95, ⟨.func, 1, 8, [.f], false⟩),
  (97, ⟨.func, 1, 8, [.f], false⟩),
  (98, ⟨.ptr 33, 1, 8, [.p], false⟩),
  (99, ⟨.slice 71, 1, 24, [.sl], false⟩),
  (100, ⟨.func, 1, 8, [.f], false⟩),
  (102, ⟨.func, 1, 8, [.f], false⟩),
  (103, ⟨.int .u64, 1, 8, [.i .u64], false⟩),
  (104, ⟨.array 11 77, 55, 264, [.s, .i .u8, .i .u8, .i .u8, .i .u8, .s, .i .u8, .i .u8, .i .u8, .i .u8, .s, .i .u8, .i .u8, .i .u8, .i .u8, .s, .i .u8, .i .u8, .i .u8, .i .u8, .s, .i .u8, .i .u8, .i .u8, .i .u8, .s, .i .u8, .i .u8, .i .u8, .i .u8, .s, .i .u8, .i .u8, .i .u8, .i .u8, .s, .i .u8, .i .u8, .i .u8, .i .u8, .s, .i .u8, .i .u8, .i .u8, .i .u8, .s, .i .u8, .i .u8, .i .u8, .i .u8, .s, .i .u8, .i .u8, .i .u8, .i .u8], false⟩),
  (105, ⟨.func, 1, 8, [.f], false⟩),
  (106, ⟨.func, 1, 8, [.f], false⟩),
  (107, ⟨.func, 1, 8, [.f], false⟩),
  (108, ⟨.array 19 9, 19, 304, [.s, .s, .s, .s, .s, .s, .s, .s, .s, .s, .s, .s, .s, .s, .s, .s, .s, .s, .s], false⟩),
  (109, ⟨.array 20 5, 20, 20, [.i .u8, .i .u8, .i .u8, .i .u8, .i .u8, .i .u8, .i .u8, .i .u8, .i .u8, .i .u8, .i .u8, .i .u8, .i .u8, .i .u8, .i .u8, .i .u8, .i .u8, .i .u8, .i .u8, .i .u8], false⟩),
  (110, ⟨.ptr 112, 1, 8, [.p], false⟩),
  (111, ⟨.struct [(37, 0), (94, 9)], 10, 88, [.i .u8, .i .u8, .i .i64, .i .i64, .i .i64, .i .i64, .i .i64, .i .i64, .i .i64, .sl], true⟩),
  (112, ⟨.struct [(37, 0), (94, 9)], 10, 88, [.i .u8, .i .u8, .i .i64, .i .i64, .i .i64, .i .i64, .i .i64, .i .i64, .i .i64, .sl], true⟩),
  (113, ⟨.func, 1, 8, [.f], false⟩),
  (114, ⟨.func, 1, 8, [.f], false⟩),
  (115, ⟨.func, 1, 8, [.f], false⟩),
  (116, ⟨.func, 1, 8, [.f], false⟩),
  (117, ⟨.func, 1, 8, [.f], false⟩),
  (119, ⟨.func, 1, 8, [.f], false⟩),
  (120, ⟨.func, 1, 8, [.f], false⟩),
  (122, ⟨.func, 1, 8, [.f], false⟩),
  (123, ⟨.func, 1, 8, [.f], false⟩),
  (124, ⟨.func, 1, 8, [.f], false⟩),
  (125, ⟨.func, 1, 8, [.f], false⟩),
  (126, ⟨.func, 1, 8, [.f], false⟩),
  (127, ⟨.func, 1, 8, [.f], false⟩),
  (128, ⟨.ptr 130, 1, 8, [.p], false⟩),
  (129, ⟨.struct [(128, 0), (38, 1)], 2, 32, [.p, .sl], true⟩),
  (130, ⟨.struct [(128, 0), (38, 1)], 2, 32, [.p, .sl], true⟩),
  (131, ⟨.iface, 1, 16, [.n], false⟩),
  (132, ⟨.iface, 1, 16, [.n], false⟩),
  (134, ⟨.func, 1, 8, [.f], false⟩),
  (135, ⟨.func, 1, 8, [.f], false⟩),
  (136, ⟨.func, 1, 8, [.f], false⟩),
  (137, ⟨.func, 1, 8, [.f], false⟩),
  (138, ⟨.array 24 5, 24, 24, [.i .u8, .i .u8, .i .u8, .i .u8, .i .u8, .i .u8, .i .u8, .i .u8, .i .u8, .i .u8, .i .u8, .i .u8, .i .u8, .i .u8, .i .u8, .i .u8, .i .u8, .i .u8, .i .u8, .i .u8, .i .u8, .i .u8, .i .u8, .i .u8], false⟩),
  (139, ⟨.func, 1, 8, [.f], false⟩),
  (140, ⟨.func, 1, 8, [.f], false⟩),
  (142, ⟨.func, 1, 8, [.f], false⟩),
  (143, ⟨.ptr 5, 1, 8, [.p], false⟩),
  (144, ⟨.func, 1, 8, [.f], false⟩),
  (146, ⟨.func, 1, 8, [.f], false⟩),
  (147, ⟨.func, 1, 8, [.f], false⟩),
  (148, ⟨.array 20 66, 20, 160, [.i .u64, .i .u64, .i .u64, .i .u64, .i .u64, .i .u64, .i .u64, .i .u64, .i .u64, .i .u64, .i .u64, .i .u64, .i .u64, .i .u64, .i .u64, .i .u64, .i .u64, .i .u64, .i .u64, .i .u64], false⟩),
  (149, ⟨.int .u32, 1, 4, [.i .u32], false⟩),
  (150, ⟨.array 65 5, 65, 65, [.i .u8, .i .u8, .i .u8, .i .u8, .i .u8, .i .u8, .i .u8, .i .u8, .i .u8, .i .u8, .i .u8, .i .u8, .i .u8, .i .u8, .i .u8, .i .u8, .i .u8, .i .u8, .i .u8, .i .u8, .i .u8, .i .u8, .i .u8, .i .u8, .i .u8, .i .u8, .i .u8, .i .u8, .i .u8, .i .u8, .i .u8, .i .u8, .i .u8, .i .u8, .i .u8, .i .u8, .i .u8, .i .u8, .i .u8, .i .u8, .i .u8, .i .u8, .i .u8, .i .u8, .i .u8, .i .u8, .i .u8, .i .u8, .i .u8, .i .u8, .i .u8, .i .u8, .i .u8, .i .u8, .i .u8, .i .u8, .i .u8, .i .u8, .i .u8, .i .u8, .i .u8, .i .u8, .i .u8, .i .u8, .i .u8], false⟩),
  (151, ⟨.func, 1, 8, [.f], false⟩),
  (152, ⟨.func, 1, 8, [.f], false⟩),
  (154, ⟨.func, 1, 8, [.f], false⟩),
  (155, ⟨.func, 1, 8, [.f], false⟩),
  (156, ⟨.func, 1, 8, [.f], false⟩),
  (157, ⟨.array 256 5, 256, 256, [.i .u8, .i .u8, .i .u8, .i .u8, .i .u8, .i .u8, .i .u8, .i .u8, .i .u8, .i .u8, .i .u8, .i .u8, .i .u8, .i .u8, .i .u8, .i .u8, .i .u8, .i .u8, .i .u8, .i .u8, .i .u8, .i .u8, .i .u8, .i .u8, .i .u8, .i .u8, .i .u8, .i .u8, .i .u8, .i .u8, .i .u8, .i .u8, .i .u8, .i .u8, .i .u8, .i .u8, .i .u8, .i .u8, .i .u8, .i .u8, .i .u8, .i .u8, .i .u8, .i .u8, .i .u8, .i .u8, .i .u8, .i .u8, .i .u8, .i .u8, .i .u8, .i .u8, .i .u8, .i .u8, .i .u8, .i .u8, .i .u8, .i .u8, .i .u8, .i .u8, .i .u8, .i .u8, .i .u8, .i .u8, .i .u8, .i .u8, .i .u8, .i .u8, .i .u8, .i .u8, .i .u8, .i .u8, .i .u8, .i .u8, .i .u8, .i .u8, .i .u8, .i .u8, .i .u8, .i .u8, .i .u8, .i .u8, .i .u8, .i .u8, .i .u8, .i .u8, .i .u8, .i .u8, .i .u8, .i .u8, .i .u8, .i .u8, .i .u8, .i .u8, .i .u8, .i .u8, .i .u8, .i .u8, .i .u8, .i .u8, .i .u8, .i .u8, .i .u8, .i .u8, .i .u8, .i .u8, .i .u8, .i .u8, .i .u8, .i .u8, .i .u8, .i .u8, .i .u8, .i .u8, .i .u8, .i .u8, .i .u8, .i .u8, .i .u8, .i .u8, .i .u8, .i .u8, .i .u8, .i .u8, .i .u8, .i .u8, .i .u8, .i .u8, .i .u8, .i .u8, .i .u8, .i .u8, .i .u8, .i .u8, .i .u8, .i .u8, .i .u8, .i .u8, .i .u8, .i .u8, .i .u8, .i .u8, .i .u8, .i .u8, .i .u8, .i .u8, .i .u8, .i .u8, .i .u8, .i .u8, .i .u8, .i .u8, .i .u8, .i .u8, .i .u8, .i .u8, .i .u8, .i .u8, .i .u8, .i .u8, .i .u8, .i .u8, .i .u8, .i .u8, .i .u8, .i .u8, .i .u8, .i .u8, .i .u8, .i .u8, .i .u8, .i .u8, .i .u8, .i .u8, .i .u8, .i .u8, .i .u8, .i .u8, .i .u8, .i .u8, .i .u8, .i .u8, .i .u8, .i .u8, .i .u8, .i .u8, .i .u8, .i .u8, .i .u8, .i .u8, .i .u8, .i .u8, .i .u8, .i .u8, .i .u8, .i .u8, .i .u8, .i .u8, .i .u8, .i .u8, .i .u8, .i .u8, .i .u8, .i .u8, .i .u8, .i .u8, .i .u8, .i .u8, .i .u8, .i .u8, .i .u8, .i .u8, .i .u8, .i .u8, .i .u8, .i .u8, .i .u8, .i .u8, .i .u8, .i .u8, .i .u8, .i .u8, .i .u8, .i .u8, .i .u8, .i .u8, .i .u8, .i .u8, .i .u8, .i .u8, .i .u8, .i .u8, .i .u8, .i .u8, .i .u8, .i .u8, .i .u8, .i .u8, .i .u8, .i .u8, .i .u8, .i .u8, .i .u8, .i .u8, .i .u8, .i .u8, .i .u8, .i .u8, .i .u8, .i .u8, .i .u8, .i .u8, .i .u8, .i .u8, .i .u8, .i .u8], false⟩),
  (158, ⟨.struct [(5, 0), (5, 1)], 2, 2, [.i .u8, .i .u8], true⟩),
  (159, ⟨.struct [(5, 0), (5, 1)], 2, 2, [.i .u8, .i .u8], true⟩),
  (160, ⟨.array 16 159, 32, 32, [.i .u8, .i .u8, .i .u8, .i .u8, .i .u8, .i .u8, .i .u8, .i .u8, .i .u8, .i .u8, .i .u8, .i .u8, .i .u8, .i .u8, .i .u8, .i .u8, .i .u8, .i .u8, .i .u8, .i .u8, .i .u8, .i .u8, .i .u8, .i .u8, .i .u8, .i .u8, .i .u8, .i .u8, .i .u8, .i .u8, .i .u8, .i .u8], false⟩),
  (162, ⟨.func, 1, 8, [.f], false⟩),
  (163, ⟨.array 32 5, 32, 32, [.i .u8, .i .u8, .i .u8, .i .u8, .i .u8, .i .u8, .i .u8, .i .u8, .i .u8, .i .u8, .i .u8, .i .u8, .i .u8, .i .u8, .i .u8, .i .u8, .i .u8, .i .u8, .i .u8, .i .u8, .i .u8, .i .u8, .i .u8, .i .u8, .i .u8, .i .u8, .i .u8, .i .u8, .i .u8, .i .u8, .i .u8, .i .u8], false⟩),
  (164, ⟨.array 64 5, 64, 64, [.i .u8, .i .u8, .i .u8, .i .u8, .i .u8, .i .u8, .i .u8, .i .u8, .i .u8, .i .u8, .i .u8, .i .u8, .i .u8, .i .u8, .i .u8, .i .u8, .i .u8, .i .u8, .i .u8, .i .u8, .i .u8, .i .u8, .i .u8, .i .u8, .i .u8, .i .u8, .i .u8, .i .u8, .i .u8, .i .u8, .i .u8, .i .u8, .i .u8, .i .u8, .i .u8, .i .u8, .i .u8, .i .u8, .i .u8, .i .u8, .i .u8, .i .u8, .i .u8, .i .u8, .i .u8, .i .u8, .i .u8, .i .u8, .i .u8, .i .u8, .i .u8, .i .u8, .i .u8, .i .u8, .i .u8, .i .u8, .i .u8, .i .u8, .i .u8, .i .u8, .i .u8, .i .u8, .i .u8, .i .u8], false⟩),
  (167, ⟨.array 0 16, 0, 0, [], false⟩),
  (170, ⟨.func, 1, 8, [.f], false⟩),
  (173, ⟨.func, 1, 8, [.f], false⟩)]
set_option maxRecDepth 100000 in
theorem hT : TOk Tryd.prog T := TOk.of_all (by kernel_rfl)
end Go.Proofs.YtffhoknkfohfgaaDoor.am

namespace Go.Proofs.YtffhoknkfohfgaaDoor.am
open Go Go.Proofs

theorem hmix : Tryd.prog.follows .mixedOrders = true := by kernel_rfl
abbrev K (f : Nat) (args : List AV) (bin : List Blk) (res : AE) (bout : List (Option Blk)) : Prop := Ctr Tryd.prog f args bin res bout

theorem Ctr.okd {P : Program} {f : Nat} {args : List AV} {bin : List Blk} {res : AE} {bout : List (Option Blk)} (hc : Callable P f) (h : (∀ a ∈ args, AOk a) → Ctr P f args bin res bout) : Ctr P f args bin res bout :=
  ⟨hc, fun g w vs h1 h2 h3 h4 => (h fun a ha => by
    obtain ⟨i, hi⟩ := List.mem_iff_getElem?.1 ha
    have hlt : i < vs.size := by rw [h3]; exact (List.getElem?_eq_some_iff.1 hi).1
    exact ⟨g, w, vs[i], h4 i vs[i] a (by simp [hlt]) hi⟩).run g w vs h1 h2 h3 h4⟩
structure Ins where
  kind : Int
  op : Int
  d : Int
  a : Int
  b : Int
  addr : Int
  to_ : Int
  word : Int
  from_ : Int
  deriving DecidableEq
structure Cor where
  name : ByteArray
  code : List Ins
structure Ob where
  memory : List Int
  shared : Int
  locks : Int
  buffer : Int
  cores : List Cor
def Ins.cells (i : Ins) : List Tr := [tu i.kind, tu i.op, ti i.d, ti i.a, ti i.b, ti i.addr, ti i.to_, ti i.word, ti i.from_]
def Ins.av (i : Ins) : AV := .agg (i.cells.map .tr)
abbrev codeT (l : List Ins) : Tr := .lst 9 64 (l.map Ins.cells)
def Cor.cells (c : Cor) : List Tr := [ts c.name, codeT c.code]
def Cor.av (c : Cor) : AV := .agg (c.cells.map .tr)
abbrev coresT (l : List Cor) : Tr := .lst 2 40 (l.map Cor.cells)
def irow (x : Int) : List Tr := [ti x]
abbrev intsT (l : List Int) : Tr := .lst 1 8 (l.map irow)
def Ob.cells (o : Ob) : List Tr := [intsT o.memory, ti o.shared, ti o.locks, ti o.buffer, coresT o.cores]
def Ob.av (o : Ob) : AV := .agg (o.cells.map .tr)

/-! operators -/
def knownB (op : Int) : Bool := decide (op > 0) && decide (op < 19)
def two2 (op : Int) : Bool := knownB op && op != 17 && op != 18
theorem two2_eq (op : Int) : two2 op = two op := by
  unfold two2 two knownB
  rw [Bool.eq_iff_iff]
  simp
  omega
theorem k_known (op : Int) : K 54 [.tr (tu op)] [] (.ret (.tr (tb (knownB op)))) [] := by
  refine Ctr.of hT hmix Tryd.func54 rfl (fun _ _ => by kernel_rfl) rfl fun hok => ?_
  conv => whnf
  (repeat' (refine csplit (fun _ => ?_) (fun _ => ?_) <;> conv => whnf)) <;> exact ⟨Or.inl (congrArg tb (by simp only [knownB, *] <;> rfl)), trivial⟩
theorem k_two (op : Int) : K 35 [.tr (tu op)] [] (.ret (.tr (tb (two op)))) [] := by
  refine Ctr.of hT hmix Tryd.func35 rfl (fun _ _ => by kernel_rfl) rfl fun hok => ?_
  conv => whnf
  refine acall.pure _ (k_known op) rfl rfl fun _ => ?_
  conv => whnf
  (repeat' (refine csplit (fun _ => ?_) (fun _ => ?_) <;> conv => whnf)) <;> exact ⟨Or.inl (congrArg tb (by rw [← two2_eq]; simp only [two2, *] <;> rfl)), trivial⟩
/-! kinds -/
def byK {α : Type} (l : List α) (d : α) (k : Int) : α := l.getD k.toNat d
def kwords : List ByteArray := [⟨#[]⟩, ⟨#[115, 101, 116]⟩, ⟨#[]⟩, ⟨#[108, 111, 97, 100]⟩, ⟨#[115, 116, 111, 114, 101]⟩, ⟨#[115, 119, 97, 112]⟩, ⟨#[102, 101, 110, 99, 101]⟩, ⟨#[112, 114, 105, 110, 116]⟩, ⟨#[106, 117, 109, 112]⟩, ⟨#[122, 101, 114, 111]⟩, ⟨#[104, 97, 108, 116]⟩]
def kuses : List (List Int) := [[0, 0, 0, 0], [2, 64, 0, 0], [1, 2, 4, 8], [2, 16, 0, 0], [4, 16, 0, 0], [2, 16, 0, 0], [0, 0, 0, 0], [4, 0, 0, 0], [32, 0, 0, 0], [4, 32, 0, 0], [0, 0, 0, 0]]
def kword (k : Int) : ByteArray := byK kwords ⟨#[]⟩ k
def kuse (k : Int) : List Int := byK kuses [0, 0, 0, 0] k
def kmask (k : Int) : Int := byK [0, 66, 15, 18, 20, 18, 0, 4, 32, 36, 0] 0 k
def kok (k : Int) : Bool := decide (1 ≤ k) && decide (k < 11)
def formAV (k : Int) : AV := .agg (.tr (ts (kword k)) :: (kuse k).map fun u => .tr (tu u))
theorem kcases {k : Int} (h0 : 0 ≤ k) : k = 0 ∨ k = 1 ∨ k = 2 ∨ k = 3 ∨ k = 4 ∨ k = 5 ∨ k = 6 ∨ k = 7 ∨ k = 8 ∨ k = 9 ∨ k = 10 ∨ 11 ≤ k := by omega
theorem byK_big {α : Type} {l : List α} {d : α} {k : Int} (hl : l.length = 11) (h : 11 ≤ k) : byK l d k = d := by
  unfold byK
  rw [List.getD_eq_getElem?_getD, List.getElem?_eq_none (by omega)]; rfl
theorem kok_big {k : Int} (h : 11 ≤ k) : kok k = false := by
  unfold kok
  rw [show decide (k < 11) = false from decide_eq_false (by omega), Bool.and_false]
set_option maxRecDepth 100000 in
theorem k_forms (k : Int) : K 37 [.tr (tu k)] [] (.ret (.tup [formAV k, .tr (tb (kok k))])) [] := by
  refine Ctr.of hT hmix Tryd.func37 rfl (fun _ _ => by kernel_rfl) rfl fun hok => ?_
  have hk := (hok.slot 0 rfl).tr.u8
  clear hok
  rcases kcases hk.1 with h | h | h | h | h | h | h | h | h | h | h | h
  case inr.inr.inr.inr.inr.inr.inr.inr.inr.inr.inr =>
    have e0 : (k == 0) = false := beq_eq_false_iff_ne.2 (by omega)
    have e1 : decide (k ≥ 11) = true := decide_eq_true (by omega)
    have ew : IntKind.i64.wrap k = k := w64 (by omega) (by omega)
    rw [show formAV k = formAV 0 by unfold formAV kword kuse; rw [byK_big rfl h, byK_big rfl h]; rfl, kok_big h]
    conv => whnf
    refine csplit (fun h1 => ?_) (fun h1 => ?_)
    · rw [e0] at h1; cases h1
    conv => whnf
    refine csplit (fun h2 => ?_) (fun h2 => ?_)
    · conv => whnf
      exact ⟨⟨⟨.inl rfl, .inl rfl, .inl rfl, .inl rfl, .inl rfl, trivial⟩, .inl rfl, trivial⟩, trivial⟩
    · rw [ew, e1] at h2; cases h2
  all_goals
    subst h
    conv => whnf
    first
      | exact ⟨⟨⟨.inl rfl, .inl rfl, .inl rfl, .inl rfl, .inl rfl, trivial⟩, .inl rfl, trivial⟩, trivial⟩
      | (refine ⟨by decide, by decide, ?_⟩; (conv => whnf); exact ⟨⟨⟨.inl rfl, .inl rfl, .inl rfl, .inl rfl, .inl rfl, trivial⟩, .inl rfl, trivial⟩, trivial⟩)
end Go.Proofs.YtffhoknkfohfgaaDoor.am

namespace Go.Proofs.YtffhoknkfohfgaaDoor.am
open Go Go.Proofs

def opwords : List ByteArray := [⟨#[]⟩, ⟨#[97, 100, 100]⟩, ⟨#[115, 117, 98]⟩, ⟨#[109, 117, 108]⟩, ⟨#[100, 105, 118]⟩, ⟨#[114, 101, 109]⟩, ⟨#[97, 110, 100]⟩, ⟨#[111, 114]⟩, ⟨#[120, 111, 114]⟩, ⟨#[115, 104, 108]⟩, ⟨#[115, 104, 114]⟩, ⟨#[105, 115]⟩, ⟨#[105, 115, 110, 111, 116]⟩,
  ⟨#[108, 101, 115, 115]⟩, ⟨#[109, 111, 115, 116]⟩, ⟨#[97, 98, 111, 118, 101]⟩, ⟨#[108, 101, 97, 115, 116]⟩, ⟨#[109, 105, 110, 117, 115]⟩, ⟨#[110, 111, 116]⟩]
def opword (op : Int) : ByteArray := byK opwords ⟨#[]⟩ op
theorem opword_big {op : Int} (h : 19 ≤ op) : opword op = ⟨#[]⟩ := by
  unfold opword byK
  rw [List.getD_eq_getElem?_getD, List.getElem?_eq_none (by simp [opwords]; omega)]; rfl
set_option maxRecDepth 100000 in
theorem k_operator (op : Int) : K 41 [.tr (tu op)] [] (.ret (.tr (ts (opword op)))) [] := by
  refine Ctr.of hT hmix Tryd.func41 rfl (fun _ _ => by kernel_rfl) rfl fun hok => ?_
  have hk := (hok.slot 0 rfl).tr.u8
  clear hok
  by_cases hbig : 19 ≤ op
  · have e1 : decide (op ≥ 19) = true := decide_eq_true (by omega)
    have ew : IntKind.i64.wrap op = op := w64 (by omega) (by omega)
    rw [opword_big hbig]
    conv => whnf
    refine csplit (fun h2 => ?_) (fun h2 => ?_)
    · conv => whnf
      exact ⟨.inl rfl, trivial⟩
    · rw [ew, e1] at h2; cases h2
  have hc : op = 0 ∨ op = 1 ∨ op = 2 ∨ op = 3 ∨ op = 4 ∨ op = 5 ∨ op = 6 ∨ op = 7 ∨ op = 8 ∨ op = 9 ∨ op = 10 ∨ op = 11 ∨ op = 12 ∨ op = 13 ∨ op = 14 ∨ op = 15 ∨ op = 16 ∨ op = 17 ∨ op = 18 := by omega
  rcases hc with h | h | h | h | h | h | h | h | h | h | h | h | h | h | h | h | h | h | h
  all_goals
    subst h
    conv => whnf
    refine ⟨by decide, by decide, ?_⟩
    conv => whnf
    exact ⟨.inl rfl, trivial⟩

def usedM (kind op : Int) : Int := bif kind == 2 && !two op then 7 else kmask kind
theorem form_big {k : Int} (h : 11 ≤ k) : formAV k = formAV 0 := by unfold formAV kword kuse; rw [byK_big rfl h, byK_big rfl h]; rfl
theorem kmask_big {k : Int} (h : 11 ≤ k) : kmask k = 0 := by unfold kmask; exact byK_big rfl h
set_option maxRecDepth 100000 in
theorem k_used (i : Ins) : K 39 [i.av] [] (.ret (.tup [.tr (tu (usedM i.kind i.op)), .tr (tb (kok i.kind))])) [] := by
  refine Ctr.of hT hmix Tryd.func39 rfl (fun _ _ => by kernel_rfl) rfl fun hok => ?_
  have hk := ((hok.slot 0 rfl).agg _ (.head _)).tr.u8
  clear hok
  obtain ⟨kind, op, d, a, b, addr, to_, word, from_⟩ := i
  have hk : 0 ≤ kind ∧ kind ≤ 255 := hk
  rcases kcases hk.1 with h | h | h | h | h | h | h | h | h | h | h | h
  case inr.inr.inr.inr.inr.inr.inr.inr.inr.inr.inr =>
    have hf := k_forms kind
    rw [form_big h] at hf
    have e2 : (kind == 2) = false := beq_eq_false_iff_ne.2 (by omega)
    have em : usedM kind op = 0 := by unfold usedM; rw [e2, kmask_big h]; rfl
    conv => whnf
    refine acall.pure _ (hf) rfl rfl fun _ => ?_
    conv => whnf
    refine LoopL.un 5 ?_
    conv => whnf
    iterate 4 (refine ⟨by decide, by decide, rfl, by decide, fun a ha => ?_⟩; cases ha; conv => whnf)
    refine ⟨fun _ => ?_, fun h => absurd rfl h⟩
    conv => whnf
    refine csplit (fun h2 => ?_) (fun h2 => ?_)
    · rw [e2] at h2; cases h2
    · conv => whnf
      exact ⟨⟨.inl (congrArg tu em.symm), .inl rfl, trivial⟩, trivial⟩
  case inr.inr.inl =>
    subst h
    conv => whnf
    refine acall.pure _ (k_forms 2) rfl rfl fun _ => ?_
    conv => whnf
    refine LoopL.un 5 ?_
    conv => whnf
    iterate 4 (refine ⟨by decide, by decide, rfl, by decide, fun a ha => ?_⟩; cases ha; conv => whnf)
    refine ⟨fun _ => ?_, fun h => absurd rfl h⟩
    conv => whnf
    refine acall.pure _ (k_two op) rfl rfl fun _ => ?_
    conv => whnf
    refine csplit (fun h2 => ?_) (fun h2 => ?_)
    · conv => whnf
      exact ⟨⟨.inl (congrArg tu (by unfold usedM; rw [h2]; rfl)), .inl rfl, trivial⟩, trivial⟩
    · conv => whnf
      exact ⟨⟨.inl (congrArg tu (by unfold usedM; rw [h2]; rfl)), .inl rfl, trivial⟩, trivial⟩
  all_goals
    subst h
    conv => whnf
    refine acall.pure _ (k_forms _) rfl rfl fun _ => ?_
    conv => whnf
    refine LoopL.un 5 ?_
    conv => whnf
    iterate 4 (refine ⟨by decide, by decide, rfl, by decide, fun a ha => ?_⟩; cases ha; conv => whnf)
    refine ⟨fun _ => ?_, fun h => absurd rfl h⟩
    conv => whnf
    exact ⟨⟨.inl rfl, .inl rfl, trivial⟩, trivial⟩
end Go.Proofs.YtffhoknkfohfgaaDoor.am

namespace Go.Proofs.YtffhoknkfohfgaaDoor.am
open Go Go.Proofs

theorem k_digit (c : Int) : K 78 [.tr (tu c)] [] (.ret (.tr (tb (digB c)))) [] := by
  refine Ctr.of hT hmix Tryd.func78 rfl (fun _ _ => by kernel_rfl) rfl fun hok => ?_
  conv => whnf
  (repeat' (refine csplit (fun _ => ?_) (fun _ => ?_) <;> conv => whnf)) <;> refine ⟨Or.inl (congrArg tb ?_), trivial⟩ <;> (simp only [digB, *] <;> rfl)
theorem k_letter (c : Int) : K 80 [.tr (tu c)] [] (.ret (.tr (tb (letB c)))) [] := by
  refine Ctr.of hT hmix Tryd.func80 rfl (fun _ _ => by kernel_rfl) rfl fun hok => ?_
  conv => whnf
  (repeat' (refine csplit (fun _ => ?_) (fun _ => ?_) <;> conv => whnf)) <;> refine ⟨Or.inl (congrArg tb ?_), trivial⟩ <;> (simp only [letB, *] <;> rfl)
theorem k_word (s : ByteArray) : K 79 [.tr (ts s)] [] (.ret (.tr (tb (wordB s)))) [] := by
  refine Ctr.of hT hmix Tryd.func79 rfl (fun _ _ => by kernel_rfl) rfl fun hok => ?_
  conv => whnf
  (repeat' (refine csplit (fun _ => ?_) (fun _ => ?_) <;> conv => whnf)) <;> refine ⟨Or.inl (congrArg tb ?_), trivial⟩ <;> first | (simp only [wordB, seq, *] <;> rfl) | simp_all
theorem k_name (s : ByteArray) : K 56 [.tr (ts s)] [] (.ret (.tr (tb (nameB s)))) [] := by
  refine Ctr.of hT hmix Tryd.func56 rfl (fun _ _ => by kernel_rfl) rfl fun hok => ?_
  have hsz := (hok.slot 0 rfl).tr.str
  clear hok
  conv => whnf
  refine csplit (fun h1 => ?_) (fun h1 => ?_)
  · have h1 := (noS_size s).symm.trans h1
    conv => whnf
    exact ⟨Or.inl (congrArg tb (by simp only [nameB, h1] <;> rfl)), trivial⟩
  have h1 := (noS_size s).symm.trans h1
  conv => whnf
  refine csplit (fun h2 => ?_) (fun h2 => ?_)
  · conv => whnf
    exact ⟨Or.inl (congrArg tb (by simp only [nameB, h1, h2] <;> rfl)), trivial⟩
  have hs0 : 0 < s.size := by have := of_decide_eq_false h1; omega
  conv => whnf
  refine ⟨by omega, by omega, fun b hb => ?_⟩
  have hc0 : chI s 0 = b.toNat := by unfold chI; rw [show s[0]? = some b from hb]
  conv => whnf
  refine acall.pure _ (k_digit b.toNat) rfl rfl fun _ => ?_
  conv => whnf
  refine csplit (fun h3 => ?_) (fun h3 => ?_)
  · conv => whnf
    exact ⟨Or.inl (congrArg tb (by rw [← hc0] at h3; simp only [nameB, h1, h2, h3] <;> rfl)), trivial⟩
  rw [← hc0] at h3
  conv => whnf
  refine acall.pure _ (k_word s) rfl rfl fun _ => ?_
  conv => whnf
  refine csplit (fun h4 => ?_) (fun h4 => ?_)
  · conv => whnf
    exact ⟨Or.inl (congrArg tb (by simp only [nameB, h1, h2, h3, h4] <;> rfl)), trivial⟩
  conv => whnf
  have hE : nameB s = charsB s s.size := by simp only [nameB, h1, h2, h3, h4] <;> rfl
  refine LoopL.by (fun i : Nat => ⟨[(0, .tr (ts s)), (21, .tr (ti s.size)), (22, .tr (ti i))], [], 38⟩)
    (fun i => i ≤ s.size ∧ nameB s = charsB s (s.size - i)) (fun i => s.size - i) 0 [] [] (Sub.mk' rfl ⟨.inl rfl, .inl rfl, .inl rfl, trivial⟩ trivial rfl rfl) ⟨Nat.zero_le _, hE⟩ ?_
  rintro i ⟨hi, hf⟩ -
  conv => whnf
  refine csplit (fun hlt => ?_) (fun hge => ?_)
  · have hlt : i < s.size := by simpa using hlt
    conv => whnf
    refine ⟨by omega, by omega, fun b hb => ?_⟩
    rw [charsB_at (show s[i]? = some b from hb) hlt] at hf
    conv => whnf
    refine acall.pure _ (k_letter b.toNat) rfl rfl fun _ => ?_
    conv => whnf
    refine csplit (fun h5 => ?_) (fun h5 => ?_)
    · conv => whnf
      refine ⟨by omega, by omega, fun b' hb' => ?_⟩
      have hbb : b' = b := Option.some.inj ((show s[i]? = some b' from hb').symm.trans hb)
      subst hbb
      conv => whnf
      refine acall.pure _ (k_digit b'.toNat) rfl rfl fun _ => ?_
      conv => whnf
      refine csplit (fun h6 => ?_) (fun h6 => ?_)
      · rw [h5, h6] at hf
        conv => whnf
        exact ⟨Or.inl (congrArg tb hf.symm), trivial⟩
      · rw [h5, h6] at hf
        conv => whnf
        exact ⟨i + 1, [], [], Sub.mk' rfl ⟨.inl rfl, .inl rfl, .inl (ti_succ hlt hsz), trivial⟩ trivial rfl rfl, ⟨by omega, hf⟩, by omega⟩
    · rw [h5] at hf
      conv => whnf
      exact ⟨i + 1, [], [], Sub.mk' rfl ⟨.inl rfl, .inl rfl, .inl (ti_succ hlt hsz), trivial⟩ trivial rfl rfl, ⟨by omega, hf⟩, by omega⟩
  · have hge : s.size ≤ i := by simpa using hge
    rw [show s.size - i = 0 by omega] at hf
    conv => whnf
    refine ⟨fun _ => ?_, fun h => absurd rfl h⟩
    conv => whnf
    exact ⟨Or.inl (congrArg tb hf.symm), trivial⟩
end Go.Proofs.YtffhoknkfohfgaaDoor.am

namespace Go.Proofs.YtffhoknkfohfgaaDoor.am
open Go Go.Proofs

def band (a b : Int) : Int := IntKind.u8.wrap (BitVec.ofInt IntKind.u8.bits a &&& BitVec.ofInt IntKind.u8.bits b).toNat
def withinB (all n u most : Int) : Bool := (band all u == 0 && n == 0) || (band all u != 0 && decide (n ≥ 0) && decide (n < most))
theorem k_within (all n u most : Int) : K 40 [.tr (ti n), .tr (tu u), .tr (ti most), .ptr 0 0] [.cells 70 [.tr (tu all)]] (.ret (.tr (tb (withinB all n u most)))) [some (.cells 70 [.tr (tu all)])] := by
  refine Ctr.of hT hmix Tryd.func40 rfl (fun _ _ => by kernel_rfl) rfl fun hok => ?_
  clear hok
  conv => whnf
  (repeat' (refine csplit (fun _ => ?_) (fun _ => ?_) <;> conv => whnf)) <;> (repeat' (first | exact trivial | exact Or.inl rfl | exact rfl | (refine Or.inl (congrArg _ ?_); simp only [withinB, band, *] <;> rfl) | apply And.intro))
def opB (all op : Int) : Bool := (band all 1 == 0 && op == 0) || (band all 1 != 0 && !seq (opword op) ⟨#[]⟩)
def rightB (i : Ins) (code memory : Int) : Bool :=
  !(!kok i.kind || decide (i.from_ < 0) || decide (i.from_ > 4096)) &&
  (opB (usedM i.kind i.op) i.op && withinB (usedM i.kind i.op) i.d 2 16 && withinB (usedM i.kind i.op) i.a 4 16 && withinB (usedM i.kind i.op) i.b 8 16 &&
    withinB (usedM i.kind i.op) i.addr 16 memory && withinB (usedM i.kind i.op) i.to_ 32 code && (band (usedM i.kind i.op) 64 != 0 || i.word == 0))
theorem k_right (i : Ins) (code memory : Int) : K 24 [i.av, .tr (ti code), .tr (ti memory)] [] (.ret (.tr (tb (rightB i code memory)))) [] := by
  refine Ctr.of hT hmix Tryd.func24 rfl (fun _ _ => by kernel_rfl) rfl fun hok => ?_
  clear hok
  have hu := k_used i
  have hr : rightB i code memory = rightB i code memory := rfl
  conv at hr => rhs; unfold rightB
  generalize hB : rightB i code memory = B at hr ⊢
  clear hB
  generalize hm : usedM i.kind i.op = all at hu hr
  obtain ⟨kind, op, d, a, b, addr, to_, word, from_⟩ := i
  simp only at hr hu
  conv => whnf
  refine acall.pure _ (hu) rfl rfl fun _ => ?_
  conv => whnf
  (repeat' (first | (refine csplit (fun _ => ?_) (fun _ => ?_) <;> conv => whnf) | (refine acall.pure _ (k_operator op) rfl rfl fun _ => ?_; conv => whnf) | (refine acall.gen [7] [] _ _ _ _ (k_within all _ _ _) rfl rfl rfl rfl aut aut rfl rfl fun _ => ?_; conv => whnf)))
  all_goals exact ⟨.inl (congrArg tb (by rw [hr]; simp only [opB, band, *] <;> rfl)), trivial⟩
end Go.Proofs.YtffhoknkfohfgaaDoor.am

namespace Go.Proofs.YtffhoknkfohfgaaDoor.am
open Go Go.Proofs
abbrev tq (n : Int) : Tr := .v (.int .u64 n)
/-- a number's bytes -/
def vari : Nat → Nat → List UInt8
  | 0, n => [UInt8.ofNat n]
  | f + 1, n => if n < 128 then [UInt8.ofNat n] else UInt8.ofNat (n % 128 + 128) :: vari f (n / 128)
def varB (n : Int) : List UInt8 := vari 9 n.toNat
abbrev bytB (l : List UInt8) : Blk := .vec 5 1 1 (brows l)
theorem byte_row {x : Int} {b : UInt8} (h : x = b.toNat) : [Tr.v (.int .u8 x)] = [Tr.v (.int .u8 b.toNat)] := by rw [h]
theorem or128B : ((List.range 256).all fun k => decide (IntKind.u8.wrap (((BitVec.ofInt IntKind.u8.bits ((k : Nat) : Int)) ||| (BitVec.ofInt IntKind.u8.bits 128)).toNat : Int) = (k % 128 + 128 : Nat))) = true := by kernel_rfl
theorem or128 (k : Nat) (h : k < 256) : IntKind.u8.wrap (((BitVec.ofInt IntKind.u8.bits ((k : Nat) : Int)) ||| (BitVec.ofInt IntKind.u8.bits 128)).toNat : Int) = (k % 128 + 128 : Nat) :=
  of_decide_eq_true (List.all_eq_true.1 or128B k (List.mem_range.2 h))
theorem vari_len (f n : Nat) : (vari f n).length ≤ f + 1 := by
  induction f generalizing n with
  | zero => simp [vari]
  | succ f ih =>
    unfold vari
    split
    · simp
    · have := ih (n / 128); simp only [List.length_cons]; omega
theorem wu8n (n : Nat) : IntKind.u8.wrap (n : Int) = ((n % 256 : Nat) : Int) := by
  simp only [IntKind.wrap, IntKind.signed, IntKind.bits, Bool.false_and, Bool.false_eq_true, if_false, Int.reducePow]
  omega
/-- J of the loop: the slice is the caller's, or one's own -/
def pnJ (own : Bool) (l : List UInt8) (n : Nat) : LJ := match own with
  | false => ⟨[(0, .sl 0 l.length), (1, .tr (tq n))], [(0, bytB l)], 10⟩
  | true => ⟨[(0, .sl 1 l.length), (1, .tr (tq n))], [(1, bytB l)], 10⟩
theorem brows_app (l r : List UInt8) : brows l ++ brows r = brows (l ++ r) := by simp [brows]
theorem app_take (l : List UInt8) (x : Int) (b : UInt8) (h : x = b.toNat) : (brows l).take l.length ++ List.take 1 [[Tr.v (.int .u8 x)]] = brows (l ++ [b]) := by
  rw [byte_row h, List.take_of_length_le (by simp [brows]), ← brows_app]; rfl
set_option maxHeartbeats 1000000 in
theorem k_putNumber (l : List UInt8) (n : Nat) (hn : n < 18446744073709551616) (hl : l.length ≤ 100000000) :
    K 31 [.sl 0 l.length, .tr (tq n)] [bytB l] (.ret (.sl 1 (l ++ varB n).length)) [none, some (bytB (l ++ varB n))] := by
  refine Ctr.new [] hT hmix Tryd.func31 rfl (fun _ _ => by kernel_rfl) rfl fun hok => ?_
  clear hok
  conv => whnf
  refine LoopL.by (fun x : Bool × List UInt8 × Nat => pnJ x.1 x.2.1 x.2.2) (fun x => ∃ f, x.2.2 < 128 ^ (f + 1) ∧ x.2.1.length + f ≤ l.length + 9 ∧ l ++ varB n = x.2.1 ++ vari f x.2.2 ∧ x.2.2 < 18446744073709551616) (fun x => x.2.2) (false, l, n) [0] []
    (Sub.mk' rfl ⟨⟨rfl, rfl⟩, .inl rfl, trivial⟩ ⟨⟨rfl, rfl, rfl, rfl⟩, trivial⟩ rfl rfl) ⟨9, Nat.lt_trans hn (by decide), Nat.le_refl _, rfl, hn⟩ ?_
  rintro ⟨own, r, k⟩ ⟨f, hk, hlr, hE, hk64⟩ -
  simp only at hk hlr hE hk64
  have hdiv : ((k : Int).fdiv (2 ^ (min (7 : Int).toNat IntKind.u64.bits))) = ((k / 128 : Nat) : Int) := by
    rw [show min (7 : Int).toNat IntKind.u64.bits = 7 from rfl, Int.fdiv_eq_ediv_of_nonneg _ (by decide)]
    norm_cast
  have hw8 : IntKind.u8.wrap (k : Int) = ((k % 256 : Nat) : Int) := wu8n k
  have hb1 : (((k % 128 + 128 : Nat) : Int)) = (UInt8.ofNat (k % 128 + 128)).toNat := by rw [UInt8.toNat_ofNat']; omega
  have hmod : k % 256 % 128 = k % 128 := by omega
  have hlast : k < 128 → ((k % 256 : Nat) : Int) = (UInt8.ofNat k).toNat := fun h => by rw [UInt8.toNat_ofNat']
  have hv : ∀ h : 128 ≤ k, ∃ f', f = f' + 1 ∧ vari f k = UInt8.ofNat (k % 128 + 128) :: vari f' (k / 128) ∧ k / 128 < 128 ^ (f' + 1) := fun h => by
    cases f with
    | zero => simp at hk; omega
    | succ f' =>
      refine ⟨f', rfl, ?_, ?_⟩
      · show (if k < 128 then _ else _) = _
        rw [if_neg (by omega)]
      · rw [Nat.pow_succ] at hk
        exact Nat.div_lt_of_lt_mul (by rw [Nat.mul_comm]; exact hk)
  have hv0 : k < 128 → vari f k = [UInt8.ofNat k] := fun h => by
    cases f with
    | zero => rfl
    | succ f' => show (if k < 128 then _ else _) = _; rw [if_pos h]
  have hX : IntKind.u8.wrap (((BitVec.ofInt IntKind.u8.bits (IntKind.u8.wrap (k : Int))) ||| (BitVec.ofInt IntKind.u8.bits 128)).toNat : Int) = (UInt8.ofNat (k % 128 + 128)).toNat := by
    rw [hw8, or128 _ (by omega), hmod]; exact hb1
  cases own
  · conv => whnf
    refine csplit (fun hge => ?_) (fun hlt => ?_)
    · replace hge : 128 ≤ k := by have h' : decide ((k : Int) ≥ 128) = true := hge; have := of_decide_eq_true h'; omega
      obtain ⟨f', rfl, hv1, hv2⟩ := hv hge
      conv => whnf
      refine ⟨rfl, rfl, rfl, by simp [brows], by simp [brows]; omega, fun q hq => by simp at hq; subst hq; simp, ?_⟩
      conv => whnf
      refine ⟨by decide, ?_⟩
      conv => whnf
      refine ⟨(true, r ++ [UInt8.ofNat (k % 128 + 128)], k / 128), [0, 17], [], Sub.mk' rfl ⟨⟨rfl, by simp⟩, .inl (congrArg tq hdiv), trivial⟩ ⟨⟨rfl, rfl, rfl, app_take r _ _ hX⟩, trivial⟩ rfl rfl, ⟨f', hv2, ?_, ?_, ?_⟩, ?_⟩
      · simp only [List.length_append, List.length_cons, List.length_nil]; omega
      · simp only [List.append_assoc, List.singleton_append]; rw [hE, hv1]
      · show k / 128 < _; omega
      · show k / 128 < k; omega
    · replace hlt : k < 128 := by have h' : decide ((k : Int) ≥ 128) = false := hlt; have := of_decide_eq_false h'; omega
      rw [hE, hv0 hlt]
      conv => whnf
      refine ⟨fun _ => ?_, fun h => absurd rfl h⟩
      conv => whnf
      refine ⟨rfl, rfl, rfl, by simp [brows], by simp [brows]; omega, fun q hq => by simp at hq; subst hq; simp, ?_⟩
      conv => whnf
      exact ⟨[0, 16], rfl, rfl, ⟨rfl, by simp⟩, ⟨rfl, rfl, rfl, app_take r _ _ (by rw [hw8]; exact hlast hlt)⟩, trivial⟩
  · conv => whnf
    refine csplit (fun hge => ?_) (fun hlt => ?_)
    · replace hge : 128 ≤ k := by have h' : decide ((k : Int) ≥ 128) = true := hge; have := of_decide_eq_true h'; omega
      obtain ⟨f', rfl, hv1, hv2⟩ := hv hge
      conv => whnf
      refine ⟨rfl, rfl, rfl, by simp [brows], by simp [brows]; omega, fun q hq => by simp at hq; subst hq; simp, ?_⟩
      conv => whnf
      refine ⟨by decide, ?_⟩
      conv => whnf
      refine ⟨(true, r ++ [UInt8.ofNat (k % 128 + 128)], k / 128), [0, 17], [], Sub.mk' rfl ⟨⟨rfl, by simp⟩, .inl (congrArg tq hdiv), trivial⟩ ⟨⟨rfl, rfl, rfl, app_take r _ _ hX⟩, trivial⟩ rfl rfl, ⟨f', hv2, ?_, ?_, ?_⟩, ?_⟩
      · simp only [List.length_append, List.length_cons, List.length_nil]; omega
      · simp only [List.append_assoc, List.singleton_append]; rw [hE, hv1]
      · show k / 128 < _; omega
      · show k / 128 < k; omega
    · replace hlt : k < 128 := by have h' : decide ((k : Int) ≥ 128) = false := hlt; have := of_decide_eq_false h'; omega
      rw [hE, hv0 hlt]
      conv => whnf
      refine ⟨fun _ => ?_, fun h => absurd rfl h⟩
      conv => whnf
      refine ⟨rfl, rfl, rfl, by simp [brows], by simp [brows]; omega, fun q hq => by simp at hq; subst hq; simp, ?_⟩
      conv => whnf
      exact ⟨[0, 16], rfl, rfl, ⟨rfl, by simp⟩, ⟨rfl, rfl, rfl, app_take r _ _ (by rw [hw8]; exact hlast hlt)⟩, trivial⟩
end Go.Proofs.YtffhoknkfohfgaaDoor.am

namespace Go.Proofs.YtffhoknkfohfgaaDoor.am
open Go Go.Proofs
def magicL : List UInt8 := [115, 116, 105, 108]
def magicV : Array Value := #[.int .u8 115, .int .u8 116, .int .u8 105, .int .u8 108]
def magicW (w : World) : World := (w.alloc (.cells magicV 5)).freeze ⟨w.heap.size, 4, none⟩ 1
theorem magicW_old (w : World) (j : Nat) (hj : j < w.heap.size) : (magicW w).heap[j]? = w.heap[j]? := by
  have h1 : w.heap.size ≠ j := by omega
  simp [magicW, World.freeze, World.alloc, -World.alloc_eq, Array.getElem?_modify, Array.getElem?_push, h1, Ne.symm h1]
theorem magicW_new (w : World) : (magicW w).heap[w.heap.size]? = some (.cells magicV 5 (4, 5)) := by
  simp [magicW, World.freeze, World.alloc, -World.alloc_eq]
  rw [Array.getElem_modify_self]
  simp
theorem magicW_size (w : World) : (magicW w).heap.size = w.heap.size + 1 := by simp [magicW, World.freeze, World.alloc, -World.alloc_eq]
theorem magicW_conv (w : World) : (convert 38 38 (.slice (some ⟨w.heap.size, 0, none⟩) 4 4)).run Tryd.prog (w.alloc (.cells magicV 5)) = .ok (.slice (some ⟨w.heap.size, 0, none⟩) 4 4) (magicW w) := by
  have hsh : ∀ c : Array Value, (w.alloc (.cells c 5)).shape? w.heap.size = some (5, c.size) := by
    intro c
    simp [World.shape?, World.alloc, -World.alloc_eq]
  simp [convert, run_underlying Tryd.underlying38, run_underlying Tryd.underlying5, markStringish, hsh, magicW, magicV, Result.andThen]
theorem magic_rep (g : Gh) (w : World) (hm : ∀ b, g.X b → b < w.heap.size) (hl : ∀ h b, Owns g h b → b < w.heap.size) : Rep g (magicW w) (.slice (some ⟨w.heap.size, 0, none⟩) 4 4) (.ful 1 1 (brows magicL)) := by
  have hok : okB g (magicW w) w.heap.size := ⟨by rw [magicW_size]; omega, fun hx => by have := hm _ hx; omega, fun h ho => by have := hl h _ ho; omega⟩
  refine .ful (.lst (fun i _ => magicV.getD i default) rfl (Nat.le_refl _) (by decide) (by decide) (fun h => by cases h) (fun i row hr => ?_) fun i row j t hr hj => ?_) ⟨_, _, rfl⟩
  · obtain ⟨b, h1, rfl⟩ := map_get (f := fun b : UInt8 => [Tr.v (.int .u8 b.toNat)]) hr
    have hi : i < 4 := (List.getElem?_eq_some_iff.1 h1).1
    refine ⟨rfl, _, _, rfl, hok, fun j hj => ?_⟩
    have hj0 : j = 0 := by simp at hj; exact hj
    subst hj0
    rw [show 0 + i * 1 + 0 = i by omega]
    refine (cell_of_row _ w.heap.size i _ _ _ (magicW_new w)).trans ?_
    rw [Array.getElem?_eq_getElem (by simpa [magicV] using hi)]
    simp [Array.getD, magicV, hi]
  · obtain ⟨b, h1, rfl⟩ := map_get (f := fun b : UInt8 => [Tr.v (.int .u8 b.toNat)]) hr
    have hi : i < 4 := (List.getElem?_eq_some_iff.1 h1).1
    have hj0 : j = 0 := by have := (List.getElem?_eq_some_iff.1 hj).1; simp at this; exact this
    subst hj0
    simp at hj
    subst hj
    have : i = 0 ∨ i = 1 ∨ i = 2 ∨ i = 3 := by omega
    have key : ∀ b : UInt8, RepT (okB g (magicW w)) (magicW w) (.int .u8 b.toNat) (.v (.int .u8 b.toNat)) := fun b => .v (byte_good b)
    rcases this with rfl | rfl | rfl | rfl
    · simp [magicL] at h1; subst h1; exact key 115
    · simp [magicL] at h1; subst h1; exact key 116
    · simp [magicL] at h1; subst h1; exact key 105
    · simp [magicL] at h1; subst h1; exact key 108
/-- the region that makes the row, and goes on with the operations behind -/
theorem magic_region {k N id nx d1 d2 : Nat} {pos1 pos2 : String} {af1 af2 : Array Edge} {ty1 ty2 : Nat} {r : List Oper} {Q : QL} {tl : List (Nat × AV)} {bl : List (Nat × Option Blk)} {ops : Array Oper}
    (hops : ops = (⟨some d1, .buildSlice 38 4 #[(0, .const (.int .u8 115)), (1, .const (.int .u8 116)), (2, .const (.int .u8 105)), (3, .const (.int .u8 108))], ty1, pos1, af1, none⟩ :: ⟨some d2, .convert 38 38 (.tmp d1), ty2, pos2, af2, none⟩ :: r).toArray)
    (hd1 : Nat.blt d1 N = true) (hd2 : Nat.blt d2 N = true) (hb : nx + (2 + r.length) ≤ HMod) (h : aopsL Tryd.prog T N ops nx Q r 2 (putLs (putLs tl (some d1) (.ful 1 1 (brows magicL))) (some d2) (.ful 1 1 (brows magicL))) bl) :
    Wp Tryd.prog k N (.region id ops false) (Ql Q) (LS.mk tl bl nx).st := by
  intro g0 g w0 w act hk hs
  refine wp_region_list ?_
  have hN := hs.size
  replace hd1 : d1 < N := Nat.le_of_ble_eq_true hd1
  replace hd2 : d2 < N := Nat.le_of_ble_eq_true hd2
  have hto : ops.toList = ⟨some d1, .buildSlice 38 4 #[(0, .const (.int .u8 115)), (1, .const (.int .u8 116)), (2, .const (.int .u8 105)), (3, .const (.int .u8 108))], ty1, pos1, af1, none⟩ :: ⟨some d2, .convert 38 38 (.tmp d1), ty2, pos2, af2, none⟩ :: r := by rw [hops]
  rw [hto]
  have hG : Grow g w g (magicW w) := ⟨rfl, rfl, rfl, by rw [magicW_size]; omega, fun b hb => magicW_old w b hb.1, fun b hb => magicW_old w b (hs.mem.xlt b hb), rfl, fun _ h => h, fun _ _ h => .inl h, fun k b e => .inl ⟨k, e⟩⟩
  have hR := magic_rep g w hs.mem.xlt hs.mem.lt
  unfold wpList
  rw [if_pos (by simp [Region.wanted])]
  refine .inl ?_
  unfold Oper.wp
  rw [show (execOp act.eval ⟨some d1, .buildSlice 38 4 #[(0, .const (.int .u8 115)), (1, .const (.int .u8 116)), (2, .const (.int .u8 105)), (3, .const (.int .u8 108))], ty1, pos1, af1, none⟩).run Tryd.prog w = .ok (.value (.slice (some ⟨w.heap.size, 0, none⟩) 4 4)) (w.alloc (.cells magicV 5)) by kernel_rfl]
  show wpList Tryd.prog ops _ _ (act.put (some d1) (.slice (some ⟨w.heap.size, 0, none⟩) 4 4)) _
  unfold wpList
  rw [if_pos (by simp [Region.wanted])]
  refine .inl ?_
  unfold Oper.wp
  have he : (act.put (some d1) (.slice (some ⟨w.heap.size, 0, none⟩) 4 4)).eval (.tmp d1) = .slice (some ⟨w.heap.size, 0, none⟩) 4 4 := by
    show (act.tmps.setIfInBounds d1 _).getD d1 undef = _
    rw [getD_set (by omega), if_pos rfl]
  rw [show (execOp (act.put (some d1) (.slice (some ⟨w.heap.size, 0, none⟩) 4 4)).eval ⟨some d2, .convert 38 38 (.tmp d1), ty2, pos2, af2, none⟩).run Tryd.prog (w.alloc (.cells magicV 5)) = .ok (.value (.slice (some ⟨w.heap.size, 0, none⟩) 4 4)) (magicW w) by
    simp only [execOp, he, Sem.run_bind, magicW_conv, Result.andThen_ok]
    rfl]
  show wpList Tryd.prog ops _ r ((act.put (some d1) (.slice (some ⟨w.heap.size, 0, none⟩) 4 4)).put (some d2) (.slice (some ⟨w.heap.size, 0, none⟩) 4 4)) (magicW w)
  obtain ⟨p1, p2⟩ := put_ok (dst := some d1) hN hs.fr hG (by unfold dstOk; exact Nat.ble_eq_true_of_le hd1) hR
  obtain ⟨q1, q2⟩ := put_ok (dst := some d2) p1 p2 (Grow.refl _ _) (by unfold dstOk; exact Nat.ble_eq_true_of_le hd2) hR
  have hM : MSt g (magicW w) (lkM bl) := ⟨fun h b e => by
    obtain ⟨l, e1, e2⟩ := hs.mem.blk h b e
    exact ⟨l, e1, e2.grow hG fun k hk => magicW_old w k (hs.mem.lt h k ⟨l, e1, hk⟩)⟩, hs.mem.inj, fun h b e => Nat.lt_of_lt_of_le (hs.mem.lt h b e) hG.size, fun b e => Nat.lt_of_lt_of_le (hs.mem.xlt b e) hG.size, hs.mem.xl, hs.mem.gl.grow hG⟩
  refine aopsL_sound hT nx Q r 2 _ bl g _ _ (by omega) h ⟨q1, (put_defers ..).trans ((put_defers ..).trans hs.defers), ?_, hM, fun h hh => hs.un h (by show nx ≤ h % HMod; omega), hs.grow.trans hG⟩
  rw [putLs_lk, putLs_lk]
  exact q2
end Go.Proofs.YtffhoknkfohfgaaDoor.am

namespace Go.Proofs.YtffhoknkfohfgaaDoor.am
open Go Go.Proofs
def pnF (own : Bool) (l : List UInt8) (n : Nat) : LJ := match own with
  | false => ⟨[(0, .ful 1 1 (brows magicL)), (1, .tr (tq n))], [], 10⟩
  | true => ⟨[(0, .sl 0 l.length), (1, .tr (tq n))], [(0, bytB l)], 10⟩
theorem app_take4 (x : Int) (b : UInt8) (h : x = b.toNat) : brows magicL ++ List.take 1 [[Tr.v (.int .u8 x)]] = brows (magicL ++ [b]) := by
  rw [byte_row h, ← brows_app]; rfl
set_option maxHeartbeats 1000000 in
theorem k_putNumberF (n : Nat) (hn : n < 18446744073709551616) :
    K 31 [.ful 1 1 (brows magicL), .tr (tq n)] [] (.ret (.sl 0 (magicL ++ varB n).length)) [some (bytB (magicL ++ varB n))] := by
  refine Ctr.new [] hT hmix Tryd.func31 rfl (fun _ _ => by kernel_rfl) rfl fun hok => ?_
  clear hok
  conv => whnf
  refine LoopL.by (fun x : Bool × List UInt8 × Nat => pnF x.1 x.2.1 x.2.2) (fun x => ∃ f, x.2.2 < 128 ^ (f + 1) ∧ x.2.1.length + f ≤ 13 ∧ magicL ++ varB n = x.2.1 ++ vari f x.2.2 ∧ x.2.2 < 18446744073709551616 ∧ (x.1 = false → x.2.1 = magicL)) (fun x => x.2.2) (false, magicL, n) [] []
    (Sub.mk' rfl ⟨⟨rfl, rfl, rfl⟩, .inl rfl, trivial⟩ trivial rfl rfl) ⟨9, Nat.lt_trans hn (by decide), Nat.le_refl _, rfl, hn, fun _ => rfl⟩ ?_
  rintro ⟨own, r, k⟩ ⟨f, hk, hlr, hE, hk64, hmag⟩ -
  simp only at hk hlr hE hk64 hmag
  have hdiv : ((k : Int).fdiv (2 ^ (min (7 : Int).toNat IntKind.u64.bits))) = ((k / 128 : Nat) : Int) := by
    rw [show min (7 : Int).toNat IntKind.u64.bits = 7 from rfl, Int.fdiv_eq_ediv_of_nonneg _ (by decide)]
    norm_cast
  have hw8 : IntKind.u8.wrap (k : Int) = ((k % 256 : Nat) : Int) := wu8n k
  have hb1 : (((k % 128 + 128 : Nat) : Int)) = (UInt8.ofNat (k % 128 + 128)).toNat := by rw [UInt8.toNat_ofNat']; omega
  have hmod : k % 256 % 128 = k % 128 := by omega
  have hlast : k < 128 → ((k % 256 : Nat) : Int) = (UInt8.ofNat k).toNat := fun h => by rw [UInt8.toNat_ofNat']
  have hv : ∀ h : 128 ≤ k, ∃ f', f = f' + 1 ∧ vari f k = UInt8.ofNat (k % 128 + 128) :: vari f' (k / 128) ∧ k / 128 < 128 ^ (f' + 1) := fun h => by
    cases f with
    | zero => simp at hk; omega
    | succ f' =>
      refine ⟨f', rfl, ?_, ?_⟩
      · show (if k < 128 then _ else _) = _
        rw [if_neg (by omega)]
      · rw [Nat.pow_succ] at hk
        exact Nat.div_lt_of_lt_mul (by rw [Nat.mul_comm]; exact hk)
  have hv0 : k < 128 → vari f k = [UInt8.ofNat k] := fun h => by
    cases f with
    | zero => rfl
    | succ f' => show (if k < 128 then _ else _) = _; rw [if_pos h]
  have hX : IntKind.u8.wrap (((BitVec.ofInt IntKind.u8.bits (IntKind.u8.wrap (k : Int))) ||| (BitVec.ofInt IntKind.u8.bits 128)).toNat : Int) = (UInt8.ofNat (k % 128 + 128)).toNat := by
    rw [hw8, or128 _ (by omega), hmod]; exact hb1
  cases own
  · obtain rfl := hmag rfl
    conv => whnf
    refine csplit (fun hge => ?_) (fun hlt => ?_)
    · replace hge : 128 ≤ k := by have h' : decide ((k : Int) ≥ 128) = true := hge; have := of_decide_eq_true h'; omega
      obtain ⟨f', rfl, hv1, hv2⟩ := hv hge
      conv => whnf
      refine ⟨rfl, rfl, by simp [brows, magicL], ?_⟩
      conv => whnf
      refine ⟨by decide, ?_⟩
      conv => whnf
      refine ⟨(true, magicL ++ [UInt8.ofNat (k % 128 + 128)], k / 128), [17], [], Sub.mk' rfl ⟨⟨rfl, by simp [brows, magicL]⟩, .inl (congrArg tq hdiv), trivial⟩ ⟨⟨rfl, rfl, rfl, app_take4 _ _ hX⟩, trivial⟩ rfl rfl, ⟨f', hv2, ?_, ?_, ?_, fun h => by cases h⟩, ?_⟩
      · simp only [List.length_append, List.length_cons, List.length_nil]; omega
      · simp only [List.append_assoc, List.singleton_append]; rw [hE, hv1]
      · show k / 128 < _; omega
      · show k / 128 < k; omega
    · replace hlt : k < 128 := by have h' : decide ((k : Int) ≥ 128) = false := hlt; have := of_decide_eq_false h'; omega
      rw [hE, hv0 hlt]
      conv => whnf
      refine ⟨fun _ => ?_, fun h => absurd rfl h⟩
      conv => whnf
      refine ⟨rfl, rfl, by simp [brows, magicL], ?_⟩
      conv => whnf
      exact ⟨[16], rfl, rfl, ⟨rfl, by simp [brows, magicL]⟩, ⟨rfl, rfl, rfl, app_take4 _ _ (by rw [hw8]; exact hlast hlt)⟩, trivial⟩
  · conv => whnf
    refine csplit (fun hge => ?_) (fun hlt => ?_)
    · replace hge : 128 ≤ k := by have h' : decide ((k : Int) ≥ 128) = true := hge; have := of_decide_eq_true h'; omega
      obtain ⟨f', rfl, hv1, hv2⟩ := hv hge
      conv => whnf
      refine ⟨rfl, rfl, rfl, by simp [brows], by simp; omega, fun q hq => by simp at hq; subst hq; simp, ?_⟩
      conv => whnf
      refine ⟨by decide, ?_⟩
      conv => whnf
      refine ⟨(true, r ++ [UInt8.ofNat (k % 128 + 128)], k / 128), [17], [], Sub.mk' rfl ⟨⟨rfl, by simp⟩, .inl (congrArg tq hdiv), trivial⟩ ⟨⟨rfl, rfl, rfl, app_take r _ _ hX⟩, trivial⟩ rfl rfl, ⟨f', hv2, ?_, ?_, ?_, fun h => by cases h⟩, ?_⟩
      · simp only [List.length_append, List.length_cons, List.length_nil]; omega
      · simp only [List.append_assoc, List.singleton_append]; rw [hE, hv1]
      · show k / 128 < _; omega
      · show k / 128 < k; omega
    · replace hlt : k < 128 := by have h' : decide ((k : Int) ≥ 128) = false := hlt; have := of_decide_eq_false h'; omega
      rw [hE, hv0 hlt]
      conv => whnf
      refine ⟨fun _ => ?_, fun h => absurd rfl h⟩
      conv => whnf
      refine ⟨rfl, rfl, rfl, by simp [brows], by simp; omega, fun q hq => by simp at hq; subst hq; simp, ?_⟩
      conv => whnf
      exact ⟨[16], rfl, rfl, ⟨rfl, by simp⟩, ⟨rfl, rfl, rfl, app_take r _ _ (by rw [hw8]; exact hlast hlt)⟩, trivial⟩
/-- a word's number -/
def zig (w : Int) : Nat := (IntKind.u64.wrap (BitVec.ofInt IntKind.u64.bits (IntKind.u64.wrap (IntKind.i64.wrap (w * 2 ^ (min (1 : Int).toNat IntKind.i64.bits)))) ^^^ BitVec.ofInt IntKind.u64.bits (IntKind.u64.wrap (w.fdiv (2 ^ (min (63 : Int).toNat IntKind.i64.bits))))).toNat).toNat
theorem u64_wrap (z : Int) : 0 ≤ IntKind.u64.wrap z ∧ IntKind.u64.wrap z < 18446744073709551616 := by
  simp only [IntKind.wrap, IntKind.signed, IntKind.bits, Bool.false_and, Bool.false_eq_true, if_false, Int.reducePow]
  omega
theorem zig_lt (w : Int) : zig w < 18446744073709551616 := by
  unfold zig
  have := u64_wrap (BitVec.ofInt IntKind.u64.bits (IntKind.u64.wrap (IntKind.i64.wrap (w * 2 ^ (min (1 : Int).toNat IntKind.i64.bits)))) ^^^ BitVec.ofInt IntKind.u64.bits (IntKind.u64.wrap (w.fdiv (2 ^ (min (63 : Int).toNat IntKind.i64.bits))))).toNat
  omega
def wrdB (w : Int) : List UInt8 := varB (zig w)
theorem k_putWord (l : List UInt8) (w : Int) (hl : l.length ≤ 100000000) :
    K 32 [.sl 0 l.length, .tr (ti w)] [bytB l] (.ret (.sl 1 (l ++ wrdB w).length)) [none, some (bytB (l ++ wrdB w))] := by
  refine Ctr.new [] hT hmix Tryd.func32 rfl (fun _ _ => by kernel_rfl) rfl fun hok => ?_
  clear hok
  have hz : ((zig w : Nat) : Int) = IntKind.u64.wrap (BitVec.ofInt IntKind.u64.bits (IntKind.u64.wrap (IntKind.i64.wrap (w * 2 ^ (min (1 : Int).toNat IntKind.i64.bits)))) ^^^ BitVec.ofInt IntKind.u64.bits (IntKind.u64.wrap (w.fdiv (2 ^ (min (63 : Int).toNat IntKind.i64.bits))))).toNat := by
    unfold zig
    exact Int.toNat_of_nonneg (u64_wrap _).1
  conv => whnf
  refine ⟨by decide, ?_⟩
  conv => whnf
  refine ⟨by decide, ?_⟩
  conv => whnf
  refine acall.new [0] [] _ _ _ _ (k_putNumber l (zig w) (zig_lt w) hl) rfl rfl rfl rfl ⟨⟨rfl, rfl⟩, .inl (congrArg tq hz.symm), trivial⟩ aut rfl rfl fun _ => ?_
  conv => whnf
  exact ⟨[0, 10], rfl, rfl, ⟨rfl, rfl⟩, aut⟩
end Go.Proofs.YtffhoknkfohfgaaDoor.am

namespace Go.Proofs.YtffhoknkfohfgaaDoor.am
open Go Go.Proofs
def nuB (x : Int) : List UInt8 := vari 9 (IntKind.u64.wrap x).toNat
theorem k_putN (l : List UInt8) (x : Int) (hl : l.length ≤ 100000000) :
    K 31 [.sl 0 l.length, .tr (tq (IntKind.u64.wrap x))] [bytB l] (.ret (.sl 1 (l ++ nuB x).length)) [none, some (bytB (l ++ nuB x))] := by
  have h := u64_wrap x
  have := k_putNumber l (IntKind.u64.wrap x).toNat (by omega) hl
  have e : (((IntKind.u64.wrap x).toNat : Nat) : Int) = IntKind.u64.wrap x := Int.toNat_of_nonneg h.1
  have e2 : varB (((IntKind.u64.wrap x).toNat : Nat) : Int) = nuB x := rfl
  rw [e2, e] at this
  exact this
abbrev insB (i : Ins) : Blk := .cells 37 [.tr (tu i.kind), .tr (tu i.op), .tr (ti i.d), .tr (ti i.a), .tr (ti i.b), .tr (ti i.addr), .tr (ti i.to_), .tr (ti i.word), .tr (ti i.from_)]
abbrev outC (h : Nat) (l : List UInt8) : Blk := .cells 38 [.sl h l.length]
def fieldE (i : Ins) (u : Int) : List UInt8 :=
  bif u == 1 then nuB i.op else bif u == 2 then nuB i.d else bif u == 4 then nuB i.a else bif u == 8 then nuB i.b else bif u == 16 then nuB i.addr else bif u == 32 then nuB i.to_ else bif u == 64 then wrdB i.word else []
def fieldsE (i : Ins) : List UInt8 := (bif i.kind == 2 && !two i.op then [1, 2, 4] else kuse i.kind).flatMap (fieldE i)
theorem nuB_len (x : Int) : (nuB x).length ≤ 10 := vari_len 9 _
theorem wrdB_len (x : Int) : (wrdB x).length ≤ 10 := vari_len 9 _

set_option maxRecDepth 100000 in
theorem k_encOp (n : Int) (u : Int) (l : List UInt8) (hl : l.length ≤ 100000000) : K 34 [.tr (tu u), .ptr 0 0, .tr (.v (.pointer none)), .ptr 1 0] [.cells 3 [.tr (ti n)], outC 2 l, bytB l] (.ret (.tup []))
    [some (.cells 3 [.tr (ti n)]), some (outC 3 (l ++ nuB n)), none, some (bytB (l ++ nuB n))] := by
  refine Ctr.new [] hT hmix Tryd.func34 rfl (fun _ _ => by kernel_rfl) rfl fun hok => ?_
  clear hok
  conv => whnf
  refine acall.new [2] [] _ _ _ _ (k_putN l n hl) rfl rfl rfl rfl aut aut rfl rfl ?_
  conv => whnf
  refine ⟨by kernel_rfl, fun _ => ?_⟩
  conv => whnf
  exact ⟨[0, 1, 2, 10], rfl, rfl, trivial, aut⟩

set_option maxRecDepth 100000 in
theorem k_enc2 (i : Ins) (u : Int) (l : List UInt8) (hl : l.length ≤ 100000000) : K 34 [.tr (tu u), .ptr 0 2, .tr (.v (.pointer none)), .ptr 1 0] [insB i, outC 2 l, bytB l] (.ret (.tup []))
    [some (insB i), some (outC 3 (l ++ nuB i.d)), none, some (bytB (l ++ nuB i.d))] := by
  refine Ctr.new [] hT hmix Tryd.func34 rfl (fun _ _ => by kernel_rfl) rfl fun hok => ?_
  clear hok
  conv => whnf
  refine acall.new [2] [] _ _ _ _ (k_putN l i.d hl) rfl rfl rfl rfl aut aut rfl rfl ?_
  conv => whnf
  refine ⟨by kernel_rfl, fun _ => ?_⟩
  conv => whnf
  exact ⟨[0, 1, 2, 10], rfl, rfl, trivial, aut⟩

set_option maxRecDepth 100000 in
theorem k_enc4 (i : Ins) (u : Int) (l : List UInt8) (hl : l.length ≤ 100000000) : K 34 [.tr (tu u), .ptr 0 3, .tr (.v (.pointer none)), .ptr 1 0] [insB i, outC 2 l, bytB l] (.ret (.tup []))
    [some (insB i), some (outC 3 (l ++ nuB i.a)), none, some (bytB (l ++ nuB i.a))] := by
  refine Ctr.new [] hT hmix Tryd.func34 rfl (fun _ _ => by kernel_rfl) rfl fun hok => ?_
  clear hok
  conv => whnf
  refine acall.new [2] [] _ _ _ _ (k_putN l i.a hl) rfl rfl rfl rfl aut aut rfl rfl ?_
  conv => whnf
  refine ⟨by kernel_rfl, fun _ => ?_⟩
  conv => whnf
  exact ⟨[0, 1, 2, 10], rfl, rfl, trivial, aut⟩

set_option maxRecDepth 100000 in
theorem k_enc8 (i : Ins) (u : Int) (l : List UInt8) (hl : l.length ≤ 100000000) : K 34 [.tr (tu u), .ptr 0 4, .tr (.v (.pointer none)), .ptr 1 0] [insB i, outC 2 l, bytB l] (.ret (.tup []))
    [some (insB i), some (outC 3 (l ++ nuB i.b)), none, some (bytB (l ++ nuB i.b))] := by
  refine Ctr.new [] hT hmix Tryd.func34 rfl (fun _ _ => by kernel_rfl) rfl fun hok => ?_
  clear hok
  conv => whnf
  refine acall.new [2] [] _ _ _ _ (k_putN l i.b hl) rfl rfl rfl rfl aut aut rfl rfl ?_
  conv => whnf
  refine ⟨by kernel_rfl, fun _ => ?_⟩
  conv => whnf
  exact ⟨[0, 1, 2, 10], rfl, rfl, trivial, aut⟩

set_option maxRecDepth 100000 in
theorem k_enc16 (i : Ins) (u : Int) (l : List UInt8) (hl : l.length ≤ 100000000) : K 34 [.tr (tu u), .ptr 0 5, .tr (.v (.pointer none)), .ptr 1 0] [insB i, outC 2 l, bytB l] (.ret (.tup []))
    [some (insB i), some (outC 3 (l ++ nuB i.addr)), none, some (bytB (l ++ nuB i.addr))] := by
  refine Ctr.new [] hT hmix Tryd.func34 rfl (fun _ _ => by kernel_rfl) rfl fun hok => ?_
  clear hok
  conv => whnf
  refine acall.new [2] [] _ _ _ _ (k_putN l i.addr hl) rfl rfl rfl rfl aut aut rfl rfl ?_
  conv => whnf
  refine ⟨by kernel_rfl, fun _ => ?_⟩
  conv => whnf
  exact ⟨[0, 1, 2, 10], rfl, rfl, trivial, aut⟩

set_option maxRecDepth 100000 in
theorem k_enc32 (i : Ins) (u : Int) (l : List UInt8) (hl : l.length ≤ 100000000) : K 34 [.tr (tu u), .ptr 0 6, .tr (.v (.pointer none)), .ptr 1 0] [insB i, outC 2 l, bytB l] (.ret (.tup []))
    [some (insB i), some (outC 3 (l ++ nuB i.to_)), none, some (bytB (l ++ nuB i.to_))] := by
  refine Ctr.new [] hT hmix Tryd.func34 rfl (fun _ _ => by kernel_rfl) rfl fun hok => ?_
  clear hok
  conv => whnf
  refine acall.new [2] [] _ _ _ _ (k_putN l i.to_ hl) rfl rfl rfl rfl aut aut rfl rfl ?_
  conv => whnf
  refine ⟨by kernel_rfl, fun _ => ?_⟩
  conv => whnf
  exact ⟨[0, 1, 2, 10], rfl, rfl, trivial, aut⟩

set_option maxRecDepth 100000 in
theorem k_encW (i : Ins) (u : Int) (l : List UInt8) (hl : l.length ≤ 100000000) : K 34 [.tr (tu u), .tr (.v (.pointer none)), .ptr 0 7, .ptr 1 0] [insB i, outC 2 l, bytB l] (.ret (.tup []))
    [some (insB i), some (outC 3 (l ++ wrdB i.word)), none, some (bytB (l ++ wrdB i.word))] := by
  refine Ctr.new [] hT hmix Tryd.func34 rfl (fun _ _ => by kernel_rfl) rfl fun hok => ?_
  clear hok
  conv => whnf
  refine acall.new [2] [] _ _ _ _ (k_putWord l i.word hl) rfl rfl rfl rfl aut aut rfl rfl ?_
  conv => whnf
  refine ⟨by kernel_rfl, fun _ => ?_⟩
  conv => whnf
  exact ⟨[0, 1, 2, 9], rfl, rfl, trivial, aut⟩

set_option maxRecDepth 100000 in
set_option maxHeartbeats 2000000 in
theorem k_fieldsE1 {op d a b addr to_ word from_ : Int} (hop : 0 ≤ op ∧ op ≤ 255) (l : List UInt8) (hl : l.length ≤ 50000000) : K 33 [.ptr 0 0, .fn 34 [.ptr 1 0]] [insB ⟨1, op, d, a, b, addr, to_, word, from_⟩, outC 2 l, bytB l] (.ret (.tup [])) [some (insB ⟨1, op, d, a, b, addr, to_, word, from_⟩), some (outC 3 (l ++ fieldsE ⟨1, op, d, a, b, addr, to_, word, from_⟩)), none, some (bytB (l ++ fieldsE ⟨1, op, d, a, b, addr, to_, word, from_⟩))] := by
  refine Ctr.new [] hT hmix Tryd.func33 rfl (fun _ _ => by kernel_rfl) rfl fun hok => ?_
  clear hok
  have hu := k_used ⟨1, op, d, a, b, addr, to_, word, from_⟩
  have hf := k_forms 1
  have e : usedM 1 op = 66 := rfl
  simp only [e] at hu
  clear e
  have eE : l ++ fieldsE ⟨1, op, d, a, b, addr, to_, word, from_⟩ = ((l ++ nuB d) ++ wrdB word) := by unfold fieldsE; simp [List.flatMap, kuse, byK, kuses, fieldE]
  rw [eE]
  clear eE
  have e64 : IntKind.i64.wrap op = op := w64 (by omega) (by omega)
  have ew : IntKind.u8.wrap op = op := wu8 hop.1 hop.2
  conv => whnf
  refine acall.pure _ (hf) rfl rfl fun _ => ?_
  conv => whnf
  refine LoopL.un 5 ?_
  conv => whnf
  refine ⟨by decide, by decide, rfl, by decide, fun a ha => ?_⟩
  cases ha
  conv => whnf
  refine acall.pure _ (hu) rfl rfl fun _ => ?_
  conv => whnf
  refine acall.new [0, 1, 2] [] _ _ _ _ (k_enc2 ⟨1, op, d, a, b, addr, to_, word, from_⟩ 2 l (by have := nuB_len op; have := nuB_len d; have := nuB_len a; have := nuB_len b; have := nuB_len addr; have := nuB_len to_; have := wrdB_len word; (try simp only [List.length_append]); omega)) rfl rfl rfl rfl aut aut rfl rfl fun _ => ?_
  conv => whnf
  refine ⟨by decide, by decide, rfl, by decide, fun a ha => ?_⟩
  cases ha
  conv => whnf
  refine acall.pure _ (hu) rfl rfl fun _ => ?_
  conv => whnf
  refine acall.new [0, 1, 48] [] _ _ _ _ (k_encW ⟨1, op, d, a, b, addr, to_, word, from_⟩ 64 (l ++ nuB d) (by have := nuB_len op; have := nuB_len d; have := nuB_len a; have := nuB_len b; have := nuB_len addr; have := nuB_len to_; have := wrdB_len word; (try simp only [List.length_append]); omega)) rfl rfl rfl rfl aut aut rfl rfl fun _ => ?_
  conv => whnf
  refine ⟨by decide, by decide, rfl, by decide, fun a ha => ?_⟩
  cases ha
  conv => whnf
  refine acall.pure _ (hu) rfl rfl fun _ => ?_
  conv => whnf
  refine ⟨by decide, by decide, rfl, by decide, fun a ha => ?_⟩
  cases ha
  conv => whnf
  refine acall.pure _ (hu) rfl rfl fun _ => ?_
  conv => whnf
  refine ⟨fun _ => ?_, fun h => absurd rfl h⟩
  conv => whnf
  exact ⟨[0, 1, 2, 85], rfl, rfl, trivial, (by repeat' (first | exact trivial | exact Or.inl rfl | exact rfl | exact Nat.le_refl _ | exact Or.inl (congrArg tu ew) | apply And.intro))⟩
set_option maxRecDepth 100000 in
set_option maxHeartbeats 2000000 in
theorem k_fieldsE3 {op d a b addr to_ word from_ : Int} (hop : 0 ≤ op ∧ op ≤ 255) (l : List UInt8) (hl : l.length ≤ 50000000) : K 33 [.ptr 0 0, .fn 34 [.ptr 1 0]] [insB ⟨3, op, d, a, b, addr, to_, word, from_⟩, outC 2 l, bytB l] (.ret (.tup [])) [some (insB ⟨3, op, d, a, b, addr, to_, word, from_⟩), some (outC 3 (l ++ fieldsE ⟨3, op, d, a, b, addr, to_, word, from_⟩)), none, some (bytB (l ++ fieldsE ⟨3, op, d, a, b, addr, to_, word, from_⟩))] := by
  refine Ctr.new [] hT hmix Tryd.func33 rfl (fun _ _ => by kernel_rfl) rfl fun hok => ?_
  clear hok
  have hu := k_used ⟨3, op, d, a, b, addr, to_, word, from_⟩
  have hf := k_forms 3
  have e : usedM 3 op = 18 := rfl
  simp only [e] at hu
  clear e
  have eE : l ++ fieldsE ⟨3, op, d, a, b, addr, to_, word, from_⟩ = ((l ++ nuB d) ++ nuB addr) := by unfold fieldsE; simp [List.flatMap, kuse, byK, kuses, fieldE]
  rw [eE]
  clear eE
  have e64 : IntKind.i64.wrap op = op := w64 (by omega) (by omega)
  have ew : IntKind.u8.wrap op = op := wu8 hop.1 hop.2
  conv => whnf
  refine acall.pure _ (hf) rfl rfl fun _ => ?_
  conv => whnf
  refine LoopL.un 5 ?_
  conv => whnf
  refine ⟨by decide, by decide, rfl, by decide, fun a ha => ?_⟩
  cases ha
  conv => whnf
  refine acall.pure _ (hu) rfl rfl fun _ => ?_
  conv => whnf
  refine acall.new [0, 1, 2] [] _ _ _ _ (k_enc2 ⟨3, op, d, a, b, addr, to_, word, from_⟩ 2 l (by have := nuB_len op; have := nuB_len d; have := nuB_len a; have := nuB_len b; have := nuB_len addr; have := nuB_len to_; have := wrdB_len word; (try simp only [List.length_append]); omega)) rfl rfl rfl rfl aut aut rfl rfl fun _ => ?_
  conv => whnf
  refine ⟨by decide, by decide, rfl, by decide, fun a ha => ?_⟩
  cases ha
  conv => whnf
  refine acall.pure _ (hu) rfl rfl fun _ => ?_
  conv => whnf
  refine acall.new [0, 1, 48] [] _ _ _ _ (k_enc16 ⟨3, op, d, a, b, addr, to_, word, from_⟩ 16 (l ++ nuB d) (by have := nuB_len op; have := nuB_len d; have := nuB_len a; have := nuB_len b; have := nuB_len addr; have := nuB_len to_; have := wrdB_len word; (try simp only [List.length_append]); omega)) rfl rfl rfl rfl aut aut rfl rfl fun _ => ?_
  conv => whnf
  refine ⟨by decide, by decide, rfl, by decide, fun a ha => ?_⟩
  cases ha
  conv => whnf
  refine acall.pure _ (hu) rfl rfl fun _ => ?_
  conv => whnf
  refine ⟨by decide, by decide, rfl, by decide, fun a ha => ?_⟩
  cases ha
  conv => whnf
  refine acall.pure _ (hu) rfl rfl fun _ => ?_
  conv => whnf
  refine ⟨fun _ => ?_, fun h => absurd rfl h⟩
  conv => whnf
  exact ⟨[0, 1, 2, 81], rfl, rfl, trivial, (by repeat' (first | exact trivial | exact Or.inl rfl | exact rfl | exact Nat.le_refl _ | exact Or.inl (congrArg tu ew) | apply And.intro))⟩
set_option maxRecDepth 100000 in
set_option maxHeartbeats 2000000 in
theorem k_fieldsE4 {op d a b addr to_ word from_ : Int} (hop : 0 ≤ op ∧ op ≤ 255) (l : List UInt8) (hl : l.length ≤ 50000000) : K 33 [.ptr 0 0, .fn 34 [.ptr 1 0]] [insB ⟨4, op, d, a, b, addr, to_, word, from_⟩, outC 2 l, bytB l] (.ret (.tup [])) [some (insB ⟨4, op, d, a, b, addr, to_, word, from_⟩), some (outC 3 (l ++ fieldsE ⟨4, op, d, a, b, addr, to_, word, from_⟩)), none, some (bytB (l ++ fieldsE ⟨4, op, d, a, b, addr, to_, word, from_⟩))] := by
  refine Ctr.new [] hT hmix Tryd.func33 rfl (fun _ _ => by kernel_rfl) rfl fun hok => ?_
  clear hok
  have hu := k_used ⟨4, op, d, a, b, addr, to_, word, from_⟩
  have hf := k_forms 4
  have e : usedM 4 op = 20 := rfl
  simp only [e] at hu
  clear e
  have eE : l ++ fieldsE ⟨4, op, d, a, b, addr, to_, word, from_⟩ = ((l ++ nuB a) ++ nuB addr) := by unfold fieldsE; simp [List.flatMap, kuse, byK, kuses, fieldE]
  rw [eE]
  clear eE
  have e64 : IntKind.i64.wrap op = op := w64 (by omega) (by omega)
  have ew : IntKind.u8.wrap op = op := wu8 hop.1 hop.2
  conv => whnf
  refine acall.pure _ (hf) rfl rfl fun _ => ?_
  conv => whnf
  refine LoopL.un 5 ?_
  conv => whnf
  refine ⟨by decide, by decide, rfl, by decide, fun a ha => ?_⟩
  cases ha
  conv => whnf
  refine acall.pure _ (hu) rfl rfl fun _ => ?_
  conv => whnf
  refine acall.new [0, 1, 2] [] _ _ _ _ (k_enc4 ⟨4, op, d, a, b, addr, to_, word, from_⟩ 4 l (by have := nuB_len op; have := nuB_len d; have := nuB_len a; have := nuB_len b; have := nuB_len addr; have := nuB_len to_; have := wrdB_len word; (try simp only [List.length_append]); omega)) rfl rfl rfl rfl aut aut rfl rfl fun _ => ?_
  conv => whnf
  refine ⟨by decide, by decide, rfl, by decide, fun a ha => ?_⟩
  cases ha
  conv => whnf
  refine acall.pure _ (hu) rfl rfl fun _ => ?_
  conv => whnf
  refine acall.new [0, 1, 50] [] _ _ _ _ (k_enc16 ⟨4, op, d, a, b, addr, to_, word, from_⟩ 16 (l ++ nuB a) (by have := nuB_len op; have := nuB_len d; have := nuB_len a; have := nuB_len b; have := nuB_len addr; have := nuB_len to_; have := wrdB_len word; (try simp only [List.length_append]); omega)) rfl rfl rfl rfl aut aut rfl rfl fun _ => ?_
  conv => whnf
  refine ⟨by decide, by decide, rfl, by decide, fun a ha => ?_⟩
  cases ha
  conv => whnf
  refine acall.pure _ (hu) rfl rfl fun _ => ?_
  conv => whnf
  refine ⟨by decide, by decide, rfl, by decide, fun a ha => ?_⟩
  cases ha
  conv => whnf
  refine acall.pure _ (hu) rfl rfl fun _ => ?_
  conv => whnf
  refine ⟨fun _ => ?_, fun h => absurd rfl h⟩
  conv => whnf
  exact ⟨[0, 1, 2, 83], rfl, rfl, trivial, (by repeat' (first | exact trivial | exact Or.inl rfl | exact rfl | exact Nat.le_refl _ | exact Or.inl (congrArg tu ew) | apply And.intro))⟩
set_option maxRecDepth 100000 in
set_option maxHeartbeats 2000000 in
theorem k_fieldsE5 {op d a b addr to_ word from_ : Int} (hop : 0 ≤ op ∧ op ≤ 255) (l : List UInt8) (hl : l.length ≤ 50000000) : K 33 [.ptr 0 0, .fn 34 [.ptr 1 0]] [insB ⟨5, op, d, a, b, addr, to_, word, from_⟩, outC 2 l, bytB l] (.ret (.tup [])) [some (insB ⟨5, op, d, a, b, addr, to_, word, from_⟩), some (outC 3 (l ++ fieldsE ⟨5, op, d, a, b, addr, to_, word, from_⟩)), none, some (bytB (l ++ fieldsE ⟨5, op, d, a, b, addr, to_, word, from_⟩))] := by
  refine Ctr.new [] hT hmix Tryd.func33 rfl (fun _ _ => by kernel_rfl) rfl fun hok => ?_
  clear hok
  have hu := k_used ⟨5, op, d, a, b, addr, to_, word, from_⟩
  have hf := k_forms 5
  have e : usedM 5 op = 18 := rfl
  simp only [e] at hu
  clear e
  have eE : l ++ fieldsE ⟨5, op, d, a, b, addr, to_, word, from_⟩ = ((l ++ nuB d) ++ nuB addr) := by unfold fieldsE; simp [List.flatMap, kuse, byK, kuses, fieldE]
  rw [eE]
  clear eE
  have e64 : IntKind.i64.wrap op = op := w64 (by omega) (by omega)
  have ew : IntKind.u8.wrap op = op := wu8 hop.1 hop.2
  conv => whnf
  refine acall.pure _ (hf) rfl rfl fun _ => ?_
  conv => whnf
  refine LoopL.un 5 ?_
  conv => whnf
  refine ⟨by decide, by decide, rfl, by decide, fun a ha => ?_⟩
  cases ha
  conv => whnf
  refine acall.pure _ (hu) rfl rfl fun _ => ?_
  conv => whnf
  refine acall.new [0, 1, 2] [] _ _ _ _ (k_enc2 ⟨5, op, d, a, b, addr, to_, word, from_⟩ 2 l (by have := nuB_len op; have := nuB_len d; have := nuB_len a; have := nuB_len b; have := nuB_len addr; have := nuB_len to_; have := wrdB_len word; (try simp only [List.length_append]); omega)) rfl rfl rfl rfl aut aut rfl rfl fun _ => ?_
  conv => whnf
  refine ⟨by decide, by decide, rfl, by decide, fun a ha => ?_⟩
  cases ha
  conv => whnf
  refine acall.pure _ (hu) rfl rfl fun _ => ?_
  conv => whnf
  refine acall.new [0, 1, 48] [] _ _ _ _ (k_enc16 ⟨5, op, d, a, b, addr, to_, word, from_⟩ 16 (l ++ nuB d) (by have := nuB_len op; have := nuB_len d; have := nuB_len a; have := nuB_len b; have := nuB_len addr; have := nuB_len to_; have := wrdB_len word; (try simp only [List.length_append]); omega)) rfl rfl rfl rfl aut aut rfl rfl fun _ => ?_
  conv => whnf
  refine ⟨by decide, by decide, rfl, by decide, fun a ha => ?_⟩
  cases ha
  conv => whnf
  refine acall.pure _ (hu) rfl rfl fun _ => ?_
  conv => whnf
  refine ⟨by decide, by decide, rfl, by decide, fun a ha => ?_⟩
  cases ha
  conv => whnf
  refine acall.pure _ (hu) rfl rfl fun _ => ?_
  conv => whnf
  refine ⟨fun _ => ?_, fun h => absurd rfl h⟩
  conv => whnf
  exact ⟨[0, 1, 2, 81], rfl, rfl, trivial, (by repeat' (first | exact trivial | exact Or.inl rfl | exact rfl | exact Nat.le_refl _ | exact Or.inl (congrArg tu ew) | apply And.intro))⟩
set_option maxRecDepth 100000 in
set_option maxHeartbeats 2000000 in
theorem k_fieldsE6 {op d a b addr to_ word from_ : Int} (hop : 0 ≤ op ∧ op ≤ 255) (l : List UInt8) (hl : l.length ≤ 50000000) : K 33 [.ptr 0 0, .fn 34 [.ptr 1 0]] [insB ⟨6, op, d, a, b, addr, to_, word, from_⟩, outC 2 l, bytB l] (.ret (.tup [])) [some (insB ⟨6, op, d, a, b, addr, to_, word, from_⟩), some (outC 2 l), some (bytB l)] := by
  refine Ctr.new [] hT hmix Tryd.func33 rfl (fun _ _ => by kernel_rfl) rfl fun hok => ?_
  clear hok
  have hu := k_used ⟨6, op, d, a, b, addr, to_, word, from_⟩
  have hf := k_forms 6
  have e : usedM 6 op = 0 := rfl
  simp only [e] at hu
  clear e
  have e64 : IntKind.i64.wrap op = op := w64 (by omega) (by omega)
  have ew : IntKind.u8.wrap op = op := wu8 hop.1 hop.2
  conv => whnf
  refine acall.pure _ (hf) rfl rfl fun _ => ?_
  conv => whnf
  refine LoopL.un 5 ?_
  conv => whnf
  refine ⟨by decide, by decide, rfl, by decide, fun a ha => ?_⟩
  cases ha
  conv => whnf
  refine acall.pure _ (hu) rfl rfl fun _ => ?_
  conv => whnf
  refine ⟨by decide, by decide, rfl, by decide, fun a ha => ?_⟩
  cases ha
  conv => whnf
  refine acall.pure _ (hu) rfl rfl fun _ => ?_
  conv => whnf
  refine ⟨by decide, by decide, rfl, by decide, fun a ha => ?_⟩
  cases ha
  conv => whnf
  refine acall.pure _ (hu) rfl rfl fun _ => ?_
  conv => whnf
  refine ⟨by decide, by decide, rfl, by decide, fun a ha => ?_⟩
  cases ha
  conv => whnf
  refine acall.pure _ (hu) rfl rfl fun _ => ?_
  conv => whnf
  refine ⟨fun _ => ?_, fun h => absurd rfl h⟩
  conv => whnf
  exact ⟨[0, 1, 2], rfl, rfl, trivial, aut⟩
set_option maxRecDepth 100000 in
set_option maxHeartbeats 2000000 in
theorem k_fieldsE7 {op d a b addr to_ word from_ : Int} (hop : 0 ≤ op ∧ op ≤ 255) (l : List UInt8) (hl : l.length ≤ 50000000) : K 33 [.ptr 0 0, .fn 34 [.ptr 1 0]] [insB ⟨7, op, d, a, b, addr, to_, word, from_⟩, outC 2 l, bytB l] (.ret (.tup [])) [some (insB ⟨7, op, d, a, b, addr, to_, word, from_⟩), some (outC 3 (l ++ fieldsE ⟨7, op, d, a, b, addr, to_, word, from_⟩)), none, some (bytB (l ++ fieldsE ⟨7, op, d, a, b, addr, to_, word, from_⟩))] := by
  refine Ctr.new [] hT hmix Tryd.func33 rfl (fun _ _ => by kernel_rfl) rfl fun hok => ?_
  clear hok
  have hu := k_used ⟨7, op, d, a, b, addr, to_, word, from_⟩
  have hf := k_forms 7
  have e : usedM 7 op = 4 := rfl
  simp only [e] at hu
  clear e
  have eE : l ++ fieldsE ⟨7, op, d, a, b, addr, to_, word, from_⟩ = (l ++ nuB a) := by unfold fieldsE; simp [List.flatMap, kuse, byK, kuses, fieldE]
  rw [eE]
  clear eE
  have e64 : IntKind.i64.wrap op = op := w64 (by omega) (by omega)
  have ew : IntKind.u8.wrap op = op := wu8 hop.1 hop.2
  conv => whnf
  refine acall.pure _ (hf) rfl rfl fun _ => ?_
  conv => whnf
  refine LoopL.un 5 ?_
  conv => whnf
  refine ⟨by decide, by decide, rfl, by decide, fun a ha => ?_⟩
  cases ha
  conv => whnf
  refine acall.pure _ (hu) rfl rfl fun _ => ?_
  conv => whnf
  refine acall.new [0, 1, 2] [] _ _ _ _ (k_enc4 ⟨7, op, d, a, b, addr, to_, word, from_⟩ 4 l (by have := nuB_len op; have := nuB_len d; have := nuB_len a; have := nuB_len b; have := nuB_len addr; have := nuB_len to_; have := wrdB_len word; (try simp only [List.length_append]); omega)) rfl rfl rfl rfl aut aut rfl rfl fun _ => ?_
  conv => whnf
  refine ⟨by decide, by decide, rfl, by decide, fun a ha => ?_⟩
  cases ha
  conv => whnf
  refine acall.pure _ (hu) rfl rfl fun _ => ?_
  conv => whnf
  refine ⟨by decide, by decide, rfl, by decide, fun a ha => ?_⟩
  cases ha
  conv => whnf
  refine acall.pure _ (hu) rfl rfl fun _ => ?_
  conv => whnf
  refine ⟨by decide, by decide, rfl, by decide, fun a ha => ?_⟩
  cases ha
  conv => whnf
  refine acall.pure _ (hu) rfl rfl fun _ => ?_
  conv => whnf
  refine ⟨fun _ => ?_, fun h => absurd rfl h⟩
  conv => whnf
  exact ⟨[0, 1, 2, 50], rfl, rfl, trivial, (by repeat' (first | exact trivial | exact Or.inl rfl | exact rfl | exact Nat.le_refl _ | exact Or.inl (congrArg tu ew) | apply And.intro))⟩
set_option maxRecDepth 100000 in
set_option maxHeartbeats 2000000 in
theorem k_fieldsE8 {op d a b addr to_ word from_ : Int} (hop : 0 ≤ op ∧ op ≤ 255) (l : List UInt8) (hl : l.length ≤ 50000000) : K 33 [.ptr 0 0, .fn 34 [.ptr 1 0]] [insB ⟨8, op, d, a, b, addr, to_, word, from_⟩, outC 2 l, bytB l] (.ret (.tup [])) [some (insB ⟨8, op, d, a, b, addr, to_, word, from_⟩), some (outC 3 (l ++ fieldsE ⟨8, op, d, a, b, addr, to_, word, from_⟩)), none, some (bytB (l ++ fieldsE ⟨8, op, d, a, b, addr, to_, word, from_⟩))] := by
  refine Ctr.new [] hT hmix Tryd.func33 rfl (fun _ _ => by kernel_rfl) rfl fun hok => ?_
  clear hok
  have hu := k_used ⟨8, op, d, a, b, addr, to_, word, from_⟩
  have hf := k_forms 8
  have e : usedM 8 op = 32 := rfl
  simp only [e] at hu
  clear e
  have eE : l ++ fieldsE ⟨8, op, d, a, b, addr, to_, word, from_⟩ = (l ++ nuB to_) := by unfold fieldsE; simp [List.flatMap, kuse, byK, kuses, fieldE]
  rw [eE]
  clear eE
  have e64 : IntKind.i64.wrap op = op := w64 (by omega) (by omega)
  have ew : IntKind.u8.wrap op = op := wu8 hop.1 hop.2
  conv => whnf
  refine acall.pure _ (hf) rfl rfl fun _ => ?_
  conv => whnf
  refine LoopL.un 5 ?_
  conv => whnf
  refine ⟨by decide, by decide, rfl, by decide, fun a ha => ?_⟩
  cases ha
  conv => whnf
  refine acall.pure _ (hu) rfl rfl fun _ => ?_
  conv => whnf
  refine acall.new [0, 1, 2] [] _ _ _ _ (k_enc32 ⟨8, op, d, a, b, addr, to_, word, from_⟩ 32 l (by have := nuB_len op; have := nuB_len d; have := nuB_len a; have := nuB_len b; have := nuB_len addr; have := nuB_len to_; have := wrdB_len word; (try simp only [List.length_append]); omega)) rfl rfl rfl rfl aut aut rfl rfl fun _ => ?_
  conv => whnf
  refine ⟨by decide, by decide, rfl, by decide, fun a ha => ?_⟩
  cases ha
  conv => whnf
  refine acall.pure _ (hu) rfl rfl fun _ => ?_
  conv => whnf
  refine ⟨by decide, by decide, rfl, by decide, fun a ha => ?_⟩
  cases ha
  conv => whnf
  refine acall.pure _ (hu) rfl rfl fun _ => ?_
  conv => whnf
  refine ⟨by decide, by decide, rfl, by decide, fun a ha => ?_⟩
  cases ha
  conv => whnf
  refine acall.pure _ (hu) rfl rfl fun _ => ?_
  conv => whnf
  refine ⟨fun _ => ?_, fun h => absurd rfl h⟩
  conv => whnf
  exact ⟨[0, 1, 2, 56], rfl, rfl, trivial, (by repeat' (first | exact trivial | exact Or.inl rfl | exact rfl | exact Nat.le_refl _ | exact Or.inl (congrArg tu ew) | apply And.intro))⟩
set_option maxRecDepth 100000 in
set_option maxHeartbeats 2000000 in
theorem k_fieldsE9 {op d a b addr to_ word from_ : Int} (hop : 0 ≤ op ∧ op ≤ 255) (l : List UInt8) (hl : l.length ≤ 50000000) : K 33 [.ptr 0 0, .fn 34 [.ptr 1 0]] [insB ⟨9, op, d, a, b, addr, to_, word, from_⟩, outC 2 l, bytB l] (.ret (.tup [])) [some (insB ⟨9, op, d, a, b, addr, to_, word, from_⟩), some (outC 3 (l ++ fieldsE ⟨9, op, d, a, b, addr, to_, word, from_⟩)), none, some (bytB (l ++ fieldsE ⟨9, op, d, a, b, addr, to_, word, from_⟩))] := by
  refine Ctr.new [] hT hmix Tryd.func33 rfl (fun _ _ => by kernel_rfl) rfl fun hok => ?_
  clear hok
  have hu := k_used ⟨9, op, d, a, b, addr, to_, word, from_⟩
  have hf := k_forms 9
  have e : usedM 9 op = 36 := rfl
  simp only [e] at hu
  clear e
  have eE : l ++ fieldsE ⟨9, op, d, a, b, addr, to_, word, from_⟩ = ((l ++ nuB a) ++ nuB to_) := by unfold fieldsE; simp [List.flatMap, kuse, byK, kuses, fieldE]
  rw [eE]
  clear eE
  have e64 : IntKind.i64.wrap op = op := w64 (by omega) (by omega)
  have ew : IntKind.u8.wrap op = op := wu8 hop.1 hop.2
  conv => whnf
  refine acall.pure _ (hf) rfl rfl fun _ => ?_
  conv => whnf
  refine LoopL.un 5 ?_
  conv => whnf
  refine ⟨by decide, by decide, rfl, by decide, fun a ha => ?_⟩
  cases ha
  conv => whnf
  refine acall.pure _ (hu) rfl rfl fun _ => ?_
  conv => whnf
  refine acall.new [0, 1, 2] [] _ _ _ _ (k_enc4 ⟨9, op, d, a, b, addr, to_, word, from_⟩ 4 l (by have := nuB_len op; have := nuB_len d; have := nuB_len a; have := nuB_len b; have := nuB_len addr; have := nuB_len to_; have := wrdB_len word; (try simp only [List.length_append]); omega)) rfl rfl rfl rfl aut aut rfl rfl fun _ => ?_
  conv => whnf
  refine ⟨by decide, by decide, rfl, by decide, fun a ha => ?_⟩
  cases ha
  conv => whnf
  refine acall.pure _ (hu) rfl rfl fun _ => ?_
  conv => whnf
  refine acall.new [0, 1, 50] [] _ _ _ _ (k_enc32 ⟨9, op, d, a, b, addr, to_, word, from_⟩ 32 (l ++ nuB a) (by have := nuB_len op; have := nuB_len d; have := nuB_len a; have := nuB_len b; have := nuB_len addr; have := nuB_len to_; have := wrdB_len word; (try simp only [List.length_append]); omega)) rfl rfl rfl rfl aut aut rfl rfl fun _ => ?_
  conv => whnf
  refine ⟨by decide, by decide, rfl, by decide, fun a ha => ?_⟩
  cases ha
  conv => whnf
  refine acall.pure _ (hu) rfl rfl fun _ => ?_
  conv => whnf
  refine ⟨by decide, by decide, rfl, by decide, fun a ha => ?_⟩
  cases ha
  conv => whnf
  refine acall.pure _ (hu) rfl rfl fun _ => ?_
  conv => whnf
  refine ⟨fun _ => ?_, fun h => absurd rfl h⟩
  conv => whnf
  exact ⟨[0, 1, 2, 85], rfl, rfl, trivial, (by repeat' (first | exact trivial | exact Or.inl rfl | exact rfl | exact Nat.le_refl _ | exact Or.inl (congrArg tu ew) | apply And.intro))⟩
set_option maxRecDepth 100000 in
set_option maxHeartbeats 2000000 in
theorem k_fieldsE10 {op d a b addr to_ word from_ : Int} (hop : 0 ≤ op ∧ op ≤ 255) (l : List UInt8) (hl : l.length ≤ 50000000) : K 33 [.ptr 0 0, .fn 34 [.ptr 1 0]] [insB ⟨10, op, d, a, b, addr, to_, word, from_⟩, outC 2 l, bytB l] (.ret (.tup [])) [some (insB ⟨10, op, d, a, b, addr, to_, word, from_⟩), some (outC 2 l), some (bytB l)] := by
  refine Ctr.new [] hT hmix Tryd.func33 rfl (fun _ _ => by kernel_rfl) rfl fun hok => ?_
  clear hok
  have hu := k_used ⟨10, op, d, a, b, addr, to_, word, from_⟩
  have hf := k_forms 10
  have e : usedM 10 op = 0 := rfl
  simp only [e] at hu
  clear e
  have e64 : IntKind.i64.wrap op = op := w64 (by omega) (by omega)
  have ew : IntKind.u8.wrap op = op := wu8 hop.1 hop.2
  conv => whnf
  refine acall.pure _ (hf) rfl rfl fun _ => ?_
  conv => whnf
  refine LoopL.un 5 ?_
  conv => whnf
  refine ⟨by decide, by decide, rfl, by decide, fun a ha => ?_⟩
  cases ha
  conv => whnf
  refine acall.pure _ (hu) rfl rfl fun _ => ?_
  conv => whnf
  refine ⟨by decide, by decide, rfl, by decide, fun a ha => ?_⟩
  cases ha
  conv => whnf
  refine acall.pure _ (hu) rfl rfl fun _ => ?_
  conv => whnf
  refine ⟨by decide, by decide, rfl, by decide, fun a ha => ?_⟩
  cases ha
  conv => whnf
  refine acall.pure _ (hu) rfl rfl fun _ => ?_
  conv => whnf
  refine ⟨by decide, by decide, rfl, by decide, fun a ha => ?_⟩
  cases ha
  conv => whnf
  refine acall.pure _ (hu) rfl rfl fun _ => ?_
  conv => whnf
  refine ⟨fun _ => ?_, fun h => absurd rfl h⟩
  conv => whnf
  exact ⟨[0, 1, 2], rfl, rfl, trivial, aut⟩
set_option maxRecDepth 100000 in
set_option maxHeartbeats 2000000 in
theorem k_fieldsE2t {op d a b addr to_ word from_ : Int} (h2 : two op = true) (hop : 0 ≤ op ∧ op ≤ 255) (l : List UInt8) (hl : l.length ≤ 50000000) : K 33 [.ptr 0 0, .fn 34 [.ptr 1 0]] [insB ⟨2, op, d, a, b, addr, to_, word, from_⟩, outC 2 l, bytB l] (.ret (.tup [])) [some (insB ⟨2, op, d, a, b, addr, to_, word, from_⟩), some (outC 3 (l ++ fieldsE ⟨2, op, d, a, b, addr, to_, word, from_⟩)), none, some (bytB (l ++ fieldsE ⟨2, op, d, a, b, addr, to_, word, from_⟩))] := by
  refine Ctr.new [] hT hmix Tryd.func33 rfl (fun _ _ => by kernel_rfl) rfl fun hok => ?_
  clear hok
  have hu := k_used ⟨2, op, d, a, b, addr, to_, word, from_⟩
  have hf := k_forms 2
  have e : usedM 2 op = 15 := by unfold usedM; rw [h2]; rfl
  simp only [e] at hu
  clear e
  have eE : l ++ fieldsE ⟨2, op, d, a, b, addr, to_, word, from_⟩ = ((((l ++ nuB op) ++ nuB d) ++ nuB a) ++ nuB b) := by unfold fieldsE; simp only [h2]; simp [List.flatMap, kuse, byK, kuses, fieldE]
  rw [eE]
  clear eE
  have e64 : IntKind.i64.wrap op = op := w64 (by omega) (by omega)
  have ew : IntKind.u8.wrap op = op := wu8 hop.1 hop.2
  conv => whnf
  refine acall.pure _ (hf) rfl rfl fun _ => ?_
  conv => whnf
  refine LoopL.un 5 ?_
  conv => whnf
  refine ⟨by decide, by decide, rfl, by decide, fun a ha => ?_⟩
  cases ha
  conv => whnf
  refine acall.pure _ (hu) rfl rfl fun _ => ?_
  conv => whnf
  refine acall.new [8, 1, 2] [] _ _ _ _ (k_encOp op 1 l (by have := nuB_len op; have := nuB_len d; have := nuB_len a; have := nuB_len b; have := nuB_len addr; have := nuB_len to_; have := wrdB_len word; (try simp only [List.length_append]); omega)) rfl rfl rfl rfl aut (by repeat' (first | exact trivial | exact Or.inl rfl | exact rfl | exact Nat.le_refl _ | exact Or.inl (congrArg ti e64) | apply And.intro)) rfl rfl fun _ => ?_
  conv => whnf
  refine ⟨by decide, by decide, rfl, by decide, fun a ha => ?_⟩
  cases ha
  conv => whnf
  refine acall.gen [] [] _ _ _ _ hu rfl rfl rfl rfl (by repeat' (first | exact trivial | exact Or.inl rfl | exact rfl | exact Nat.le_refl _ | exact Or.inl (congrArg tu ew) | apply And.intro)) trivial rfl rfl fun _ => ?_
  refine acall.new [0, 1, 43] [] _ _ _ _ (k_enc2 ⟨2, op, d, a, b, addr, to_, word, from_⟩ 2 (l ++ nuB op) (by have := nuB_len op; have := nuB_len d; have := nuB_len a; have := nuB_len b; have := nuB_len addr; have := nuB_len to_; have := wrdB_len word; (try simp only [List.length_append]); omega)) rfl rfl rfl rfl aut (by repeat' (first | exact trivial | exact Or.inl rfl | exact rfl | exact Nat.le_refl _ | exact Or.inl (congrArg tu ew) | apply And.intro)) rfl rfl fun _ => ?_
  conv => whnf
  refine ⟨by decide, by decide, rfl, by decide, fun a ha => ?_⟩
  cases ha
  conv => whnf
  refine acall.gen [] [] _ _ _ _ hu rfl rfl rfl rfl (by repeat' (first | exact trivial | exact Or.inl rfl | exact rfl | exact Nat.le_refl _ | exact Or.inl (congrArg tu ew) | apply And.intro)) trivial rfl rfl fun _ => ?_
  refine acall.new [0, 1, 76] [] _ _ _ _ (k_enc4 ⟨2, op, d, a, b, addr, to_, word, from_⟩ 4 ((l ++ nuB op) ++ nuB d) (by have := nuB_len op; have := nuB_len d; have := nuB_len a; have := nuB_len b; have := nuB_len addr; have := nuB_len to_; have := wrdB_len word; (try simp only [List.length_append]); omega)) rfl rfl rfl rfl aut (by repeat' (first | exact trivial | exact Or.inl rfl | exact rfl | exact Nat.le_refl _ | exact Or.inl (congrArg tu ew) | apply And.intro)) rfl rfl fun _ => ?_
  conv => whnf
  refine ⟨by decide, by decide, rfl, by decide, fun a ha => ?_⟩
  cases ha
  conv => whnf
  refine acall.gen [] [] _ _ _ _ hu rfl rfl rfl rfl (by repeat' (first | exact trivial | exact Or.inl rfl | exact rfl | exact Nat.le_refl _ | exact Or.inl (congrArg tu ew) | apply And.intro)) trivial rfl rfl fun _ => ?_
  refine acall.new [0, 1, 105] [] _ _ _ _ (k_enc8 ⟨2, op, d, a, b, addr, to_, word, from_⟩ 8 (((l ++ nuB op) ++ nuB d) ++ nuB a) (by have := nuB_len op; have := nuB_len d; have := nuB_len a; have := nuB_len b; have := nuB_len addr; have := nuB_len to_; have := wrdB_len word; (try simp only [List.length_append]); omega)) rfl rfl rfl rfl aut (by repeat' (first | exact trivial | exact Or.inl rfl | exact rfl | exact Nat.le_refl _ | exact Or.inl (congrArg tu ew) | apply And.intro)) rfl rfl fun _ => ?_
  conv => whnf
  refine ⟨fun _ => ?_, fun h => absurd rfl h⟩
  conv => whnf
  exact ⟨[0, 1, 2, 136], rfl, rfl, trivial, (by repeat' (first | exact trivial | exact Or.inl rfl | exact rfl | exact Nat.le_refl _ | exact Or.inl (congrArg tu ew) | apply And.intro))⟩
set_option maxRecDepth 100000 in
set_option maxHeartbeats 2000000 in
theorem k_fieldsE2f {op d a b addr to_ word from_ : Int} (h2 : two op = false) (hop : 0 ≤ op ∧ op ≤ 255) (l : List UInt8) (hl : l.length ≤ 50000000) : K 33 [.ptr 0 0, .fn 34 [.ptr 1 0]] [insB ⟨2, op, d, a, b, addr, to_, word, from_⟩, outC 2 l, bytB l] (.ret (.tup [])) [some (insB ⟨2, op, d, a, b, addr, to_, word, from_⟩), some (outC 3 (l ++ fieldsE ⟨2, op, d, a, b, addr, to_, word, from_⟩)), none, some (bytB (l ++ fieldsE ⟨2, op, d, a, b, addr, to_, word, from_⟩))] := by
  refine Ctr.new [] hT hmix Tryd.func33 rfl (fun _ _ => by kernel_rfl) rfl fun hok => ?_
  clear hok
  have hu := k_used ⟨2, op, d, a, b, addr, to_, word, from_⟩
  have hf := k_forms 2
  have e : usedM 2 op = 7 := by unfold usedM; rw [h2]; rfl
  simp only [e] at hu
  clear e
  have eE : l ++ fieldsE ⟨2, op, d, a, b, addr, to_, word, from_⟩ = (((l ++ nuB op) ++ nuB d) ++ nuB a) := by unfold fieldsE; simp only [h2]; simp [List.flatMap, kuse, byK, kuses, fieldE]
  rw [eE]
  clear eE
  have e64 : IntKind.i64.wrap op = op := w64 (by omega) (by omega)
  have ew : IntKind.u8.wrap op = op := wu8 hop.1 hop.2
  conv => whnf
  refine acall.pure _ (hf) rfl rfl fun _ => ?_
  conv => whnf
  refine LoopL.un 5 ?_
  conv => whnf
  refine ⟨by decide, by decide, rfl, by decide, fun a ha => ?_⟩
  cases ha
  conv => whnf
  refine acall.pure _ (hu) rfl rfl fun _ => ?_
  conv => whnf
  refine acall.new [8, 1, 2] [] _ _ _ _ (k_encOp op 1 l (by have := nuB_len op; have := nuB_len d; have := nuB_len a; have := nuB_len b; have := nuB_len addr; have := nuB_len to_; have := wrdB_len word; (try simp only [List.length_append]); omega)) rfl rfl rfl rfl aut (by repeat' (first | exact trivial | exact Or.inl rfl | exact rfl | exact Nat.le_refl _ | exact Or.inl (congrArg ti e64) | apply And.intro)) rfl rfl fun _ => ?_
  conv => whnf
  refine ⟨by decide, by decide, rfl, by decide, fun a ha => ?_⟩
  cases ha
  conv => whnf
  refine acall.gen [] [] _ _ _ _ hu rfl rfl rfl rfl (by repeat' (first | exact trivial | exact Or.inl rfl | exact rfl | exact Nat.le_refl _ | exact Or.inl (congrArg tu ew) | apply And.intro)) trivial rfl rfl fun _ => ?_
  refine acall.new [0, 1, 43] [] _ _ _ _ (k_enc2 ⟨2, op, d, a, b, addr, to_, word, from_⟩ 2 (l ++ nuB op) (by have := nuB_len op; have := nuB_len d; have := nuB_len a; have := nuB_len b; have := nuB_len addr; have := nuB_len to_; have := wrdB_len word; (try simp only [List.length_append]); omega)) rfl rfl rfl rfl aut (by repeat' (first | exact trivial | exact Or.inl rfl | exact rfl | exact Nat.le_refl _ | exact Or.inl (congrArg tu ew) | apply And.intro)) rfl rfl fun _ => ?_
  conv => whnf
  refine ⟨by decide, by decide, rfl, by decide, fun a ha => ?_⟩
  cases ha
  conv => whnf
  refine acall.gen [] [] _ _ _ _ hu rfl rfl rfl rfl (by repeat' (first | exact trivial | exact Or.inl rfl | exact rfl | exact Nat.le_refl _ | exact Or.inl (congrArg tu ew) | apply And.intro)) trivial rfl rfl fun _ => ?_
  refine acall.new [0, 1, 76] [] _ _ _ _ (k_enc4 ⟨2, op, d, a, b, addr, to_, word, from_⟩ 4 ((l ++ nuB op) ++ nuB d) (by have := nuB_len op; have := nuB_len d; have := nuB_len a; have := nuB_len b; have := nuB_len addr; have := nuB_len to_; have := wrdB_len word; (try simp only [List.length_append]); omega)) rfl rfl rfl rfl aut (by repeat' (first | exact trivial | exact Or.inl rfl | exact rfl | exact Nat.le_refl _ | exact Or.inl (congrArg tu ew) | apply And.intro)) rfl rfl fun _ => ?_
  conv => whnf
  refine ⟨by decide, by decide, rfl, by decide, fun a ha => ?_⟩
  cases ha
  conv => whnf
  refine acall.gen [] [] _ _ _ _ hu rfl rfl rfl rfl (by repeat' (first | exact trivial | exact Or.inl rfl | exact rfl | exact Nat.le_refl _ | exact Or.inl (congrArg tu ew) | apply And.intro)) trivial rfl rfl fun _ => ?_
  refine ⟨fun _ => ?_, fun h => absurd rfl h⟩
  conv => whnf
  exact ⟨[0, 1, 2, 105], rfl, rfl, trivial, (by repeat' (first | exact trivial | exact Or.inl rfl | exact rfl | exact Nat.le_refl _ | exact Or.inl (congrArg tu ew) | apply And.intro))⟩
end Go.Proofs.YtffhoknkfohfgaaDoor.am

namespace Go.Proofs.YtffhoknkfohfgaaDoor.am
open Go Go.Proofs

theorem k_same (c d : Cor) : K 55 [d.av, .ptr 0 0] [.cells 33 (c.cells.map .tr)] (.ret (.tr (tb (seq d.name c.name)))) [some (.cells 33 (c.cells.map .tr))] := by
  refine Ctr.of hT hmix Tryd.func55 rfl (fun _ _ => by kernel_rfl) rfl fun hok => ?_
  clear hok
  conv => whnf
  exact ⟨.inl rfl, ⟨rfl, .inl rfl, .inl rfl, trivial⟩, trivial⟩
def idxN (n : ByteArray) : List Cor → Nat → Int
  | [], _ => -1
  | d :: l, k => bif seq d.name n then k else idxN n l (k + 1)
theorem idxN_at {l : List Cor} {n : ByteArray} {i : Nat} {d : Cor} (h : l[i]? = some d) : idxN n (l.drop i) i = bif seq d.name n then (i : Int) else idxN n (l.drop (i + 1)) (i + 1) := by
  rw [drop_cons h]; rfl
theorem k_indexFunc (l : List Cor) (c : Cor) : K 81 [.tr (coresT l), .fn 55 [.ptr 0 0]] [.cells 33 (c.cells.map .tr)]
    (.ret (.tr (ti (idxN c.name l 0)))) [some (.cells 33 (c.cells.map .tr))] := by
  refine Ctr.of hT hmix Tryd.func81 rfl (fun _ _ => by kernel_rfl) rfl fun hok => ?_
  obtain ⟨_, hl, _⟩ := (hok.slot 0 rfl).tr.lst
  rw [List.length_map] at hl
  clear hok
  obtain ⟨cn, cc⟩ := c
  conv => whnf
  refine LoopL.by (fun i : Nat => ⟨[(0, .tr (coresT l)), (1, .fn 55 [.ptr 0 0]), (7, .tr (ti l.length)), (8, .tr (ti i))], [(0, .cells 33 [.tr (ts cn), .tr (codeT cc)])], 40⟩)
    (fun i => i ≤ l.length ∧ idxN cn l 0 = idxN cn (l.drop i) i) (fun i => l.length - i) 0 [0] [] (Sub.mk' rfl ⟨.inl rfl, ⟨rfl, ⟨rfl, rfl⟩, trivial⟩, .inl (by simp), .inl rfl, trivial⟩ ⟨⟨rfl, .inl rfl, .inl rfl, trivial⟩, trivial⟩ rfl rfl) ⟨Nat.zero_le _, rfl⟩ ?_
  rintro i ⟨hi, hf⟩ -
  conv => whnf
  refine csplit (fun hlt => ?_) (fun hge => ?_)
  · have hlt : i < l.length := by simpa using hlt
    conv => whnf
    refine ⟨rfl, by omega, by simpa using hlt, fun row hrow => ?_⟩
    obtain ⟨d, hd, rfl⟩ := map_get hrow
    replace hd : l[i]? = some d := hd
    rw [idxN_at hd] at hf
    obtain ⟨dn, dc⟩ := d
    conv => whnf
    refine acall.au [0] [] (k_same ⟨cn, cc⟩ ⟨dn, dc⟩) ?_
    intro _
    conv => whnf
    refine csplit (fun h => ?_) (fun h => ?_)
    · rw [h] at hf
      conv => whnf
      exact ⟨.inl (congrArg ti hf.symm), ⟨rfl, .inl rfl, .inl rfl, trivial⟩, trivial⟩
    · rw [h] at hf
      conv => whnf
      exact ⟨i + 1, [0], [], Sub.mk' rfl ⟨.inl rfl, ⟨rfl, ⟨rfl, rfl⟩, trivial⟩, .inl rfl, .inl (ti_succ hlt hl), trivial⟩ ⟨⟨rfl, .inl rfl, .inl rfl, trivial⟩, trivial⟩ rfl rfl, ⟨by omega, hf⟩, by omega⟩
  · have hge : l.length ≤ i := by simpa using hge
    rw [List.drop_eq_nil_of_le hge] at hf
    conv => whnf
    refine ⟨fun _ => ?_, fun h => absurd rfl h⟩
    conv => whnf
    exact ⟨.inl (congrArg ti hf.symm), ⟨rfl, .inl rfl, .inl rfl, trivial⟩, trivial⟩
def hasN (n : ByteArray) (l : List Cor) : Bool := decide (idxN n l 0 ≥ 0)
theorem k_containsFunc (l : List Cor) (c : Cor) : K 57 [.tr (coresT l), .fn 55 [.ptr 0 0]] [.cells 33 (c.cells.map .tr)]
    (.ret (.tr (tb (hasN c.name l)))) [some (.cells 33 (c.cells.map .tr))] := by
  refine Ctr.of hT hmix Tryd.func57 rfl (fun _ _ => by kernel_rfl) rfl fun hok => ?_
  clear hok
  obtain ⟨cn, cc⟩ := c
  conv => whnf
  refine acall.au [0] [] (k_indexFunc l ⟨cn, cc⟩) ?_
  intro _
  conv => whnf
  exact ⟨.inl rfl, ⟨rfl, .inl rfl, .inl rfl, trivial⟩, trivial⟩

/-! the shape -/
def coreBad (pre : List Cor) (c : Cor) : Bool :=
  !nameB c.name || hasN c.name pre || decide ((c.code.length : Int) < 1) || decide ((c.code.length : Int) > 16384)
def lastBad (c : Cor) : Bool := match c.code[c.code.length - 1]? with
  | some i => i.kind != 10 && i.kind != 8
  | none => true
def coresOk : List Cor → List Cor → Bool
  | _, [] => true
  | pre, c :: l => bif coreBad pre c || lastBad c then false else coresOk (pre ++ [c]) l
theorem coresOk_at {l : List Cor} {i : Nat} {c : Cor} (h : l[i]? = some c) : coresOk (l.take i) (l.drop i) = bif coreBad (l.take i) c || lastBad c then false else coresOk (l.take (i + 1)) (l.drop (i + 1)) := by
  rw [drop_cons h, take_snoc h]; rfl
def headBad (o : Ob) : Bool :=
  decide (o.shared < 0) || decide (o.shared > 64) || decide (o.locks < 0) || decide (o.locks > 16) || decide ((o.memory.length : Int) < IntKind.i64.wrap (o.shared + o.locks)) || decide ((o.memory.length : Int) > 4096) ||
  decide (o.buffer < 1) || decide (o.buffer > 16) || decide ((o.cores.length : Int) > 8)
def shapedB (o : Ob) : Bool := bif headBad o then false else coresOk [] o.cores
set_option maxRecDepth 100000 in
theorem k_shaped (o : Ob) : K 38 [o.av] [] (.ret (.tr (tb (shapedB o)))) [] := by
  refine Ctr.of hT hmix Tryd.func38 rfl (fun _ _ => by kernel_rfl) rfl fun hok => ?_
  obtain ⟨memory, shared, locks, buffer, cores⟩ := o
  obtain ⟨_, hl, hcs⟩ := ((hok.slot 0 rfl).agg _ (.tail _ (.tail _ (.tail _ (.tail _ (.head _)))))).tr.lst
  obtain ⟨_, hml, _⟩ := ((hok.slot 0 rfl).agg _ (.head _)).tr.lst
  rw [List.length_map] at hl hml
  clear hok
  have hS : shapedB ⟨memory, shared, locks, buffer, cores⟩ = bif headBad ⟨memory, shared, locks, buffer, cores⟩ then false else coresOk [] cores := rfl
  generalize hB : shapedB ⟨memory, shared, locks, buffer, cores⟩ = B at hS ⊢
  clear hB
  have hH : headBad ⟨memory, shared, locks, buffer, cores⟩ = (decide (shared < 0) || decide (shared > 64) || decide (locks < 0) || decide (locks > 16) || decide ((memory.length : Int) < IntKind.i64.wrap (shared + locks)) || decide ((memory.length : Int) > 4096) ||
    decide (buffer < 1) || decide (buffer > 16) || decide ((cores.length : Int) > 8)) := rfl
  rw [hH] at hS
  clear hH
  have em : (memory.length : Int) = ((memory.map irow).length : Int) := by rw [List.length_map]
  have ec : (cores.length : Int) = ((cores.map Cor.cells).length : Int) := by rw [List.length_map]
  rw [em, ec] at hS
  conv => whnf
  refine csplit (fun h1 => ?_) (fun h1 => ?_)
  · conv => whnf
    exact ⟨.inl (congrArg tb (by rw [hS]; simp only [*, Bool.or_true, Bool.true_or, cond_true])), trivial⟩
  conv => whnf
  refine csplit (fun h2 => ?_) (fun h2 => ?_)
  · conv => whnf
    exact ⟨.inl (congrArg tb (by rw [hS]; simp only [*, Bool.or_true, Bool.true_or, cond_true])), trivial⟩
  conv => whnf
  refine csplit (fun h3 => ?_) (fun h3 => ?_)
  · conv => whnf
    exact ⟨.inl (congrArg tb (by rw [hS]; simp only [*, Bool.or_true, Bool.true_or, cond_true])), trivial⟩
  conv => whnf
  refine csplit (fun h4 => ?_) (fun h4 => ?_)
  · conv => whnf
    exact ⟨.inl (congrArg tb (by rw [hS]; simp only [*, Bool.or_true, Bool.true_or, cond_true])), trivial⟩
  conv => whnf
  refine csplit (fun h5 => ?_) (fun h5 => ?_)
  · conv => whnf
    exact ⟨.inl (congrArg tb (by rw [hS]; simp only [*, Bool.or_true, Bool.true_or, cond_true])), trivial⟩
  conv => whnf
  refine csplit (fun h6 => ?_) (fun h6 => ?_)
  · conv => whnf
    exact ⟨.inl (congrArg tb (by rw [hS]; simp only [*, Bool.or_true, Bool.true_or, cond_true])), trivial⟩
  conv => whnf
  refine csplit (fun h7 => ?_) (fun h7 => ?_)
  · conv => whnf
    exact ⟨.inl (congrArg tb (by rw [hS]; simp only [*, Bool.or_true, Bool.true_or, cond_true])), trivial⟩
  conv => whnf
  refine csplit (fun h8 => ?_) (fun h8 => ?_)
  · conv => whnf
    exact ⟨.inl (congrArg tb (by rw [hS]; simp only [*, Bool.or_true, Bool.true_or, cond_true])), trivial⟩
  conv => whnf
  refine csplit (fun h9 => ?_) (fun h9 => ?_)
  · conv => whnf
    exact ⟨.inl (congrArg tb (by rw [hS]; simp only [*, Bool.or_true, Bool.true_or, cond_true])), trivial⟩
  conv => whnf
  replace hS : B = coresOk [] cores := by rw [hS]; simp only [*, Bool.or_false, cond_false]
  rw [hS]
  clear h1 h2 h3 h4 h5 h6 h7 h8 hS em ec
  refine LoopL.by (fun i : Nat => ⟨[(1, .ptr 0 0), (60, .tr (coresT cores)), (61, .tr (ti cores.length)), (62, .tr (ti i))], [(0, .cells 25 [.tr (intsT memory), .tr (ti shared), .tr (ti locks), .tr (ti buffer), .tr (coresT cores)])], 200⟩)
    (fun i => i ≤ cores.length ∧ coresOk [] cores = coresOk (cores.take i) (cores.drop i)) (fun i => cores.length - i) 0 [0] [] (Sub.mk' rfl ⟨⟨rfl, rfl⟩, .inl rfl, .inl (by simp), .inl rfl, trivial⟩ ⟨⟨rfl, .inl rfl, .inl rfl, .inl rfl, .inl rfl, .inl rfl, trivial⟩, trivial⟩ rfl rfl) ⟨Nat.zero_le _, rfl⟩ ?_
  rintro i ⟨hi, hf⟩ -
  conv => whnf
  refine csplit (fun hlt => ?_) (fun hge => ?_)
  · have hlt : i < cores.length := by simpa using hlt
    replace hl : cores.length ≤ 9223372036854775807 := hl
    clear hml
    conv => whnf
    refine ⟨rfl, by omega, by simpa using hlt, fun row hrow => ?_⟩
    obtain ⟨c, hd, rfl⟩ := map_get hrow
    replace hd : cores[i]? = some c := hd
    rw [coresOk_at hd] at hf
    obtain ⟨_, hcl, hci⟩ := ((hcs _ (List.mem_of_getElem? hrow)).2 (codeT c.code) (.tail _ (.head _))).lst
    rw [List.length_map] at hcl
    obtain ⟨cn, cc⟩ := c
    have hB : coreBad (cores.take i) ⟨cn, cc⟩ = (!nameB cn || hasN cn (cores.take i) || decide ((cc.length : Int) < 1) || decide ((cc.length : Int) > 16384)) := rfl
    rw [show (cc.length : Int) = ((cc.map Ins.cells).length : Int) by rw [List.length_map]] at hB
    replace hcl : cc.length ≤ 9223372036854775807 := hcl
    have bad : ∀ {x : Bool}, coreBad (cores.take i) ⟨cn, cc⟩ = true → x = false → x = coresOk [] cores := fun h1 h2 => by rw [hf, h1, h2]; rfl
    conv => whnf
    refine acall.pure _ (k_name cn) rfl rfl fun _ => ?_
    conv => whnf
    refine csplit (fun h1 => ?_) (fun h1 => ?_)
    · conv => whnf
      exact ⟨.inl (congrArg tb (bad (by simp only [hB, h1, Bool.true_or]) rfl)), trivial⟩
    conv => whnf
    refine ⟨rfl, by simp, by simp, by simp; omega, ?_⟩
    conv => whnf
    refine acall.gen [204] [] _ _ _ _ (k_containsFunc (cores.take i) ⟨cn, cc⟩) rfl rfl rfl rfl ⟨.inl (by simp [List.map_take]), ⟨rfl, ⟨rfl, rfl⟩, trivial⟩, trivial⟩ aut rfl rfl fun _ => ?_
    conv => whnf
    refine csplit (fun h2 => ?_) (fun h2 => ?_)
    · conv => whnf
      exact ⟨.inl (congrArg tb (bad (by simp only [hB, h2, Bool.or_true, Bool.true_or]) rfl)), trivial⟩
    conv => whnf
    refine csplit (fun h3 => ?_) (fun h3 => ?_)
    · conv => whnf
      exact ⟨.inl (congrArg tb (bad (by simp only [hB, h3, Bool.or_true, Bool.true_or]) rfl)), trivial⟩
    conv => whnf
    refine csplit (fun h4 => ?_) (fun h4 => ?_)
    · conv => whnf
      exact ⟨.inl (congrArg tb (bad (by simp only [hB, h4, Bool.or_true]) rfl)), trivial⟩
    have hB : coreBad (cores.take i) ⟨cn, cc⟩ = false := by simp only [hB, h1, h2, h3, h4, Bool.or_false]
    rw [hB, Bool.false_or] at hf
    have h3' : ¬ ((cc.length : Int) < 1) := by have := of_decide_eq_false h3; rwa [List.length_map] at this
    obtain ⟨n, hn⟩ : ∃ n, n = cc.length := ⟨_, rfl⟩
    rw [← hn] at h3'
    have hcl' : n ≤ 9223372036854775807 := by rw [hn]; exact hcl
    have ew : IntKind.i64.wrap (((cc.map Ins.cells).length : Int) - 1) = ((cc.length - 1 : Nat) : Int) := by rw [List.length_map, ← hn, w64 (by omega) (by omega)]; omega
    conv => whnf
    rw [ew]
    refine ⟨rfl, by omega, by rw [List.length_map]; show ((cc.length - 1 : Nat) : Int) < (cc.length : Int); rw [← hn]; omega, fun row hrow => ?_⟩
    obtain ⟨x, hx, rfl⟩ := map_get hrow
    replace hx : cc[cc.length - 1]? = some x := hx
    have hL : lastBad ⟨cn, cc⟩ = (x.kind != 10 && x.kind != 8) := by unfold lastBad; simp only [hx]
    rw [hL] at hf
    conv => whnf
    refine csplit (fun h5 => ?_) (fun h5 => ?_)
    · conv => whnf
      refine csplit (fun h6 => ?_) (fun h6 => ?_)
      · rw [h5, h6] at hf
        conv => whnf
        exact ⟨.inl (congrArg tb hf.symm), trivial⟩
      · rw [h5, h6] at hf
        conv => whnf
        exact ⟨i + 1, [0], [], Sub.mk' rfl ⟨⟨rfl, rfl⟩, .inl rfl, .inl rfl, .inl (ti_succ hlt hl), trivial⟩ ⟨⟨rfl, .inl rfl, .inl rfl, .inl rfl, .inl rfl, .inl rfl, trivial⟩, trivial⟩ rfl rfl, ⟨by omega, hf⟩, by omega⟩
    · rw [h5] at hf
      conv => whnf
      exact ⟨i + 1, [0], [], Sub.mk' rfl ⟨⟨rfl, rfl⟩, .inl rfl, .inl rfl, .inl (ti_succ hlt hl), trivial⟩ ⟨⟨rfl, .inl rfl, .inl rfl, .inl rfl, .inl rfl, .inl rfl, trivial⟩, trivial⟩ rfl rfl, ⟨by omega, hf⟩, by omega⟩
  · have hge : cores.length ≤ i := by simpa using hge
    rw [List.drop_eq_nil_of_le hge] at hf
    conv => whnf
    refine ⟨fun _ => ?_, fun h => absurd rfl h⟩
    conv => whnf
    exact ⟨.inl (congrArg tb hf.symm), trivial⟩
end Go.Proofs.YtffhoknkfohfgaaDoor.am

namespace Go.Proofs.YtffhoknkfohfgaaDoor.am
open Go Go.Proofs

def badAt (code mem : Int) : List Ins → Nat → Int
  | [], _ => -1
  | i :: l, n => bif !rightB i code mem then n else badAt code mem l (n + 1)
def coresCk (mem : Int) : List Cor → Nat → Int × Int × Int
  | [], _ => (0, 0, 0)
  | c :: l, k => bif decide (badAt c.code.length mem c.code 0 ≥ 0) then (160, (k : Int), badAt c.code.length mem c.code 0) else coresCk mem l (k + 1)
def checkO (o : Ob) : Int × Int × Int := bif !shapedB o then (160, 0, 0) else coresCk o.memory.length o.cores 0
theorem badAt_at {code mem : Int} {l : List Ins} {i : Nat} {x : Ins} (h : l[i]? = some x) : badAt code mem (l.drop i) i = bif !rightB x code mem then (i : Int) else badAt code mem (l.drop (i + 1)) (i + 1) := by
  rw [drop_cons h]; rfl
theorem coresCk_at {mem : Int} {l : List Cor} {k : Nat} {c : Cor} (h : l[k]? = some c) : coresCk mem (l.drop k) k = bif decide (badAt c.code.length mem c.code 0 ≥ 0) then (160, (k : Int), badAt c.code.length mem c.code 0) else coresCk mem (l.drop (k + 1)) (k + 1) := by
  rw [drop_cons h]; rfl
def tri (x : Int × Int × Int) : AV := .tup [.tr (ti x.1), .tr (ti x.2.1), .tr (ti x.2.2)]
set_option maxRecDepth 100000 in
theorem k_check (o : Ob) : K 23 [o.av] [] (.ret (tri (checkO o))) [] := by
  refine Ctr.of hT hmix Tryd.func23 rfl (fun _ _ => by kernel_rfl) rfl fun hok => ?_
  obtain ⟨memory, shared, locks, buffer, cores⟩ := o
  obtain ⟨_, hl0, hcs⟩ := ((hok.slot 0 rfl).agg _ (.tail _ (.tail _ (.tail _ (.tail _ (.head _)))))).tr.lst
  rw [List.length_map] at hl0
  have hl : cores.length ≤ 9223372036854775807 := hl0
  clear hok hl0
  have hS : checkO ⟨memory, shared, locks, buffer, cores⟩ = bif !shapedB ⟨memory, shared, locks, buffer, cores⟩ then (160, 0, 0) else coresCk memory.length cores 0 := rfl
  generalize hR : checkO ⟨memory, shared, locks, buffer, cores⟩ = R at hS ⊢
  clear hR
  conv => whnf
  refine acall.pure _ (k_shaped ⟨memory, shared, locks, buffer, cores⟩) rfl rfl fun _ => ?_
  conv => whnf
  refine csplit (fun h1 => ?_) (fun h1 => ?_)
  · rw [h1] at hS
    rw [hS]
    conv => whnf
    exact ⟨⟨.inl rfl, .inl rfl, .inl rfl, trivial⟩, trivial⟩
  rw [h1] at hS
  replace hS : R = coresCk memory.length cores 0 := hS
  rw [hS]
  clear hS h1
  conv => whnf
  refine LoopL.by (fun i : Nat => ⟨[(1, .ptr 0 0), (13, .tr (coresT cores)), (14, .tr (ti cores.length)), (15, .tr (ti i))], [(0, .cells 25 [.tr (intsT memory), .tr (ti shared), .tr (ti locks), .tr (ti buffer), .tr (coresT cores)])], 60⟩)
    (fun i => i ≤ cores.length ∧ coresCk memory.length cores 0 = coresCk memory.length (cores.drop i) i) (fun i => cores.length - i) 0 [0] [] (Sub.mk' rfl ⟨⟨rfl, rfl⟩, .inl rfl, .inl (by simp), .inl rfl, trivial⟩ ⟨⟨rfl, .inl rfl, .inl rfl, .inl rfl, .inl rfl, .inl rfl, trivial⟩, trivial⟩ rfl rfl) ⟨Nat.zero_le _, rfl⟩ ?_
  rintro i ⟨hi, hf⟩ -
  conv => whnf
  refine csplit (fun hlt => ?_) (fun hge => ?_)
  · have hlt : i < cores.length := by simpa using hlt
    conv => whnf
    refine ⟨rfl, by omega, by simpa using hlt, fun row hrow => ?_⟩
    obtain ⟨c, hd, rfl⟩ := map_get hrow
    replace hd : cores[i]? = some c := hd
    rw [coresCk_at hd] at hf
    obtain ⟨_, hcl0, hci⟩ := ((hcs _ (List.mem_of_getElem? hrow)).2 (codeT c.code) (.tail _ (.head _))).lst
    obtain ⟨cn, cc⟩ := c
    rw [List.length_map] at hcl0
    have hcl : cc.length ≤ 9223372036854775807 := hcl0
    clear hcl0
    generalize hN : badAt (cc.length : Int) (memory.length : Int) cc 0 = N at hf
    conv => whnf
    refine LoopL.by (fun k : Nat => ⟨[(1, .ptr 0 0), (5, .tr (ti i)), (6, .ptr 1 0), (13, .tr (coresT cores)), (14, .tr (ti cores.length)), (15, .tr (ti i)), (21, .tr (codeT cc)), (22, .tr (ti cc.length)), (23, .tr (ti k))],
        [(0, .cells 25 [.tr (intsT memory), .tr (ti shared), .tr (ti locks), .tr (ti buffer), .tr (coresT cores)]), (1, .cells 33 [.tr (ts cn), .tr (codeT cc)])], 60⟩)
      (fun k => k ≤ cc.length ∧ N = badAt cc.length memory.length (cc.drop k) k) (fun k => cc.length - k) 0 [0, 64] []
      (Sub.mk' rfl ⟨⟨rfl, rfl⟩, .inl rfl, ⟨rfl, rfl⟩, .inl rfl, .inl rfl, .inl rfl, .inl rfl, .inl (by simp), .inl rfl, trivial⟩ aut rfl rfl) ⟨Nat.zero_le _, hN.symm⟩ ?_
    rintro k ⟨hk, hg⟩ -
    conv => whnf
    refine csplit (fun hlt2 => ?_) (fun hge2 => ?_)
    · have hlt2 : k < cc.length := by simpa using hlt2
      conv => whnf
      refine ⟨rfl, by omega, by simpa using hlt2, fun row hrow => ?_⟩
      obtain ⟨x, hx, rfl⟩ := map_get hrow
      replace hx : cc[k]? = some x := hx
      rw [badAt_at hx] at hg
      have hr := k_right x cc.length memory.length
      obtain ⟨x1, x2, x3, x4, x5, x6, x7, x8, x9⟩ := x
      conv => whnf
      refine acall.gen [] [] _ _ _ _ hr rfl rfl rfl rfl ⟨aut, .inl (by simp), .inl (by simp), trivial⟩ trivial rfl rfl fun _ => ?_
      conv => whnf
      refine csplit (fun h2 => ?_) (fun h2 => ?_)
      · rw [h2] at hg
        replace hg : N = (k : Int) := hg
        subst hg
        rw [show decide ((k : Int) ≥ 0) = true from decide_eq_true (by omega)] at hf
        rw [hf]
        conv => whnf
        exact ⟨⟨.inl rfl, .inl rfl, .inl rfl, trivial⟩, trivial⟩
      · rw [h2] at hg
        conv => whnf
        exact ⟨k + 1, [0, 1], [], Sub.mk' rfl ⟨⟨rfl, rfl⟩, .inl rfl, ⟨rfl, rfl⟩, .inl rfl, .inl rfl, .inl rfl, .inl rfl, .inl rfl, .inl (ti_succ hlt2 hcl), trivial⟩ aut rfl rfl, ⟨by omega, hg⟩, by omega⟩
    · have hge2 : cc.length ≤ k := by simpa using hge2
      rw [List.drop_eq_nil_of_le hge2] at hg
      replace hg : N = -1 := hg
      subst hg
      conv => whnf
      refine ⟨fun _ => ?_, fun h => absurd rfl h⟩
      conv => whnf
      exact ⟨i + 1, [0], [], Sub.mk' rfl ⟨⟨rfl, rfl⟩, .inl rfl, .inl rfl, .inl (ti_succ hlt hl), trivial⟩ ⟨⟨rfl, .inl rfl, .inl rfl, .inl rfl, .inl rfl, .inl rfl, trivial⟩, trivial⟩ rfl rfl, ⟨by omega, hf⟩, by omega⟩
  · have hge : cores.length ≤ i := by simpa using hge
    rw [List.drop_eq_nil_of_le hge] at hf
    rw [hf]
    conv => whnf
    refine ⟨fun _ => ?_, fun h => absurd rfl h⟩
    conv => whnf
    exact ⟨⟨.inl rfl, .inl rfl, .inl rfl, trivial⟩, trivial⟩
end Go.Proofs.YtffhoknkfohfgaaDoor.am

namespace Go.Proofs.YtffhoknkfohfgaaDoor.am
open Go Go.Proofs
structure Good (o : Ob) : Prop where
  shared : 0 ≤ o.shared ∧ o.shared ≤ 64
  locks : 0 ≤ o.locks ∧ o.locks ≤ 16
  mem : o.memory.length ≤ 4096
  room : o.shared + o.locks ≤ o.memory.length
  buffer : 1 ≤ o.buffer ∧ o.buffer ≤ 16
  cores : o.cores.length ≤ 8
  name : ∀ c ∈ o.cores, nameB c.name = true
  code : ∀ c ∈ o.cores, 1 ≤ c.code.length ∧ c.code.length ≤ 16384
  right : ∀ c ∈ o.cores, ∀ i ∈ c.code, rightB i c.code.length o.memory.length = true
theorem badAt_ge (code mem : Int) (l : List Ins) (n : Nat) : badAt code mem l n = -1 ∨ (n : Int) ≤ badAt code mem l n := by
  induction l generalizing n with
  | nil => exact .inl rfl
  | cons i l ih =>
    unfold badAt
    cases h : !rightB i code mem
    · rcases ih (n + 1) with h' | h'
      · exact .inl h'
      · right; show (n : Int) ≤ badAt code mem l (n + 1); omega
    · right; exact Int.le_refl _
theorem badAt_good {code mem : Int} {l : List Ins} {n : Nat} : badAt code mem l n = -1 ↔ ∀ i ∈ l, rightB i code mem = true := by
  induction l generalizing n with
  | nil => simp [badAt]
  | cons i l ih =>
    unfold badAt
    cases h : rightB i code mem
    · constructor
      · intro h'; simp only [Bool.not_false, cond_true] at h'; omega
      · intro h'; rw [h' i (.head _)] at h; cases h
    · simp only [Bool.not_true, cond_false, ih]
      constructor
      · rintro h' x (_ | ⟨_, hx⟩)
        · exact h
        · exact h' x hx
      · exact fun h' x hx => h' x (.tail _ hx)
theorem coresCk_ok {mem : Int} {l : List Cor} {k : Nat} : (coresCk mem l k).1 = 0 ↔ ∀ c ∈ l, ∀ i ∈ c.code, rightB i c.code.length mem = true := by
  induction l generalizing k with
  | nil => simp [coresCk]
  | cons c l ih =>
    unfold coresCk
    have hb := badAt_ge c.code.length mem c.code 0
    by_cases h : badAt c.code.length mem c.code 0 = -1
    · rw [h]
      simp only [show decide ((-1 : Int) ≥ 0) = false from rfl, cond_false, ih]
      have h2 := badAt_good.1 h
      constructor
      · rintro h' x (_ | ⟨_, hx⟩)
        · exact h2
        · exact h' x hx
      · exact fun h' x hx => h' x (.tail _ hx)
    · rw [show decide (badAt c.code.length mem c.code 0 ≥ 0) = true from decide_eq_true (by omega)]
      constructor
      · intro h'; simp at h'
      · intro h'; exact absurd (badAt_good.2 (h' c (.head _))) h
theorem coresCk_zero {mem : Int} {l : List Cor} {k : Nat} (h : (coresCk mem l k).1 = 0) : coresCk mem l k = (0, 0, 0) := by
  induction l generalizing k with
  | nil => rfl
  | cons c l ih =>
    unfold coresCk at h ⊢
    cases hb : decide (badAt c.code.length mem c.code 0 ≥ 0)
    · rw [hb] at h; exact ih h
    · rw [hb] at h; simp at h
theorem checkO_zero {o : Ob} (h : (checkO o).1 = 0) : checkO o = (0, 0, 0) := by
  unfold checkO at h ⊢
  cases hs : shapedB o
  · rw [hs] at h; simp at h
  · rw [hs] at h; exact coresCk_zero h
theorem coresOk_mem {l pre : List Cor} (h : coresOk pre l = true) : ∀ c ∈ l, nameB c.name = true ∧ 1 ≤ c.code.length ∧ c.code.length ≤ 16384 ∧ lastBad c = false := by
  induction l generalizing pre with
  | nil => intro c hc; cases hc
  | cons d l ih =>
    unfold coresOk at h
    cases hb : coreBad pre d || lastBad d
    · rw [hb] at h
      rintro c (_ | ⟨_, hc⟩)
      · simp only [Bool.or_eq_false_iff, coreBad, Bool.not_eq_false', decide_eq_false_iff_not] at hb
        exact ⟨hb.1.1.1.1, by omega, by omega, hb.2⟩
      · exact ih h c hc
    · rw [hb] at h; cases h
theorem check_iff {o : Ob} : (checkO o).1 = 0 ↔ shapedB o = true ∧ ∀ c ∈ o.cores, ∀ i ∈ c.code, rightB i c.code.length o.memory.length = true := by
  unfold checkO
  cases hs : shapedB o
  · simp
  · simp [coresCk_ok]
theorem check_good {o : Ob} (h : (checkO o).1 = 0) : Good o := by
  obtain ⟨h1, h2⟩ := check_iff.1 h
  unfold shapedB at h1
  cases hb : headBad o
  · rw [hb] at h1
    have hc := coresOk_mem h1
    simp only [headBad, Bool.or_eq_false_iff, decide_eq_false_iff_not, Int.not_lt, Int.not_le, gt_iff_lt] at hb
    obtain ⟨⟨⟨⟨⟨⟨⟨⟨a1, a2⟩, a3⟩, a4⟩, a5⟩, a6⟩, a7⟩, a8⟩, a9⟩ := hb
    have e : IntKind.i64.wrap (o.shared + o.locks) = o.shared + o.locks := w64 (by omega) (by omega)
    rw [e] at a5
    exact ⟨⟨by omega, by omega⟩, ⟨by omega, by omega⟩, by omega, by omega, ⟨by omega, by omega⟩, by omega, fun c h => (hc c h).1, fun c h => ⟨(hc c h).2.1, (hc c h).2.2.1⟩, h2⟩
  · rw [hb] at h1; cases h1
theorem right_kind {i : Ins} {code mem : Int} (h : rightB i code mem = true) : 1 ≤ i.kind ∧ i.kind < 11 := by
  unfold rightB at h
  simp only [Bool.and_eq_true, Bool.not_eq_true', Bool.or_eq_false_iff, Bool.not_eq_false'] at h
  have := h.1.1.1
  unfold kok at this
  simp only [Bool.and_eq_true, decide_eq_true_eq] at this
  exact this
theorem name_le {s : ByteArray} (h : nameB s = true) : s.size ≤ 32 := by
  unfold nameB at h
  cases h2 : decide ((s.size : Int) > 32)
  · have := of_decide_eq_false h2; omega
  · rw [h2] at h; simp at h
end Go.Proofs.YtffhoknkfohfgaaDoor.am

namespace Go.Proofs.YtffhoknkfohfgaaDoor.am
open Go Go.Proofs
theorem k_fields0 (i : Ins) (hk : i.kind = 6 ∨ i.kind = 10) (hop : 0 ≤ i.op ∧ i.op ≤ 255) (l : List UInt8) (hl : l.length ≤ 50000000) : fieldsE i = [] ∧ K 33 [.ptr 0 0, .fn 34 [.ptr 1 0]] [insB i, outC 2 l, bytB l] (.ret (.tup [])) [some (insB i), some (outC 2 l), some (bytB l)] := by
  obtain ⟨kind, op, d, a, b, addr, to_, word, from_⟩ := i
  simp only at hk hop
  rcases hk with rfl | rfl
  · exact ⟨rfl, k_fieldsE6 hop l hl⟩
  · exact ⟨rfl, k_fieldsE10 hop l hl⟩
theorem k_fieldsN (i : Ins) (hk : 1 ≤ i.kind ∧ i.kind < 11) (h6 : ¬ (i.kind = 6 ∨ i.kind = 10)) (hop : 0 ≤ i.op ∧ i.op ≤ 255) (l : List UInt8) (hl : l.length ≤ 50000000) : K 33 [.ptr 0 0, .fn 34 [.ptr 1 0]] [insB i, outC 2 l, bytB l] (.ret (.tup []))
    [some (insB i), some (outC 3 (l ++ fieldsE i)), none, some (bytB (l ++ fieldsE i))] := by
  obtain ⟨kind, op, d, a, b, addr, to_, word, from_⟩ := i
  simp only at hk hop h6
  have hc : kind = 1 ∨ kind = 2 ∨ kind = 3 ∨ kind = 4 ∨ kind = 5 ∨ kind = 7 ∨ kind = 8 ∨ kind = 9 := by omega
  rcases hc with rfl | rfl | rfl | rfl | rfl | rfl | rfl | rfl
  · exact k_fieldsE1 hop l hl
  · cases h2 : two op
    · exact k_fieldsE2f h2 hop l hl
    · exact k_fieldsE2t h2 hop l hl
  · exact k_fieldsE3 hop l hl
  · exact k_fieldsE4 hop l hl
  · exact k_fieldsE5 hop l hl
  · exact k_fieldsE7 hop l hl
  · exact k_fieldsE8 hop l hl
  · exact k_fieldsE9 hop l hl
def insE (i : Ins) : List UInt8 := nuB i.kind ++ fieldsE i ++ nuB i.from_
def coreE (c : Cor) : List UInt8 := nuB c.name.size ++ c.name.data.toList ++ nuB c.code.length ++ c.code.flatMap insE
def headE (o : Ob) : List UInt8 := magicL ++ nuB o.shared ++ nuB o.locks ++ nuB o.buffer ++ nuB o.memory.length
def encB (o : Ob) : List UInt8 := headE o ++ o.memory.flatMap wrdB ++ nuB o.cores.length ++ o.cores.flatMap coreE
theorem k_putNF (x : Int) : K 31 [.ful 1 1 (brows magicL), .tr (tq (IntKind.u64.wrap x))] [] (.ret (.sl 0 (magicL ++ nuB x).length)) [some (bytB (magicL ++ nuB x))] := by
  have h := u64_wrap x
  have := k_putNumberF (IntKind.u64.wrap x).toNat (by omega)
  have e : (((IntKind.u64.wrap x).toNat : Nat) : Int) = IntKind.u64.wrap x := Int.toNat_of_nonneg h.1
  have e2 : varB (((IntKind.u64.wrap x).toNat : Nat) : Int) = nuB x := rfl
  rw [e2, e] at this
  exact this
theorem fieldE_len (i : Ins) (u : Int) : (fieldE i u).length ≤ 10 := by
  have h : ∀ (b : Bool) (x y : List UInt8), x.length ≤ 10 → y.length ≤ 10 → (bif b then x else y).length ≤ 10 := fun b x y h1 h2 => by cases b <;> assumption
  exact h _ _ _ (nuB_len _) (h _ _ _ (nuB_len _) (h _ _ _ (nuB_len _) (h _ _ _ (nuB_len _) (h _ _ _ (nuB_len _) (h _ _ _ (nuB_len _) (h _ _ _ (wrdB_len _) (Nat.zero_le _)))))))
theorem flat_len {α : Type} (f : α → List UInt8) (n : Nat) (l : List α) (h : ∀ x ∈ l, (f x).length ≤ n) : (l.flatMap f).length ≤ l.length * n := by
  induction l with
  | nil => simp
  | cons x l ih =>
    have h1 := h x (.head _)
    have h2 := ih fun y hy => h y (.tail _ hy)
    simp only [List.flatMap_cons, List.length_append, List.length_cons, Nat.succ_mul]
    omega
theorem fieldsE_len (i : Ins) (hk : 1 ≤ i.kind ∧ i.kind < 11) : (fieldsE i).length ≤ 40 := by
  unfold fieldsE
  have h := flat_len (fieldE i) 10 (bif i.kind == 2 && !two i.op then [1, 2, 4] else kuse i.kind) fun u _ => fieldE_len i u
  have h2 : (bif i.kind == 2 && !two i.op then [1, 2, 4] else kuse i.kind).length ≤ 4 := by
    cases (i.kind == 2 && !two i.op)
    · show (kuse i.kind).length ≤ 4
      have hc : i.kind = 1 ∨ i.kind = 2 ∨ i.kind = 3 ∨ i.kind = 4 ∨ i.kind = 5 ∨ i.kind = 6 ∨ i.kind = 7 ∨ i.kind = 8 ∨ i.kind = 9 ∨ i.kind = 10 := by omega
      rcases hc with h | h | h | h | h | h | h | h | h | h <;> (rw [h]; decide)
    · show [(1 : Int), 2, 4].length ≤ 4; decide
  omega
theorem take_app (r s : List UInt8) : (brows r).take r.length ++ brows s = brows (r ++ s) := by
  rw [List.take_of_length_le (by simp [brows]), ← brows_app]
theorem dat_len (s : ByteArray) : s.data.toList.length = s.size := by simp
theorem k_encode0 (o : Ob) (h : (checkO o).1 ≠ 0) : K 11 [o.av] [] (.ret (.tup [.tr (.v (.slice none 0 0)), .tr (ti (checkO o).1)])) [] := by
  refine Ctr.new [2000004] hT hmix Tryd.func11 rfl (fun _ _ => by kernel_rfl) rfl fun hok => ?_
  clear hok
  obtain ⟨memory, shared, locks, buffer, cores⟩ := o
  have hc := k_check ⟨memory, shared, locks, buffer, cores⟩
  generalize checkO ⟨memory, shared, locks, buffer, cores⟩ = R at hc h ⊢
  conv => whnf
  refine acall.pure _ (hc) rfl rfl fun _ => ?_
  conv => whnf
  refine csplit (fun h1 => ?_) (fun h1 => ?_)
  · conv => whnf
    exact ⟨[], rfl, rfl, aut⟩
  · exact absurd (by simpa using h1) h
set_option maxRecDepth 100000 in
theorem k_encode (o : Ob) (h : (checkO o).1 = 0) : K 11 [o.av] [] (.ret (.tup [.sl 0 (encB o).length, .tr (ti 0)])) [some (bytB (encB o))] := by
  have hG := check_good h
  refine Ctr.new [2000004] hT hmix Tryd.func11 rfl (fun _ _ => by kernel_rfl) rfl fun hok => ?_
  have hc := k_check o
  rw [checkO_zero h] at hc
  obtain ⟨memory, shared, locks, buffer, cores⟩ := o
  have hml : memory.length ≤ 9223372036854775807 := by have := hG.mem; simp only at this; omega
  have hcl8 : cores.length ≤ 8 := hG.cores
  have hcl8' : cores.length ≤ 9223372036854775807 := by omega
  have hm4 : memory.length ≤ 4096 := hG.mem
  obtain ⟨_, _, hcs⟩ := ((hok.slot 0 rfl).agg _ (.tail _ (.tail _ (.tail _ (.tail _ (.head _)))))).tr.lst
  clear hok
  generalize hE : encB ⟨memory, shared, locks, buffer, cores⟩ = E
  conv => whnf
  refine acall.pure _ (hc) rfl rfl fun _ => ?_
  conv => whnf
  refine magic_region rfl rfl rfl (by decide) ?_
  conv => whnf
  refine LoopL.un 5 ?_
  conv => whnf
  refine ⟨rfl, by decide, by decide, ?_⟩
  conv => whnf
  refine ⟨rfl, Nat.le_of_ble_eq_true rfl, fun row hrow => ?_⟩
  cases hrow
  conv => whnf
  refine ⟨Nat.le_of_ble_eq_true rfl, fun t ht => ?_⟩
  cases ht
  conv => whnf
  refine acall.new [] [] _ _ _ _ (k_putNF shared) rfl rfl rfl rfl aut aut rfl rfl fun _ => ?_
  conv => whnf
  refine ⟨rfl, by decide, by decide, ?_⟩
  conv => whnf
  refine ⟨rfl, Nat.le_of_ble_eq_true rfl, fun row hrow => ?_⟩
  cases hrow
  conv => whnf
  refine ⟨Nat.le_of_ble_eq_true rfl, fun t ht => ?_⟩
  cases ht
  conv => whnf
  refine acall.new [37] [] _ _ _ _ (k_putN (magicL ++ nuB shared) locks ?_) rfl rfl rfl rfl aut aut rfl rfl fun _ => ?_
  · have := nuB_len shared; have := nuB_len locks; have := nuB_len buffer; simp only [List.length_append, magicL, List.length_cons, List.length_nil]; omega
  conv => whnf
  refine ⟨rfl, by decide, by decide, ?_⟩
  conv => whnf
  refine ⟨rfl, Nat.le_of_ble_eq_true rfl, fun row hrow => ?_⟩
  cases hrow
  conv => whnf
  refine ⟨Nat.le_of_ble_eq_true rfl, fun t ht => ?_⟩
  cases ht
  conv => whnf
  refine acall.new [48] [] _ _ _ _ (k_putN (magicL ++ nuB shared ++ nuB locks) buffer ?_) rfl rfl rfl rfl aut aut rfl rfl fun _ => ?_
  · have := nuB_len shared; have := nuB_len locks; have := nuB_len buffer; simp only [List.length_append, magicL, List.length_cons, List.length_nil]; omega
  conv => whnf
  refine ⟨rfl, by decide, by decide, ?_⟩
  conv => whnf
  refine ⟨rfl, Nat.le_of_ble_eq_true rfl, fun row hrow => ?_⟩
  cases hrow
  conv => whnf
  refine ⟨Nat.le_of_ble_eq_true rfl, fun t ht => ?_⟩
  cases ht
  conv => whnf
  refine acall.new [59] [] _ _ _ _ (k_putN (magicL ++ nuB shared ++ nuB locks ++ nuB buffer) memory.length ?_) rfl rfl rfl rfl ⟨⟨rfl, rfl⟩, .inl (by simp), trivial⟩ aut rfl rfl fun _ => ?_
  · have := nuB_len shared; have := nuB_len locks; have := nuB_len buffer; simp only [List.length_append, magicL, List.length_cons, List.length_nil]; omega
  conv => whnf
  refine ⟨fun _ => ?_, fun h => absurd rfl h⟩
  conv => whnf
  refine LoopL.by (fun x : List UInt8 × Nat => ⟨[(1, .ptr 0 0), (7, .ptr 1 0), (48, .tr (intsT memory)), (49, .tr (ti memory.length)), (50, .tr (ti x.2))],
      [(0, .cells 25 [.tr (intsT memory), .tr (ti shared), .tr (ti locks), .tr (ti buffer), .tr (coresT cores)]), (1, .cells 38 [.sl 2 x.1.length]), (2, bytB x.1)], 10⟩)
    (fun x => x.2 ≤ memory.length ∧ E = x.1 ++ ((memory.drop x.2).flatMap wrdB ++ (nuB cores.length ++ cores.flatMap coreE)) ∧ x.1.length ≤ 44 + 10 * x.2) (fun x => memory.length - x.2)
    (magicL ++ nuB shared ++ nuB locks ++ nuB buffer ++ nuB memory.length, 0) [0, 16, 70] [] (Sub.mk' rfl ⟨⟨rfl, rfl⟩, ⟨rfl, rfl⟩, .inl rfl, .inl (by simp), .inl rfl, trivial⟩ aut rfl rfl) ⟨Nat.zero_le _, ?_, ?_⟩ ?_
  · rw [← hE]; simp only [encB, headE, List.append_assoc, List.drop_zero]
  · have := nuB_len shared; have := nuB_len locks; have := nuB_len buffer; have := nuB_len memory.length; simp only [List.length_append, magicL, List.length_cons, List.length_nil]; omega
  rintro ⟨l, i⟩ ⟨hi, hf, hlen⟩ -
  simp only at hi hf hlen
  conv => whnf
  refine csplit (fun hlt => ?_) (fun hge => ?_)
  · have hlt : i < memory.length := by simpa using hlt
    conv => whnf
    refine ⟨rfl, by omega, by simpa using hlt, fun row hrow => ?_⟩
    obtain ⟨x, hx, rfl⟩ := map_get hrow
    replace hx : memory[i]? = some x := hx
    rw [drop_cons hx] at hf
    conv => whnf
    refine acall.new [2] [] _ _ _ _ (k_putWord l x (by omega)) rfl rfl rfl rfl aut aut rfl rfl fun _ => ?_
    conv => whnf
    refine ⟨(l ++ wrdB x, i + 1), [0, 1, 16], [], Sub.mk' rfl ⟨⟨rfl, rfl⟩, ⟨rfl, rfl⟩, .inl rfl, .inl rfl, .inl (ti_succ hlt hml), trivial⟩ aut rfl rfl, ⟨by omega, ?_, ?_⟩, by simp only; omega⟩
    · rw [hf]; simp only [List.flatMap_cons, List.append_assoc]
    · have := wrdB_len x; simp only [List.length_append]; omega
  have hge : memory.length ≤ i := by simpa using hge
  rw [List.drop_eq_nil_of_le hge] at hf
  conv => whnf
  refine ⟨fun _ => ?_, fun h => absurd rfl h⟩
  conv => whnf
  refine acall.new [2] [] _ _ _ _ (k_putN l cores.length (by omega)) rfl rfl rfl rfl ⟨⟨rfl, rfl⟩, .inl (by simp), trivial⟩ aut rfl rfl fun _ => ?_
  conv => whnf
  refine LoopL.by (fun x : List UInt8 × Nat => ⟨[(1, .ptr 0 0), (7, .ptr 1 0), (65, .tr (coresT cores)), (66, .tr (ti cores.length)), (67, .tr (ti x.2))],
      [(0, .cells 25 [.tr (intsT memory), .tr (ti shared), .tr (ti locks), .tr (ti buffer), .tr (coresT cores)]), (1, .cells 38 [.sl 2 x.1.length]), (2, bytB x.1)], 10⟩)
    (fun x => x.2 ≤ cores.length ∧ E = x.1 ++ (cores.drop x.2).flatMap coreE ∧ x.1.length ≤ 50000 + 1200000 * x.2) (fun x => cores.length - x.2)
    (l ++ nuB cores.length, 0) [0, 1, 16] [] (Sub.mk' rfl ⟨⟨rfl, rfl⟩, ⟨rfl, rfl⟩, .inl rfl, .inl (by simp), .inl rfl, trivial⟩ aut rfl rfl) ⟨Nat.zero_le _, ?_, ?_⟩ ?_
  · rw [hf]; simp
  · have := nuB_len cores.length; simp only [List.length_append]; omega
  clear hf hlen
  rintro ⟨l, k⟩ ⟨hk, hf, hlen⟩ -
  simp only at hk hf hlen
  conv => whnf
  refine csplit (fun hlt => ?_) (fun hge => ?_)
  · have hlt : k < cores.length := by simpa using hlt
    conv => whnf
    refine ⟨rfl, by omega, by simpa using hlt, fun row hrow => ?_⟩
    obtain ⟨c, hd, rfl⟩ := map_get hrow
    replace hd : cores[k]? = some c := hd
    rw [drop_cons hd] at hf
    obtain ⟨_, hcl0, hci⟩ := ((hcs _ (List.mem_of_getElem? hrow)).2 (codeT c.code) (.tail _ (.head _))).lst
    have hmem := List.mem_of_getElem? hd
    have hnl := name_le (hG.name c hmem)
    have hcd := hG.code c hmem
    have hrt := hG.right c hmem
    obtain ⟨cn, cc⟩ := c
    simp only at hnl hcd hrt
    rw [List.length_map] at hcl0
    have hcl : cc.length ≤ 9223372036854775807 := hcl0
    clear hcl0
    conv => whnf
    refine acall.new [2] [] _ _ _ _ (k_putN l cn.size (by omega)) rfl rfl rfl rfl aut aut rfl rfl fun _ => ?_
    conv => whnf
    refine ⟨rfl, rfl, rfl, by simp [brows], ?_, ?_⟩
    · have := nuB_len cn.size; show (l ++ nuB cn.size).length + cn.size ≤ _; simp only [List.length_append]; omega
    conv => whnf
    refine acall.new [25] [] _ _ _ _ (k_putN (l ++ nuB cn.size ++ cn.data.toList) cc.length ?_) rfl rfl rfl rfl ⟨⟨rfl, by simp [Nat.add_assoc]⟩, .inl (by simp), trivial⟩ ⟨⟨rfl, rfl, rfl, take_app _ _⟩, trivial⟩ rfl rfl fun _ => ?_
    · have := nuB_len cn.size; have := dat_len cn; simp only [List.length_append]; omega
    conv => whnf
    refine LoopL.by (fun x : List UInt8 × Nat => ⟨[(1, .ptr 0 0), (7, .ptr 1 0), (65, .tr (coresT cores)), (66, .tr (ti cores.length)), (67, .tr (ti k)), (88, .tr (codeT cc)), (89, .tr (ti cc.length)), (90, .tr (ti x.2))],
        [(0, .cells 25 [.tr (intsT memory), .tr (ti shared), .tr (ti locks), .tr (ti buffer), .tr (coresT cores)]), (1, .cells 38 [.sl 2 x.1.length]), (2, bytB x.1)], 10⟩)
      (fun x => x.2 ≤ cc.length ∧ E = x.1 ++ ((cc.drop x.2).flatMap insE ++ (cores.drop (k + 1)).flatMap coreE) ∧ x.1.length ≤ 60000 + 1200000 * k + 60 * x.2) (fun x => cc.length - x.2)
      (l ++ nuB cn.size ++ cn.data.toList ++ nuB cc.length, 0) [0, 1, 32] [] (Sub.mk' rfl ⟨⟨rfl, rfl⟩, ⟨rfl, rfl⟩, .inl rfl, .inl rfl, .inl rfl, .inl rfl, .inl (by simp), .inl rfl, trivial⟩ aut rfl rfl) ⟨Nat.zero_le _, ?_, ?_⟩ ?_
    · rw [hf]; simp only [List.flatMap_cons, coreE, List.append_assoc, List.drop_zero]
    · have := nuB_len cn.size; have := nuB_len cc.length; have := dat_len cn; simp only [List.length_append]; omega
    clear hf hlen
    rintro ⟨l, j⟩ ⟨hj, hf, hlen⟩ -
    simp only at hj hf hlen
    conv => whnf
    refine csplit (fun hlt2 => ?_) (fun hge2 => ?_)
    · have hlt2 : j < cc.length := by simpa using hlt2
      conv => whnf
      refine ⟨rfl, by omega, by simpa using hlt2, fun row hrow => ?_⟩
      obtain ⟨i, hx, rfl⟩ := map_get hrow
      replace hx : cc[j]? = some i := hx
      have hmi := List.mem_of_getElem? hx
      have hik := right_kind (hrt i hmi)
      have hop : 0 ≤ i.op ∧ i.op ≤ 255 := ((hci _ (List.mem_of_getElem? hrow)).2 (tu i.op) (.tail _ (.head _))).u8
      rw [drop_cons hx] at hf
      have hfl := fieldsE_len i hik
      have hnk := nuB_len i.kind
      have hnf := nuB_len i.from_
      by_cases h6 : i.kind = 6 ∨ i.kind = 10
      · have hF := k_fields0 i h6 hop (l ++ nuB i.kind) (by simp only [List.length_append]; omega)
        obtain ⟨hF0, hF⟩ := hF
        obtain ⟨i1, i2, i3, i4, i5, i6, i7, i8, i9⟩ := i
        simp only at hnk hnf
        conv => whnf
        refine acall.new [2] [] _ _ _ _ (k_putN l i1 (by omega)) rfl rfl rfl rfl aut aut rfl rfl fun _ => ?_
        conv => whnf
        refine acall.new [13, 1, 19] [] _ _ _ _ hF rfl rfl rfl rfl aut aut rfl rfl fun _ => ?_
        conv => whnf
        refine acall.new [19] [] _ _ _ _ (k_putN (l ++ nuB i1) i9 (by simp only [List.length_append]; omega)) rfl rfl rfl rfl aut aut rfl rfl fun _ => ?_
        conv => whnf
        refine ⟨(l ++ nuB i1 ++ nuB i9, j + 1), [0, 1, 27], [], Sub.mk' rfl ⟨⟨rfl, rfl⟩, ⟨rfl, rfl⟩, .inl rfl, .inl rfl, .inl rfl, .inl rfl, .inl rfl, .inl (ti_succ hlt2 hcl), trivial⟩ aut rfl rfl, ⟨by omega, ?_, ?_⟩, by simp only; omega⟩
        · rw [hf]; simp only [List.flatMap_cons, insE, hF0, List.nil_append, List.append_assoc]
        · simp only [List.length_append]; omega
      · have hF := k_fieldsN i hik h6 hop (l ++ nuB i.kind) (by simp only [List.length_append]; omega)
        obtain ⟨i1, i2, i3, i4, i5, i6, i7, i8, i9⟩ := i
        simp only at hnk hnf
        conv => whnf
        refine acall.new [2] [] _ _ _ _ (k_putN l i1 (by omega)) rfl rfl rfl rfl aut aut rfl rfl fun _ => ?_
        conv => whnf
        refine acall.new [13, 1, 19] [] _ _ _ _ hF rfl rfl rfl rfl aut aut rfl rfl fun _ => ?_
        conv => whnf
        refine acall.new [22] [] _ _ _ _ (k_putN (l ++ nuB i1 ++ fieldsE ⟨i1, i2, i3, i4, i5, i6, i7, i8, i9⟩) i9 (by simp only [List.length_append]; omega)) rfl rfl rfl rfl aut aut rfl rfl fun _ => ?_
        conv => whnf
        refine ⟨(l ++ nuB i1 ++ fieldsE ⟨i1, i2, i3, i4, i5, i6, i7, i8, i9⟩ ++ nuB i9, j + 1), [0, 1, 27], [], Sub.mk' rfl ⟨⟨rfl, rfl⟩, ⟨rfl, rfl⟩, .inl rfl, .inl rfl, .inl rfl, .inl rfl, .inl rfl, .inl (ti_succ hlt2 hcl), trivial⟩ aut rfl rfl, ⟨by omega, ?_, ?_⟩, by simp only; omega⟩
        · rw [hf]; simp only [List.flatMap_cons, insE, List.append_assoc]
        · simp only [List.length_append]; omega
    have hge2 : cc.length ≤ j := by simpa using hge2
    rw [List.drop_eq_nil_of_le hge2] at hf
    conv => whnf
    refine ⟨fun _ => ?_, fun h => absurd rfl h⟩
    conv => whnf
    refine ⟨(l, k + 1), [0, 1, 2], [], Sub.mk' rfl ⟨⟨rfl, rfl⟩, ⟨rfl, rfl⟩, .inl rfl, .inl rfl, .inl (ti_succ hlt hcl8'), trivial⟩ aut rfl rfl, ⟨by omega, ?_, ?_⟩, by simp only; omega⟩
    · rw [hf]; simp
    · simp only; omega
  · have hge : cores.length ≤ k := by simpa using hge
    rw [List.drop_eq_nil_of_le hge] at hf
    obtain rfl : E = l := by rw [hf]; simp
    conv => whnf
    refine ⟨fun _ => ?_, fun h => absurd rfl h⟩
    conv => whnf
    exact ⟨[2], rfl, rfl, aut⟩
end Go.Proofs.YtffhoknkfohfgaaDoor.am

namespace Go.Proofs.YtffhoknkfohfgaaDoor.am
open Go Go.Proofs
def nO : Nat → Nat → Nat → List UInt8 → Option (Nat × List UInt8)
  | 0, _, _, _ => none
  | _ + 1, _, _, [] => none
  | f + 1, k, n, c :: l => if (k = 9 ∧ 1 < c.toNat) ∨ (0 < k ∧ c.toNat = 0) then none else
      if c.toNat < 128 then some (n + c.toNat * 128 ^ k, l) else nO f (k + 1) (n + (c.toNat % 128) * 128 ^ k) l
theorem k9 {k : Nat} (h : k ≤ 9) : k = 0 ∨ k = 1 ∨ k = 2 ∨ k = 3 ∨ k = 4 ∨ k = 5 ∨ k = 6 ∨ k = 7 ∨ k = 8 ∨ k = 9 := by omega
theorem toNat_of {n : Nat} (h : n < 256) : (UInt8.ofNat n).toNat = n := by rw [UInt8.toNat_ofNat']; omega
theorem vari_ge {f n : Nat} (h : 128 ≤ n) : vari (f + 1) n = UInt8.ofNat (n % 128 + 128) :: vari f (n / 128) := by
  show (if n < 128 then _ else _) = _
  rw [if_neg (by omega)]
theorem vari_lt {f n : Nat} (h : n < 128) : vari f n = [UInt8.ofNat n] := by
  cases f with
  | zero => rfl
  | succ f => show (if n < 128 then _ else _) = _; rw [if_pos h]
theorem nO_vari : ∀ (f k a n : Nat) (r : List UInt8), f + k = 9 → n * 128 ^ k < 18446744073709551616 → n < 128 ^ (f + 1) → (0 < k → 0 < n) → nO (f + 1) k a (vari f n ++ r) = some (a + n * 128 ^ k, r) := by
  intro f
  induction f with
  | zero =>
    intro k a n r hk hn hn2 h0
    obtain rfl : k = 9 := by omega
    have hn2 : n < 128 := by simpa using hn2
    have hn1 : n ≤ 1 := by simp only [Nat.reducePow] at hn; omega
    have h0 := h0 (by decide)
    show nO 1 9 a (UInt8.ofNat n :: r) = _
    unfold nO
    rw [toNat_of (by omega), if_neg (by omega), if_pos hn2]
  | succ f ih =>
    intro k a n r hk hn hn2 h0
    unfold vari
    by_cases h : n < 128
    · rw [if_pos h]
      show nO (f + 1 + 1) k a (UInt8.ofNat n :: r) = _
      unfold nO
      rw [toNat_of (by omega), if_neg (by omega), if_pos h]
    · rw [if_neg h]
      show nO (f + 1 + 1) k a (UInt8.ofNat (n % 128 + 128) :: (vari f (n / 128) ++ r)) = _
      unfold nO
      rw [toNat_of (by omega), if_neg (by omega), if_neg (by omega), show (n % 128 + 128) % 128 = n % 128 by omega]
      have hd : n / 128 * 128 ≤ n := Nat.div_mul_le_self n 128
      have hp : 128 ^ (k + 1) = 128 * 128 ^ k := by rw [Nat.pow_succ, Nat.mul_comm]
      rw [ih (k + 1) _ (n / 128) r (by omega) ?_ ?_ (fun _ => by omega)]
      · have : n * 128 ^ k = n % 128 * 128 ^ k + n / 128 * 128 ^ (k + 1) := by
          rw [hp, ← Nat.mul_assoc, ← Nat.add_mul]
          congr 1
          omega
        rw [this, Nat.add_assoc]
      · rw [hp, ← Nat.mul_assoc]
        exact Nat.lt_of_le_of_lt (Nat.mul_le_mul_right _ hd) hn
      · rw [Nat.pow_succ] at hn2
        exact Nat.div_lt_of_lt_mul (by rw [Nat.mul_comm]; exact hn2)
theorem pow_div {k : Nat} (h : k ≤ 8) : ∃ E, 128 ^ (k + 1) * E = 18446744073709551616 := by
  rcases k9 (k := k) (by omega) with rfl | rfl | rfl | rfl | rfl | rfl | rfl | rfl | rfl | rfl
  · exact ⟨144115188075855872, by decide⟩
  · exact ⟨1125899906842624, by decide⟩
  · exact ⟨8796093022208, by decide⟩
  · exact ⟨68719476736, by decide⟩
  · exact ⟨536870912, by decide⟩
  · exact ⟨4194304, by decide⟩
  · exact ⟨32768, by decide⟩
  · exact ⟨256, by decide⟩
  · exact ⟨2, by decide⟩
  · omega
theorem nO_inv : ∀ (f k a : Nat) (l : List UInt8) (m : Nat) (r : List UInt8), f + k = 10 → nO f k a l = some (m, r) → ∃ g n, f = g + 1 ∧ l = vari g n ++ r ∧ m = a + n * 128 ^ k ∧ n * 128 ^ k < 18446744073709551616 ∧ (0 < k → 0 < n) := by
  intro f
  induction f with
  | zero => intro k a l m r _ h; cases h
  | succ f ih =>
    intro k a l m r hk h
    cases l with
    | nil => cases h
    | cons c l =>
    unfold nO at h
    have hc := c.toNat_lt
    split at h
    · cases h
    rename_i hne
    split at h
    · rename_i hlt
      simp only [Option.some.injEq, Prod.mk.injEq] at h
      obtain ⟨rfl, rfl⟩ := h
      refine ⟨f, c.toNat, rfl, ?_, rfl, ?_, fun h => by omega⟩
      · have e : UInt8.ofNat c.toNat = c := by simp
        cases f with
        | zero => show _ = UInt8.ofNat c.toNat :: l; rw [e]
        | succ f => unfold vari; rw [if_pos hlt, e]; rfl
      · generalize c.toNat = n at hne hlt
        rcases k9 (k := k) (by omega) with rfl | rfl | rfl | rfl | rfl | rfl | rfl | rfl | rfl | rfl <;> simp only [Nat.reducePow] <;> omega
    · rename_i hge
      obtain ⟨g, n, rfl, rfl, rfl, hn, h0⟩ := ih (k + 1) _ l m r (by omega) h
      have h0 := h0 (by omega)
      refine ⟨g + 1, c.toNat % 128 + 128 * n, rfl, ?_, ?_, ?_, fun _ => by omega⟩
      · rw [vari_ge (by omega), show (c.toNat % 128 + 128 * n) % 128 = c.toNat % 128 by omega, show (c.toNat % 128 + 128 * n) / 128 = n by omega, show c.toNat % 128 + 128 = c.toNat by omega, show UInt8.ofNat c.toNat = c by simp]
        rfl
      · rw [Nat.add_mul, Nat.pow_succ, Nat.add_assoc, Nat.mul_comm (128 ^ k) 128, ← Nat.mul_assoc, Nat.mul_comm n 128]
      · have hP : 0 < 128 ^ k := Nat.pow_pos (by decide)
        obtain ⟨E, hE⟩ := pow_div (k := k) (by omega)
        rw [← hE, Nat.mul_comm] at hn
        have h1 := Nat.lt_of_mul_lt_mul_left hn
        have h2 : (n + 1) * 128 ^ (k + 1) ≤ 18446744073709551616 := by rw [← hE, Nat.mul_comm]; exact Nat.mul_le_mul_left _ h1
        refine Nat.lt_of_lt_of_le ?_ h2
        rw [Nat.pow_succ, Nat.mul_comm (128 ^ k) 128, ← Nat.mul_assoc]
        exact Nat.mul_lt_mul_of_pos_right (by omega) hP
def numO (l : List UInt8) : Option (Nat × List UInt8) := nO 10 0 0 l
theorem numO_enc (n : Nat) (hn : n < 18446744073709551616) (r : List UInt8) : numO (vari 9 n ++ r) = some (n, r) := by
  unfold numO
  rw [nO_vari 9 0 0 n r rfl (by simpa using hn) (Nat.lt_trans hn (by decide)) (fun h => by omega)]
  simp
theorem numO_inv {l r : List UInt8} {m : Nat} (h : numO l = some (m, r)) : m < 18446744073709551616 ∧ l = vari 9 m ++ r := by
  obtain ⟨g, n, hg, rfl, rfl, hn, _⟩ := nO_inv 10 0 0 l m r rfl h
  obtain rfl : g = 9 := by omega
  exact ⟨by simpa using hn, by simp⟩
/-! words -/
def zigN (w : Int) : Nat := if 0 ≤ w then (2 * w).toNat else (-2 * w - 1).toNat
def unzN (n : Nat) : Int := if n % 2 = 0 then ((n / 2 : Nat) : Int) else -((n / 2 : Nat) : Int) - 1
theorem unz_zig (w : Int) : unzN (zigN w) = w := by
  unfold zigN unzN
  split
  · rw [if_pos (by omega)]; omega
  · rw [if_neg (by omega)]; omega
theorem zig_unz (n : Nat) : zigN (unzN n) = n := by
  unfold zigN unzN
  split
  · rw [if_pos (by omega)]; omega
  · rw [if_neg (by omega)]; omega
theorem wu64 {z : Int} (h0 : 0 ≤ z) (h1 : z < 18446744073709551616) : IntKind.u64.wrap z = z := by
  simp only [IntKind.wrap, IntKind.signed, IntKind.bits, Bool.false_and, Bool.false_eq_true, if_false, Int.reducePow]
  omega
theorem wu64_mod (z : Int) : IntKind.u64.wrap z = z % 18446744073709551616 := by
  simp only [IntKind.wrap, IntKind.signed, IntKind.bits, Bool.false_and, Bool.false_eq_true, if_false, Int.reducePow]
theorem ofInt_nat (n : Nat) : BitVec.ofInt 64 (n : Int) = BitVec.ofNat 64 n := by simp
theorem zig_eq (w : Int) (h0 : -9223372036854775808 ≤ w) (h1 : w ≤ 9223372036854775807) : zig w = zigN w := by
  unfold zig zigN
  have e1 : IntKind.u64.wrap (IntKind.i64.wrap (w * 2 ^ (min (1 : Int).toNat IntKind.i64.bits))) = (2 * w) % 18446744073709551616 := by
    rw [show min (1 : Int).toNat IntKind.i64.bits = 1 from rfl, wu64_mod]
    simp only [IntKind.wrap, IntKind.signed, IntKind.bits, Bool.true_and, Int.reducePow]
    split <;> omega
  rw [e1, show min (63 : Int).toNat IntKind.i64.bits = 63 from rfl]
  by_cases h : 0 ≤ w
  · rw [if_pos h, show w.fdiv (2 ^ 63) = 0 by rw [Int.fdiv_eq_ediv_of_nonneg _ (by decide)]; omega]
    rw [show IntKind.u64.wrap 0 = 0 from rfl, show IntKind.u64.bits = 64 from rfl, show BitVec.ofInt 64 0 = 0#64 from rfl, BitVec.xor_zero]
    obtain ⟨k, rfl⟩ := Int.eq_ofNat_of_zero_le h
    rw [show (2 * (k : Int)) % 18446744073709551616 = ((2 * k : Nat) : Int) by omega, ofInt_nat, BitVec.toNat_ofNat, Nat.mod_eq_of_lt (by omega), wu64 (by omega) (by omega)]
    omega
  · rw [if_neg h, show w.fdiv (2 ^ 63) = -1 by rw [Int.fdiv_eq_ediv_of_nonneg _ (by decide)]; omega]
    rw [show IntKind.u64.wrap (-1) = ((18446744073709551615 : Nat) : Int) from rfl, show IntKind.u64.bits = 64 from rfl, ofInt_nat, show BitVec.ofNat 64 18446744073709551615 = BitVec.allOnes 64 from rfl, BitVec.xor_allOnes, BitVec.toNat_not]
    obtain ⟨k, hk⟩ := Int.eq_ofNat_of_zero_le (a := (2 * w) % 18446744073709551616) (by omega)
    rw [hk, ofInt_nat, BitVec.toNat_ofNat, Nat.mod_eq_of_lt (by omega), wu64 (by omega) (by omega)]
    omega
end Go.Proofs.YtffhoknkfohfgaaDoor.am

namespace Go.Proofs.YtffhoknkfohfgaaDoor.ws
open Go Go.RowKit Go.Lib

theorem maskN (a : Nat) (ha : a < 18446744073709551616) : bits .and .u64 (a : Int) 4294967295 = ((a % 4294967296 : Nat) : Int) := by
  have h := bits_and_u64_nat a 4294967295 ha (by omega)
  have e : a &&& 4294967295 = a % 4294967296 := Nat.and_two_pow_sub_one_eq_mod a 32
  rw [e] at h
  exact h
theorem divN (a : Nat) : (a : Int) / 4294967296 = ((a / 4294967296 : Nat) : Int) := by omega
theorem mulN (a b : Nat) : (a : Int) * (b : Int) = ((a * b : Nat) : Int) := (Int.natCast_mul a b).symm
theorem addN (a b : Nat) : (a : Int) + (b : Int) = ((a + b : Nat) : Int) := (Int.natCast_add a b).symm
theorem wrapN (a : Nat) (ha : a < 18446744073709551616) : IntKind.u64.wrap (a : Int) = (a : Int) := by rw [IntKind.wrap_u64]; omega
theorem wrapM (a : Nat) : IntKind.u64.wrap (a : Int) = ((a % 18446744073709551616 : Nat) : Int) := by rw [IntKind.wrap_u64]; omega

set_option maxHeartbeats 1000000 in
theorem mul64_any (x y : Nat) (hx : x < 18446744073709551616) (hy : y < 18446744073709551616) (w : World) :
    Calls Tryd.prog 76 #[.int .u64 x, .int .u64 y] w fun e w' => e = .returned (.tuple #[.int .u64 ((x * y / 18446744073709551616 : Nat) : Int), .int .u64 ((x * y % 18446744073709551616 : Nat) : Int)]) ∧ w = w' := by
  obtain ⟨bd, bt, bw, hhi⟩ := Lib.mul64_hi x y hx hy
  have ba := Lib.half_mul_le (a := x / 4294967296) (b := y / 4294967296) (by omega) (by omega)
  have bb := Lib.half_mul_le (a := x / 4294967296) (b := y % 4294967296) (by omega) (by omega)
  have bc := Lib.half_mul_le (a := x % 4294967296) (b := y / 4294967296) (by omega) (by omega)
  have ba' : x / 4294967296 * (y / 4294967296) < 18446744073709551616 := by omega
  have bb' : x / 4294967296 * (y % 4294967296) < 18446744073709551616 := by omega
  have bc' : x % 4294967296 * (y / 4294967296) < 18446744073709551616 := by omega
  have bh1 : x / 4294967296 * (y / 4294967296) + (x / 4294967296 * (y % 4294967296) + x % 4294967296 * (y % 4294967296) / 4294967296) / 4294967296 < 18446744073709551616 := by omega
  have bh : x / 4294967296 * (y / 4294967296) + (x / 4294967296 * (y % 4294967296) + x % 4294967296 * (y % 4294967296) / 4294967296) / 4294967296 + ((x / 4294967296 * (y % 4294967296) + x % 4294967296 * (y % 4294967296) / 4294967296) % 4294967296 + x % 4294967296 * (y / 4294967296)) / 4294967296 < 18446744073709551616 := by omega
  go_enter Tryd.func76, Tryd.ntmps76
  go_wp2
  simp only [maskN x hx, maskN y hy, divN, mulN, addN, wrapN _ bd, wrapN _ bb', wrapN _ bt, maskN _ bt, wrapN _ bc', wrapN _ bw, wrapN _ ba', wrapN _ bh1, wrapN _ bh, wrapM (x * y)]
  rw [hhi]
  go_ret2
  exact ⟨rfl, rfl⟩

theorem add64_any (x y : Int) (hx : 0 ≤ x) (hy : 0 ≤ y) (w : World) :
    (callFunc 77 #[.int .u64 x, .int .u64 y, .int .u64 0]).run Tryd.prog w =
      .ok (.value (.tuple #[.int .u64 ((x + y) % 18446744073709551616), .int .u64 ((x + y) / 18446744073709551616)])) w := by
  rw [run_callFunc_extern Tryd.func77 (by kernel_rfl) (by kernel_rfl) (by kernel_rfl) (e := add64Entry) (by kernel_rfl), run_add64 x y 0 hx hy (by omega) (by omega)]
  simp only [Result.andThen, Int.add_zero]
theorem num_u64 {a b : Int} (h : a = b) : Value.int .u64 a = Value.int .u64 b := by rw [h]
theorem ret_int3 {k l m : IntKind} {a b c a' b' c' : Int} (h : a = a') (h2 : b = b') (h3 : c = c') : Ending.returned (.tuple #[.int k a, .int l b, .int m c]) = .returned (.tuple #[.int k a', .int l b', .int m c']) := by rw [h, h2, h3]

end Go.Proofs.YtffhoknkfohfgaaDoor.ws

namespace Go.Proofs.YtffhoknkfohfgaaDoor.ws
open Go Go.RowKit Go.Lib

set_option maxHeartbeats 4000000 in
theorem parse_pos (s : ByteArray) (w : World) (hs : s.size ≤ 9223372036854775807) (hne : 0 < s.size) (h0 : (s[0]'hne).toNat ≠ 45) :
    Calls Tryd.prog 53 #[.string s] w fun e w' => e = .returned (.tuple #[.int .i64 (prs s.data.toList).1, .int .i64 (prs s.data.toList).2.1, .int .i64 (prs s.data.toList).2.2]) ∧ w = w' := by
  have P := Lib.hid (prs_pos hne h0)
  have hN : (((s[0]'hne).toNat : Int) == 45) = false := by simp; omega
  have hE := ne_empty hne
  clear h0
  have hz : ((0 : Int) == s.size) = false := by simp; omega
  have hlt : 0 < s.size := hne
  have D := Lib.hid (drop_at s 0 hlt)
  by_cases b : s[0].toNat < 48 ∨ 57 < s[0].toNat
  · have R := Lib.hid (show prs s.data.toList = (0, 10, 0) from by rw [P.out, D.out]; exact pgo_bad (by simp [bad]; omega))
    rcases b with b | b
    all_goals
      go_enter Tryd.func53, Tryd.ntmps53
      go_wp2
      all_goals first | (exfalso; omega) | (go_ret3; rw [R.out]; exact ⟨rfl, rfl⟩)
  have b1 : 48 ≤ s[0].toNat := by omega
  have b2 : s[0].toNat ≤ 57 := by omega
  clear b
  go_enter Tryd.func53, Tryd.ntmps53
  go_wp2_with fail
  go_loop [8, 9] (fun n i => ∃ N k : Nat, 0 ≤ k ∧ k ≤ s.size ∧ n = .int .u64 N ∧ i = .int .i64 k ∧ N ≤ most false ∧ (k = 0 → N = 0) ∧ (0 < k → (N = 0 ↔ (s[0]'hlt).toNat = 48)) ∧ Hid (prs s.data.toList = pgo false 0 (s.data.toList.drop k) k N)) (fun _ i => s.size - (intOf i).toNat)
  case atStart => exact ⟨0, 0, by omega, by omega, rfl, rfl, by omega, fun _ => rfl, fun h => by omega, P.out⟩
  case round =>
    obtain ⟨N, k, hk1, hk, rfl, rfl, hm, hk0, hz0, H⟩ := hrel
    have hml := most_le false
    have HK := Lib.hid hk0
    have HZ := Lib.hid hz0
    clear hk0 hz0
    by_cases hlt' : k < s.size
    · have D' := Lib.hid (drop_at s k hlt')
      by_cases b : s[k].toNat < 48 ∨ 57 < s[k].toNat ∨ (0 < k ∧ N = 0)
      · have R := Lib.hid (show prs s.data.toList = (0, 10, (k : Int)) from by rw [H.out, D'.out]; exact pgo_bad (by simp only [bad, decide_eq_true_eq]; omega))
        rcases b with b | b | ⟨b, bz⟩
        case inr.inr =>
          have b3 : (((s[0]'hlt).toNat : Int) == 48) = true := by have := (HZ.out b).1 bz; simp; omega
          clear bz
          by_cases b1 : s[k].toNat < 48
          · go_wp2
            go_ret3; rw [R.out]; exact ⟨rfl, rfl⟩
          · by_cases b2 : 57 < s[k].toNat
            · go_wp2
              go_ret3; rw [R.out]; exact ⟨rfl, rfl⟩
            · go_wp2
              go_ret3; rw [R.out]; exact ⟨rfl, rfl⟩
        all_goals
          go_wp2
          all_goals first | (exfalso; omega) | (go_ret3; rw [R.out]; exact ⟨rfl, rfl⟩)
      · have c1 : 48 ≤ s[k].toNat := by omega
        have c2 : s[k].toNat ≤ 57 := by omega
        have c3 : k = 0 ∨ (0 < k ∧ (((s[0]'hlt).toNat : Int) == 48) = false) := by
          by_cases hq : k = 0
          · exact .inl hq
          · refine .inr ⟨by omega, ?_⟩
            have := HZ.out (by omega)
            simp; omega
        have NB := Lib.hid (show ¬ (0 < k ∧ N = 0) by omega)
        clear b
        obtain ⟨d, hd⟩ : ∃ d : Nat, d = s[k].toNat - 48 := ⟨_, rfl⟩
        have hd9 : d ≤ 9 := by omega
        have hD := Lib.hid hd
        have hw : IntKind.u8.wrap ((s[k].toNat : Int) - 48) = (d : Int) := by rw [IntKind.wrap_u8]; omega
        clear hd
        have BI := Lib.hid (big_iff false hm hd9)
        have ha := add64_any ((N : Int) * 10 % 18446744073709551616) d (by omega) (by omega)
        by_cases ov : 10 * N + d ≤ most false
        · have NX := Lib.hid (show prs s.data.toList = pgo false 0 (s.data.toList.drop (k + 1)) (k + 1) (10 * N + d) from by
            rw [H.out, D'.out, hD.out]
            refine pgo_go (decide_eq_false ?_)
            have q1 := hD.out
            have q2 := NB.out
            rintro (h | h | h | ⟨h, h2, h3⟩ | h)
            · omega
            · omega
            · exact q2 h
            · cases h
            · omega)
          have ov' : 10 * (N : Int) + d ≤ (most false : Nat) := by omega
          have SM : Hid ((10 * N + d = 0 ↔ (s[0]'hlt).toNat = 48) ∧ 0 < k + 1) := by
            refine ⟨?_, by omega⟩
            rcases c3 with c3 | ⟨c3, c4⟩
            · have := HK.out c3
              have := hD.out
              subst c3
              omega
            · have h1 := HZ.out c3
              have h2 := NB.out
              have h4 : (s[0]'hlt).toNat ≠ 48 := by simp at c4; omega
              omega
          unfold most at ov' hm
          simp only [Bool.false_eq_true, if_false] at ov' hm
          have c5 : k = 0 ∨ (0 < k ∧ (((s[0]'hlt).toNat : Int) == 48) = false) := c3
          clear c3
          rcases c5 with c3 | ⟨c3, c4⟩
          all_goals
            try subst c3
            go_wp2_with (go_at_call 76; refine (mul64_any _ 10 (by omega) (by omega) _).mono ?_; rintro e w' ⟨rfl, rfl⟩)
            all_goals first | (exfalso; omega) | skip
            go_round
            case rel => exact ⟨10 * N + d, _, by omega, by omega, num_u64 (by omega), by go_num, by omega, by omega, fun _ => SM.out.1, NX.out⟩
            case measure => simp [intOf]; omega
        · have R := Lib.hid (show prs s.data.toList = (0, 10, (k : Int)) from by
            rw [H.out, D'.out]
            refine pgo_bad (decide_eq_true ?_)
            have q1 := hD.out
            omega)
          have ov' : ((most false : Nat) : Int) < 10 * (N : Int) + d := by omega
          unfold most at ov' hm
          simp only [Bool.false_eq_true, if_false] at ov' hm
          rcases c3 with c3 | ⟨c3, c4⟩
          all_goals
            try subst c3
            go_wp2_with (go_at_call 76; refine (mul64_any _ 10 (by omega) (by omega) _).mono ?_; rintro e w' ⟨rfl, rfl⟩)
            all_goals first | (exfalso; omega) | (go_ret3; rw [R.out]; exact ⟨rfl, rfl⟩)
    · obtain rfl : k = s.size := by omega
      have R := Lib.hid (show prs s.data.toList = (okV false N, 0, 0) from by
        rw [H.out, drop_end s _ (Nat.le_refl _)]
        unfold pgo
        rw [if_neg (by omega)])
      unfold most at hm
      simp only [Bool.false_eq_true, if_false] at hm
      go_wp2
      go_ret3
      rw [R.out]
      exact ⟨ret_int3 (by show _ = (N : Int); first | rfl | (simp only [wrap64, IntKind.wrap_u64]; omega)) rfl rfl, rfl⟩

end Go.Proofs.YtffhoknkfohfgaaDoor.ws

namespace Go.Proofs.YtffhoknkfohfgaaDoor.ws
open Go Go.RowKit Go.Lib

set_option maxHeartbeats 4000000 in
theorem parse_neg (s : ByteArray) (w : World) (hs : s.size ≤ 9223372036854775807) (hne : 0 < s.size) (h0 : (s[0]'hne).toNat = 45) :
    Calls Tryd.prog 53 #[.string s] w fun e w' => e = .returned (.tuple #[.int .i64 (prs s.data.toList).1, .int .i64 (prs s.data.toList).2.1, .int .i64 (prs s.data.toList).2.2]) ∧ w = w' := by
  have P := Lib.hid (prs_neg hne h0)
  have hN : (((s[0]'hne).toNat : Int) == 45) = true := by simp; omega
  have hE := ne_empty hne
  clear h0
  by_cases h1 : s.size = 1
  · have hz : ((1 : Int) == s.size) = true := by simp; omega
    have R := Lib.hid (show prs s.data.toList = (0, 10, 1) from by rw [P.out, drop_end s 1 (by omega)]; rfl)
    clear h1
    go_enter Tryd.func53, Tryd.ntmps53
    go_wp2
    go_ret3
    rw [R.out]
    exact ⟨rfl, rfl⟩
  have hz : ((1 : Int) == s.size) = false := by simp; omega
  have hlt : 1 < s.size := by omega
  clear h1
  have D := Lib.hid (drop_at s 1 hlt)
  by_cases b : s[1].toNat < 48 ∨ 57 < s[1].toNat ∨ s[1].toNat = 48
  · have R := Lib.hid (show prs s.data.toList = (0, 10, 1) from by rw [P.out, D.out]; exact pgo_bad (by simp [bad]; omega))
    rcases b with b | b | b
    case inr.inr =>
      have b3 : ((s[1].toNat : Int) == 48) = true := by simp; omega
      have b1 : 48 ≤ s[1].toNat := by omega
      have b2 : s[1].toNat ≤ 57 := by omega
      clear b
      go_enter Tryd.func53, Tryd.ntmps53
      go_wp2
      go_ret3; rw [R.out]; exact ⟨rfl, rfl⟩
    all_goals
      go_enter Tryd.func53, Tryd.ntmps53
      go_wp2
      all_goals first | (exfalso; omega) | (go_ret3; rw [R.out]; exact ⟨rfl, rfl⟩)
  have b1 : 48 ≤ s[1].toNat := by omega
  have b2 : s[1].toNat ≤ 57 := by omega
  have b3 : ((s[1].toNat : Int) == 48) = false := by simp; omega
  have b4 := Lib.hid (show s[1].toNat ≠ 48 by omega)
  clear b
  go_enter Tryd.func53, Tryd.ntmps53
  go_wp2_with fail
  go_loop [8, 9] (fun n i => ∃ N k : Nat, 1 ≤ k ∧ k ≤ s.size ∧ n = .int .u64 N ∧ i = .int .i64 k ∧ N ≤ most true ∧ (k = 1 → N = 0) ∧ (1 < k → (N = 0 ↔ (s[1]'hlt).toNat = 48)) ∧ Hid (prs s.data.toList = pgo true 1 (s.data.toList.drop k) k N)) (fun _ i => s.size - (intOf i).toNat)
  case atStart => exact ⟨0, 1, by omega, by omega, rfl, rfl, by omega, fun _ => rfl, fun h => by omega, P.out⟩
  case round =>
    obtain ⟨N, k, hk1, hk, rfl, rfl, hm, hk0, hz0, H⟩ := hrel
    have hml := most_le true
    have HK := Lib.hid hk0
    have HZ := Lib.hid hz0
    clear hk0 hz0
    by_cases hlt' : k < s.size
    · have D' := Lib.hid (drop_at s k hlt')
      by_cases b : s[k].toNat < 48 ∨ 57 < s[k].toNat ∨ (1 < k ∧ N = 0)
      · have R := Lib.hid (show prs s.data.toList = (0, 10, (k : Int)) from by rw [H.out, D'.out]; exact pgo_bad (by simp only [bad, decide_eq_true_eq]; omega))
        rcases b with b | b | ⟨b, bz⟩
        case inr.inr =>
          exact absurd ((HZ.out b).1 bz) b4.out
        all_goals
          go_wp2
          all_goals first | (exfalso; omega) | (go_ret3; rw [R.out]; exact ⟨rfl, rfl⟩)
      · have c1 : 48 ≤ s[k].toNat := by omega
        have c2 : s[k].toNat ≤ 57 := by omega
        have c3 : k = 1 ∨ (1 < k ∧ (((s[1]'hlt).toNat : Int) == 48) = false) := by
          by_cases hq : k = 1
          · exact .inl hq
          · refine .inr ⟨by omega, ?_⟩
            have := HZ.out (by omega)
            simp; omega
        have NB := Lib.hid (show ¬ (1 < k ∧ N = 0) by omega)
        clear b
        obtain ⟨d, hd⟩ : ∃ d : Nat, d = s[k].toNat - 48 := ⟨_, rfl⟩
        have hd9 : d ≤ 9 := by omega
        have hD := Lib.hid hd
        have hw : IntKind.u8.wrap ((s[k].toNat : Int) - 48) = (d : Int) := by rw [IntKind.wrap_u8]; omega
        clear hd
        have BI := Lib.hid (big_iff true hm hd9)
        have ha := add64_any ((N : Int) * 10 % 18446744073709551616) d (by omega) (by omega)
        by_cases ov : 10 * N + d ≤ most true
        · have NX := Lib.hid (show prs s.data.toList = pgo true 1 (s.data.toList.drop (k + 1)) (k + 1) (10 * N + d) from by
            rw [H.out, D'.out, hD.out]
            refine pgo_go (decide_eq_false ?_)
            have q1 := hD.out
            have q2 := NB.out
            rintro (h | h | h | ⟨h, h2, h3⟩ | h)
            · omega
            · omega
            · exact q2 h
            · subst h2; exact b4.out h3
            · omega)
          have ov' : 10 * (N : Int) + d ≤ (most true : Nat) := by omega
          have SM : Hid ((10 * N + d = 0 ↔ (s[1]'hlt).toNat = 48) ∧ 1 < k + 1) := by
            refine ⟨?_, by omega⟩
            rcases c3 with c3 | ⟨c3, c4⟩
            · have := HK.out c3
              have := hD.out
              subst c3
              omega
            · have h1 := HZ.out c3
              have h2 := NB.out
              have h4 : (s[1]'hlt).toNat ≠ 48 := by simp at c4; omega
              omega
          unfold most at ov' hm
          simp only [if_true] at ov' hm
          have c5 : k = 1 ∨ (1 < k ∧ (((s[1]'hlt).toNat : Int) == 48) = false) := c3
          clear c3
          rcases c5 with c3 | ⟨c3, c4⟩
          all_goals
            try subst c3
            go_wp2_with (go_at_call 76; refine (mul64_any _ 10 (by omega) (by omega) _).mono ?_; rintro e w' ⟨rfl, rfl⟩)
            all_goals first | (exfalso; omega) | skip
            go_round
            case rel => exact ⟨10 * N + d, _, by omega, by omega, num_u64 (by omega), by go_num, by omega, by omega, fun _ => SM.out.1, NX.out⟩
            case measure => simp [intOf]; omega
        · have R := Lib.hid (show prs s.data.toList = (0, 10, (k : Int)) from by
            rw [H.out, D'.out]
            refine pgo_bad (decide_eq_true ?_)
            have q1 := hD.out
            omega)
          have ov' : ((most true : Nat) : Int) < 10 * (N : Int) + d := by omega
          unfold most at ov' hm
          simp only [if_true] at ov' hm
          rcases c3 with c3 | ⟨c3, c4⟩
          all_goals
            try subst c3
            go_wp2_with (go_at_call 76; refine (mul64_any _ 10 (by omega) (by omega) _).mono ?_; rintro e w' ⟨rfl, rfl⟩)
            all_goals first | (exfalso; omega) | (go_ret3; rw [R.out]; exact ⟨rfl, rfl⟩)
    · obtain rfl : k = s.size := by omega
      have R := Lib.hid (show prs s.data.toList = (okV true N, 0, 0) from by
        rw [H.out, drop_end s _ (Nat.le_refl _)]
        unfold pgo
        rw [if_neg (by omega)])
      unfold most at hm
      simp only [if_true] at hm
      go_wp2
      go_ret3
      rw [R.out]
      exact ⟨ret_int3 (by show _ = -(N : Int); first | rfl | (simp only [wrap64, IntKind.wrap_u64]; omega)) rfl rfl, rfl⟩

end Go.Proofs.YtffhoknkfohfgaaDoor.ws

namespace Go.Proofs.YtffhoknkfohfgaaDoor.ws
open Go Go.RowKit Go.Lib

/-- what stands in the block after j digits -/
def prRow (l : List UInt8) : Array Value := (List.replicate (20 - l.length) (Value.int .u8 0) ++ l.map fun c => Value.int .u8 c.toNat).toArray

theorem prRow_eq (l : List UInt8) : (prRow l).toList = List.replicate (20 - l.length) (Value.int .u8 0) ++ l.map fun c => Value.int .u8 c.toNat := rfl
theorem prRow_get (l : List UInt8) (p : Nat) (hp : 1 ≤ p) (hl : p + l.length = 20) : (prRow l)[p - 1]? = some (.int .u8 0) := by
  unfold prRow
  have h : 20 - l.length = (p - 1) + 1 := by omega
  rw [List.getElem?_toArray, List.getElem?_append_left (by simp; omega), h, List.getElem?_replicate, if_pos (by omega)]
theorem prRow_set (l : List UInt8) (c : UInt8) (p : Nat) (hp : 1 ≤ p) (hl : p + l.length = 20) : (prRow l).setIfInBounds (p - 1) (.int .u8 c.toNat) = prRow (c :: l) := by
  unfold prRow
  have h : 20 - l.length = (p - 1) + 1 := by omega
  have h' : 20 - (c :: l).length = p - 1 := by simp; omega
  rw [h, h', List.setIfInBounds_toArray, List.replicate_succ', List.append_assoc]
  congr 1
  rw [List.set_append_right _ _ (by simp)]
  simp
theorem prRow_at (l : List UInt8) (p i : Nat) (hl : p + l.length = 20) (hi : i < l.length) : (prRow l)[p + i]? = some (.int .u8 (l[i]'hi).toNat) := by
  unfold prRow
  rw [List.getElem?_toArray, List.getElem?_append_right (by simp; omega)]
  simp [show p + i - (20 - l.length) = i by omega, hi]
theorem slice_end (B p : Nat) (hp : 1 ≤ p) (hp2 : p ≤ 20) (W : World) :
    (Instr.sliceAt 109 (.pointer (some ⟨B, 0, none⟩)) (some (.int .i64 ((p : Int) - 1))) none none).run Tryd.prog W = .ok (.slice (some ⟨B, p - 1, none⟩) (21 - p) (21 - p)) W := by
  have hal : Tryd.prog.arrayLen 109 = 20 := by kernel_rfl
  have hu : Tryd.prog.underlying 109 = some (.array (Tryd.prog.arrayLen 109) (Tryd.prog.elem 109)) := by kernel_rfl
  have hz : ∀ W, (sizeOf (Tryd.prog.elem 109)).run Tryd.prog W = .ok 1 W := fun W => by kernel_rfl
  rw [run_sliceAt_array_l W _ _ hu .i64 _ (by omega) (by rw [hal]; omega), hz]
  simp only [Result.andThen, slicedAt, hal]
  have e : ((p : Int) - 1).toNat = p - 1 := by omega
  rw [e, if_neg (by omega)]
  have e2 : (⟨B, 0, none⟩ : Addr).add ((p - 1) * 1) = ⟨B, p - 1, none⟩ := by
    unfold Addr.add
    by_cases h : (p - 1) * 1 = 0
    · rw [if_pos h, show p - 1 = 0 by omega]
    · rw [if_neg h]; simp
  rw [e2, show 20 - (p - 1) = 21 - p by omega]
theorem conv_end (l : List UInt8) (p n : Nat) (w : World) (hl : p + l.length = 20) (hn : l.length = n) :
    (convert 38 9 (.slice (some ⟨w.heap.size, p, none⟩) n n)).run Tryd.prog (w.alloc (.cells (prRow l) 109)) = .ok (.string ⟨l.toArray⟩) (w.alloc (.cells (prRow l) 109)) := by
  subst hn
  refine run_convert_bytes_back _ _ _ 5 _ _ l Tryd.underlying38 Tryd.underlying5 Tryd.underlying9 fun j hj => ?_
  have e : (⟨w.heap.size, p, none⟩ : Addr).add j = ⟨w.heap.size, p + j, none⟩ := by
    unfold Addr.add; split <;> simp_all
  rw [e, World.cell?_alloc_at _ _ _ _ rfl, prRow_at l p j hl hj]
theorem dig_toNat (n : Nat) : (dch (n % 10)).toNat = 48 + n % 10 := dch_toNat (by omega)

theorem pow_bound {n j : Nat} (h : n * 10 ^ j ≤ 9223372036854775808) (hn : 0 < n) : j ≤ 18 := by
  apply Decidable.byContradiction
  intro hj
  have h1 : 10 ^ 19 ≤ 10 ^ j := Nat.pow_le_pow_right (by decide) (by omega)
  have h2 : 1 * 10 ^ j ≤ n * 10 ^ j := Nat.mul_le_mul_right _ hn
  have h3 : (10 : Nat) ^ 19 = 10000000000000000000 := by decide
  omega
theorem pow_step {n j N : Nat} (h : n * 10 ^ j ≤ N) : n / 10 * 10 ^ (j + 1) ≤ N := by
  have h1 : n / 10 * 10 ≤ n := Nat.div_mul_le_self n 10
  have h2 := Nat.mul_le_mul_right (10 ^ j) h1
  have h3 : n / 10 * 10 ^ (j + 1) = n / 10 * 10 * 10 ^ j := by rw [Nat.pow_succ, Nat.mul_assoc, Nat.mul_comm 10]
  omega

def rowOf (p : Nat) (d : Int) (l : List UInt8) : Array Value := (prRow l).setIfInBounds (p - 1) (.int .u8 d)
theorem rowOf_eq (p m : Nat) (l : List UInt8) (hp : 1 ≤ p) (hl : p + l.length = 20) : (prRow l).setIfInBounds (p - 1) (.int .u8 (48 + (m : Int) % 10)) = prRow (dch (m % 10) :: l) := by
  rw [← prRow_set l _ p hp hl, dig_toNat]
  rfl
theorem minus_eq (p : Nat) (l : List UInt8) (hp : 1 ≤ p) (hl : p + l.length = 20) : (prRow l).setIfInBounds (p - 1) (.int .u8 45) = prRow (45 :: l) := prRow_set l 45 p hp hl

set_option maxRecDepth 100000 in
set_option maxHeartbeats 1000000 in
theorem print_pos (N : Nat) (w : World) (hN : N ≤ 9223372036854775807) :
    Calls Tryd.prog 43 #[.int .i64 N] w fun e w' => e = .returned (.string ⟨(prn N).toArray⟩) ∧ Below w.heap.size w w' := by
  have R : Hid (prn N = dig N) := by
    show prn N = dig N
    unfold prn; rw [if_neg (by omega)]; rfl
  go_enter Tryd.func43, Tryd.ntmps43
  go_wp2
  go_loopw [4, 5] (fun a n wr => ∃ (l : List UInt8) (p m : Nat), p + l.length = 20 ∧ 1 ≤ p ∧ a = .int .i64 p ∧ n = .int .u64 m ∧ m ≤ N ∧ Hid ((0 < l.length → 0 < m) ∧ m * 10 ^ l.length ≤ N ∧ dig N = dig m ++ l) ∧ wr = w.alloc (.cells (prRow l) 109)) (fun a _ _ => (intOf a).toNat)
  case atStart => exact ⟨[], 20, N, rfl, by omega, rfl, rfl, by omega, ⟨fun h => absurd h (by decide), by simp, by simp⟩, rfl⟩
  case round =>
    obtain ⟨l, p, m, hp, hp1, rfl, rfl, hmN, H, rfl⟩ := hrel
    have hg := prRow_get l p hp1 hp
    have hsl := slice_end w.heap.size p hp1 (by omega)
    have hrow := rowOf_eq p m l hp1 hp
    by_cases h9 : m < 10
    · have hz : (((m : Int) / 10) == 0) = true := by simp; omega
      have hcv := conv_end (dch (m % 10) :: l) (p - 1) (21 - p) w (by simp; omega) (by simp; omega)
      go_wp2
      go_ret
      refine ⟨ret_str ?_, (Below.refl _ _).alloc (Nat.le_refl _) _⟩
      rw [R.out, H.out.2.2, dig_small h9, show m % 10 = m by omega]
      rfl
    · have hz : (((m : Int) / 10) == 0) = false := by simp; omega
      go_wp2
      have hl18 : l.length + 1 ≤ 18 := pow_bound (n := m / 10) (by have := pow_step H.out.2.1; omega) (by omega)
      go_roundw
      case rel =>
        exact ⟨dch (m % 10) :: l, p - 1, m / 10, by simp; omega, by omega, by go_num, by go_num, by omega, ⟨fun _ => by omega, pow_step H.out.2.1, by rw [H.out.2.2, dig_big h9, List.append_assoc]; rfl⟩, rfl⟩
      case measure => simp [intOf]; omega

set_option maxRecDepth 100000 in
set_option maxHeartbeats 1000000 in
theorem print_neg (N : Nat) (w : World) (hN : N ≤ 9223372036854775808) (h0 : 0 < N) :
    Calls Tryd.prog 43 #[.int .i64 (-(N : Int))] w fun e w' => e = .returned (.string ⟨(prn (-(N : Int))).toArray⟩) ∧ Below w.heap.size w w' := by
  have R : Hid (prn (-(N : Int)) = 45 :: dig N) := by
    show prn _ = _
    unfold prn; rw [if_pos (by omega), Int.neg_neg]; rfl
  have hlt : -(N : Int) < 0 := by omega
  have hw : IntKind.u64.wrap (-(IntKind.u64.wrap (-(N : Int)))) = N := by rw [IntKind.wrap_u64, IntKind.wrap_u64]; omega
  go_enter Tryd.func43, Tryd.ntmps43
  go_wp2
  go_loopw [4, 5] (fun a n wr => ∃ (l : List UInt8) (p m : Nat), p + l.length = 20 ∧ 2 ≤ p ∧ a = .int .i64 p ∧ n = .int .u64 m ∧ m ≤ N ∧ Hid ((0 < l.length → 0 < m) ∧ m * 10 ^ l.length ≤ N ∧ dig N = dig m ++ l) ∧ wr = w.alloc (.cells (prRow l) 109)) (fun a _ _ => (intOf a).toNat)
  case atStart => exact ⟨[], 20, N, rfl, by omega, rfl, rfl, by omega, ⟨fun h => absurd h (by decide), by simp, by simp⟩, rfl⟩
  case round =>
    obtain ⟨l, p, m, hp, hp1, rfl, rfl, hmN, H, rfl⟩ := hrel
    have hg := prRow_get l p (by omega) hp
    have hrow := rowOf_eq p m l (by omega) hp
    by_cases h9 : m < 10
    · have hz : (((m : Int) / 10) == 0) = true := by simp; omega
      have hp' : p - 1 + (dch (m % 10) :: l).length = 20 := by simp; omega
      have hg' := prRow_get (dch (m % 10) :: l) (p - 1) (by omega) hp'
      have hmin := minus_eq (p - 1) (dch (m % 10) :: l) (by omega) hp'
      have hsl := slice_end w.heap.size (p - 1) (by omega) (by omega)
      have hcv := conv_end (45 :: dch (m % 10) :: l) (p - 1 - 1) (21 - (p - 1)) w (by simp; omega) (by simp; omega)
      have e : ((p - 1 : Nat) : Int) = (p : Int) - 1 := by omega
      rw [e] at hsl
      clear e hp'
      go_wp2
      go_ret
      refine ⟨ret_str ?_, (Below.refl _ _).alloc (Nat.le_refl _) _⟩
      rw [R.out, H.out.2.2, dig_small h9, show m % 10 = m by omega]
      rfl
    · have hz : (((m : Int) / 10) == 0) = false := by simp; omega
      go_wp2
      have hl18 : l.length + 1 ≤ 18 := pow_bound (n := m / 10) (by have := pow_step H.out.2.1; omega) (by omega)
      go_roundw
      case rel =>
        exact ⟨dch (m % 10) :: l, p - 1, m / 10, by simp; omega, by omega, by go_num, by go_num, by omega, ⟨fun _ => by omega, pow_step H.out.2.1, by rw [H.out.2.2, dig_big h9, List.append_assoc]; rfl⟩, rfl⟩
      case measure => simp [intOf]; omega

theorem print_any (v : Int) (w : World) (h1 : -9223372036854775808 ≤ v) (h2 : v ≤ 9223372036854775807) :
    Calls Tryd.prog 43 #[.int .i64 v] w fun e w' => e = .returned (.string ⟨(prn v).toArray⟩) ∧ Below w.heap.size w w' := by
  by_cases h : 0 ≤ v
  · obtain ⟨N, rfl⟩ := Int.eq_ofNat_of_zero_le h
    exact print_pos N w (by omega)
  · obtain ⟨N, hN⟩ := Int.eq_ofNat_of_zero_le (a := -v) (by omega)
    obtain rfl : v = -(N : Int) := by omega
    exact print_neg N w (by omega) (by omega)
end Go.Proofs.YtffhoknkfohfgaaDoor.ws

namespace Go.Proofs.YtffhoknkfohfgaaDoor.ws
open Go Go.RowKit Go.Lib

theorem parse_none (s : ByteArray) (w : World) (h : s.size = 0) :
    Calls Tryd.prog 53 #[.string s] w fun e w' => e = .returned (.tuple #[.int .i64 (prs s.data.toList).1, .int .i64 (prs s.data.toList).2.1, .int .i64 (prs s.data.toList).2.2]) ∧ w = w' := by
  have R := Lib.hid (prs_none h)
  have h1 := is_empty h
  have h2 : ((0 : Int) == s.size) = true := by rw [h]; rfl
  have h3 : s.toList.isEmpty = true := by rw [h1]; rfl
  clear h h1
  go_enter Tryd.func53, Tryd.ntmps53
  go_wp2
  go_ret3
  rw [R.out]
  exact ⟨rfl, rfl⟩
theorem parse_any (s : ByteArray) (w : World) (hs : s.size ≤ 9223372036854775807) :
    Calls Tryd.prog 53 #[.string s] w fun e w' => e = .returned (.tuple #[.int .i64 (prs s.data.toList).1, .int .i64 (prs s.data.toList).2.1, .int .i64 (prs s.data.toList).2.2]) ∧ w = w' := by
  by_cases h : s.size = 0
  · exact parse_none s w h
  · by_cases h0 : (s[0]'(by omega)).toNat = 45
    · exact parse_neg s w hs (by omega) h0
    · exact parse_pos s w hs (by omega) h0
end Go.Proofs.YtffhoknkfohfgaaDoor.ws
