/- The seat's tables of types and functions, and how each function is called. -/
import Derived.Test.YtfkkigbbejhfbaaSee
import Derived.Test.YtfkkigbbejhfbaaProg
import Derived.KernelRfl
namespace Go.Proofs.Ytfkkigbbejhfbaa
open Go Idl
def tys : List (Nat × TI) := [
  (1, ⟨.other, 1, 8, [.nilf], .leaf (.any), .vals 1⟩),
  (2, ⟨.int .i64, 1, 8, [.int .i64 0], .leaf (.int .i64), .ints .i64⟩),
  (3, ⟨.int .i64, 1, 8, [.int .i64 0], .leaf (.int .i64), .ints .i64⟩),
  (4, ⟨.bool, 1, 1, [.bool false], .leaf (.bool), .bools⟩),
  (5, ⟨.int .u8, 1, 1, [.int .u8 0], .leaf (.int .u8), .ints .u8⟩),
  (6, ⟨.int .u8, 1, 1, [.int .u8 0], .leaf (.int .u8), .ints .u8⟩),
  (7, ⟨.struct [(0, 2), (1, 3), (2, 4), (3, 6)], 4, 24, [.int .i64 0, .int .i64 0, .bool false, .int .u8 0], .agg [.int .i64, .int .i64, .bool, .int .u8], .vals 4⟩),
  (8, ⟨.struct [(0, 2), (1, 3), (2, 4), (3, 6)], 4, 24, [.int .i64 0, .int .i64 0, .bool false, .int .u8 0], .agg [.int .i64, .int .i64, .bool, .int .u8], .vals 4⟩),
  (9, ⟨.str, 1, 16, [.str ByteArray.empty], .leaf (.str), .strs⟩),
  (10, ⟨.str, 1, 16, [.str ByteArray.empty], .leaf (.str), .strs⟩),
  (11, ⟨.str, 1, 16, [.str ByteArray.empty], .leaf (.str), .strs⟩),
  (12, ⟨.int .u64, 1, 8, [.int .u64 0], .leaf (.int .u64), .ints .u64⟩),
  (13, ⟨.struct [(0, 9), (1, 12)], 2, 24, [.str ByteArray.empty, .int .u64 0], .agg [.str, .int .u64], .vals 2⟩),
  (14, ⟨.struct [(0, 9), (1, 12)], 2, 24, [.str ByteArray.empty, .int .u64 0], .agg [.str, .int .u64], .vals 2⟩),
  (15, ⟨.ptr 150, 1, 8, [.nilp], .leaf (.any), .vals 1⟩),
  (16, ⟨.ptr 153, 1, 8, [.nilp], .leaf (.any), .vals 1⟩),
  (17, ⟨.ptr 161, 1, 8, [.nilp], .leaf (.any), .vals 1⟩),
  (18, ⟨.struct [(0, 17)], 1, 8, [.nilp], .agg [.any], .vals 1⟩),
  (19, ⟨.struct [(0, 17)], 1, 8, [.nilp], .agg [.any], .vals 1⟩),
  (21, ⟨.int .i32, 1, 4, [.int .i32 0], .leaf (.int .i32), .ints .i32⟩),
  (22, ⟨.sl 25, 1, 24, [.sl false (.ints .u32 ([] : List Int))], .leaf (.sl false (.ints .u32)), .vals 1⟩),
  (23, ⟨.other, 1, 8, [.nilf], .leaf (.any), .vals 1⟩),
  (24, ⟨.sl 3, 1, 24, [.sl false (.ints .i64 ([] : List Int))], .leaf (.sl false (.ints .i64)), .vals 1⟩),
  (25, ⟨.int .u32, 1, 4, [.int .u32 0], .leaf (.int .u32), .ints .u32⟩),
  (26, ⟨.other, 1, 8, [.nilf], .leaf (.any), .vals 1⟩),
  (27, ⟨.sl 5, 1, 24, [.sl false (.ints .u8 ([] : List Int))], .leaf (.sl false (.ints .u8)), .vals 1⟩),
  (28, ⟨.int .i64, 1, 8, [.int .i64 0], .leaf (.int .i64), .ints .i64⟩),
  (30, ⟨.other, 1, 8, [.nilf], .leaf (.any), .vals 1⟩),
  (31, ⟨.other, 1, 8, [.nilf], .leaf (.any), .vals 1⟩),
  (32, ⟨.other, 1, 8, [.nilf], .leaf (.any), .vals 1⟩),
  (33, ⟨.ptr 84, 1, 8, [.nilp], .leaf (.any), .vals 1⟩),
  (34, ⟨.other, 1, 8, [.nilf], .leaf (.any), .vals 1⟩),
  (35, ⟨.other, 1, 8, [.nilf], .leaf (.any), .vals 1⟩),
  (36, ⟨.other, 1, 8, [.nilf], .leaf (.any), .vals 1⟩),
  (37, ⟨.other, 1, 8, [.nilf], .leaf (.any), .vals 1⟩),
  (38, ⟨.other, 1, 8, [.nilf], .leaf (.any), .vals 1⟩),
  (39, ⟨.sl 9, 1, 24, [.sl false (.strs ([] : List ByteArray))], .leaf (.sl false (.strs)), .vals 1⟩),
  (40, ⟨.other, 1, 8, [.nilf], .leaf (.any), .vals 1⟩),
  (41, ⟨.other, 1, 8, [.nilf], .leaf (.any), .vals 1⟩),
  (42, ⟨.other, 1, 8, [.nilf], .leaf (.any), .vals 1⟩),
  (43, ⟨.other, 1, 8, [.nilf], .leaf (.any), .vals 1⟩),
  (44, ⟨.other, 1, 8, [.nilf], .leaf (.any), .vals 1⟩),
  (45, ⟨.ptr 94, 1, 8, [.nilp], .leaf (.any), .vals 1⟩),
  (46, ⟨.other, 1, 8, [.nilf], .leaf (.any), .vals 1⟩),
  (47, ⟨.other, 1, 8, [.nilf], .leaf (.any), .vals 1⟩),
  (48, ⟨.other, 1, 8, [.nilf], .leaf (.any), .vals 1⟩),
  (49, ⟨.other, 1, 8, [.nilf], .leaf (.any), .vals 1⟩),
  (50, ⟨.other, 1, 8, [.nilf], .leaf (.any), .vals 1⟩),
  (51, ⟨.other, 1, 8, [.nilf], .leaf (.any), .vals 1⟩),
  (52, ⟨.other, 1, 8, [.nilf], .leaf (.any), .vals 1⟩),
  (53, ⟨.other, 1, 8, [.nilf], .leaf (.any), .vals 1⟩),
  (54, ⟨.int .u16, 1, 2, [.int .u16 0], .leaf (.int .u16), .ints .u16⟩),
  (55, ⟨.other, 1, 8, [.nilf], .leaf (.any), .vals 1⟩),
  (57, ⟨.other, 1, 8, [.nilf], .leaf (.any), .vals 1⟩),
  (58, ⟨.other, 1, 8, [.nilf], .leaf (.any), .vals 1⟩),
  (60, ⟨.other, 1, 8, [.nilf], .leaf (.any), .vals 1⟩),
  (61, ⟨.other, 1, 8, [.nilf], .leaf (.any), .vals 1⟩),
  (62, ⟨.other, 1, 8, [.nilf], .leaf (.any), .vals 1⟩),
  (64, ⟨.other, 1, 8, [.nilf], .leaf (.any), .vals 1⟩),
  (65, ⟨.other, 1, 8, [.nilf], .leaf (.any), .vals 1⟩),
  (66, ⟨.other, 1, 8, [.nilf], .leaf (.any), .vals 1⟩),
  (67, ⟨.other, 1, 8, [.nilf], .leaf (.any), .vals 1⟩),
  (68, ⟨.sl 4, 1, 24, [.sl false (.bools ([] : List Bool))], .leaf (.sl false (.bools)), .vals 1⟩),
  (69, ⟨.struct [(0, 3), (1, 24), (2, 68)], 3, 56, [.int .i64 0, .sl false (.ints .i64 ([] : List Int)), .sl false (.bools ([] : List Bool))], .agg [.int .i64, .sl false (.ints .i64), .sl false (.bools)], .vals 3⟩),
  (70, ⟨.struct [(0, 3), (1, 24), (2, 68)], 3, 56, [.int .i64 0, .sl false (.ints .i64 ([] : List Int)), .sl false (.bools ([] : List Bool))], .agg [.int .i64, .sl false (.ints .i64), .sl false (.bools)], .vals 3⟩),
  (71, ⟨.other, 1, 8, [.nilf], .leaf (.any), .vals 1⟩),
  (72, ⟨.other, 1, 8, [.nilf], .leaf (.any), .vals 1⟩),
  (73, ⟨.other, 1, 8, [.nilf], .leaf (.any), .vals 1⟩),
  (74, ⟨.other, 1, 8, [.nilf], .leaf (.any), .vals 1⟩),
  (75, ⟨.other, 1, 8, [.nilf], .leaf (.any), .vals 1⟩),
  (76, ⟨.other, 1, 8, [.nilf], .leaf (.any), .vals 1⟩),
  (77, ⟨.other, 1, 8, [.nilf], .leaf (.any), .vals 1⟩),
  (78, ⟨.other, 1, 8, [.nilf], .leaf (.any), .vals 1⟩),
  (79, ⟨.other, 1, 8, [.nilf], .leaf (.any), .vals 1⟩),
  (80, ⟨.other, 1, 8, [.nilf], .leaf (.any), .vals 1⟩),
  (81, ⟨.other, 1, 8, [.nilf], .leaf (.any), .vals 1⟩),
  (82, ⟨.other, 1, 8, [.nilf], .leaf (.any), .vals 1⟩),
  (83, ⟨.struct [(0, 27), (1, 3), (2, 28)], 3, 40, [.sl false (.ints .u8 ([] : List Int)), .int .i64 0, .int .i64 0], .agg [.sl false (.ints .u8), .int .i64, .int .i64], .vals 3⟩),
  (84, ⟨.struct [(0, 27), (1, 3), (2, 28)], 3, 40, [.sl false (.ints .u8 ([] : List Int)), .int .i64 0, .int .i64 0], .agg [.sl false (.ints .u8), .int .i64, .int .i64], .vals 3⟩),
  (85, ⟨.other, 1, 8, [.nilf], .leaf (.any), .vals 1⟩),
  (86, ⟨.other, 1, 8, [.nilf], .leaf (.any), .vals 1⟩),
  (87, ⟨.other, 1, 8, [.nilf], .leaf (.any), .vals 1⟩),
  (88, ⟨.other, 1, 8, [.nilf], .leaf (.any), .vals 1⟩),
  (89, ⟨.other, 1, 8, [.nilf], .leaf (.any), .vals 1⟩),
  (90, ⟨.other, 1, 8, [.nilf], .leaf (.any), .vals 1⟩),
  (91, ⟨.other, 1, 8, [.nilf], .leaf (.any), .vals 1⟩),
  (92, ⟨.other, 1, 8, [.nilf], .leaf (.any), .vals 1⟩),
  (93, ⟨.struct [(0, 39)], 1, 24, [.sl false (.strs ([] : List ByteArray))], .agg [.sl false (.strs)], .vals 1⟩),
  (94, ⟨.struct [(0, 39)], 1, 24, [.sl false (.strs ([] : List ByteArray))], .agg [.sl false (.strs)], .vals 1⟩),
  (95, ⟨.other, 1, 8, [.nilf], .leaf (.any), .vals 1⟩),
  (96, ⟨.other, 1, 8, [.nilf], .leaf (.any), .vals 1⟩),
  (97, ⟨.other, 1, 8, [.nilf], .leaf (.any), .vals 1⟩),
  (99, ⟨.other, 1, 8, [.nilf], .leaf (.any), .vals 1⟩),
  (100, ⟨.other, 1, 8, [.nilf], .leaf (.any), .vals 1⟩),
  (101, ⟨.other, 1, 8, [.nilf], .leaf (.any), .vals 1⟩),
  (102, ⟨.other, 1, 8, [.nilf], .leaf (.any), .vals 1⟩),
  (103, ⟨.other, 1, 8, [.nilf], .leaf (.any), .vals 1⟩),
  (104, ⟨.other, 1, 8, [.nilf], .leaf (.any), .vals 1⟩),
  (105, ⟨.other, 1, 8, [.nilf], .leaf (.any), .vals 1⟩),
  (107, ⟨.other, 1, 8, [.nilf], .leaf (.any), .vals 1⟩),
  (108, ⟨.int .u64, 1, 8, [.int .u64 0], .leaf (.int .u64), .ints .u64⟩),
  (109, ⟨.other, 1, 8, [.nilf], .leaf (.any), .vals 1⟩),
  (110, ⟨.sl 27, 1, 24, [.sl false (.vals 1 ([] : List V))], .leaf (.sl false (.vals 1)), .vals 1⟩),
  (111, ⟨.other, 1, 8, [.nilf], .leaf (.any), .vals 1⟩),
  (112, ⟨.other, 1, 8, [.nilf], .leaf (.any), .vals 1⟩),
  (113, ⟨.other, 1, 8, [.nilf], .leaf (.any), .vals 1⟩),
  (114, ⟨.other, 1, 8, [.nilf], .leaf (.any), .vals 1⟩),
  (116, ⟨.other, 1, 8, [.nilf], .leaf (.any), .vals 1⟩),
  (117, ⟨.other, 1, 8, [.nilf], .leaf (.any), .vals 1⟩),
  (118, ⟨.other, 1, 8, [.nilf], .leaf (.any), .vals 1⟩),
  (119, ⟨.other, 1, 8, [.nilf], .leaf (.any), .vals 1⟩),
  (120, ⟨.other, 1, 8, [.nilf], .leaf (.any), .vals 1⟩),
  (121, ⟨.int .i64, 1, 8, [.int .i64 0], .leaf (.int .i64), .ints .i64⟩),
  (123, ⟨.other, 1, 8, [.nilf], .leaf (.any), .vals 1⟩),
  (124, ⟨.other, 1, 8, [.nilf], .leaf (.any), .vals 1⟩),
  (125, ⟨.other, 1, 8, [.nilf], .leaf (.any), .vals 1⟩),
  (126, ⟨.other, 1, 8, [.nilf], .leaf (.any), .vals 1⟩),
  (127, ⟨.other, 1, 8, [.nilf], .leaf (.any), .vals 1⟩),
  (128, ⟨.int .u64, 1, 8, [.int .u64 0], .leaf (.int .u64), .ints .u64⟩),
  (129, ⟨.other, 1, 8, [.nilf], .leaf (.any), .vals 1⟩),
  (130, ⟨.other, 1, 8, [.nilf], .leaf (.any), .vals 1⟩),
  (131, ⟨.int .u64, 1, 8, [.int .u64 0], .leaf (.int .u64), .ints .u64⟩),
  (132, ⟨.other, 1, 8, [.nilf], .leaf (.any), .vals 1⟩),
  (133, ⟨.other, 1, 8, [.nilf], .leaf (.any), .vals 1⟩),
  (134, ⟨.other, 1, 8, [.nilf], .leaf (.any), .vals 1⟩),
  (135, ⟨.ptr 3, 1, 8, [.nilp], .leaf (.any), .vals 1⟩),
  (136, ⟨.other, 1, 8, [.nilf], .leaf (.any), .vals 1⟩),
  (137, ⟨.other, 1, 8, [.nilf], .leaf (.any), .vals 1⟩),
  (138, ⟨.other, 1, 8, [.nilf], .leaf (.any), .vals 1⟩),
  (139, ⟨.other, 1, 8, [.nilf], .leaf (.any), .vals 1⟩),
  (140, ⟨.other, 1, 8, [.nilf], .leaf (.any), .vals 1⟩),
  (141, ⟨.other, 1, 8, [.nilf], .leaf (.any), .vals 1⟩),
  (142, ⟨.other, 1, 8, [.nilf], .leaf (.any), .vals 1⟩),
  (143, ⟨.other, 1, 8, [.nilf], .leaf (.any), .vals 1⟩),
  (144, ⟨.ptr 131, 1, 8, [.nilp], .leaf (.any), .vals 1⟩),
  (145, ⟨.other, 1, 8, [.nilf], .leaf (.any), .vals 1⟩),
  (146, ⟨.other, 1, 8, [.nilf], .leaf (.any), .vals 1⟩),
  (147, ⟨.other, 1, 8, [.nilf], .leaf (.any), .vals 1⟩),
  (148, ⟨.other, 1, 8, [.nilf], .leaf (.any), .vals 1⟩),
  (149, ⟨.struct [(0, 17), (1, 17), (2, 17), (3, 9)], 4, 40, [.nilp, .nilp, .nilp, .str ByteArray.empty], .agg [.any, .any, .any, .str], .vals 4⟩),
  (150, ⟨.struct [(0, 17), (1, 17), (2, 17), (3, 9)], 4, 40, [.nilp, .nilp, .nilp, .str ByteArray.empty], .agg [.any, .any, .any, .str], .vals 4⟩),
  (154, ⟨.int .u8, 1, 1, [.int .u8 0], .leaf (.int .u8), .ints .u8⟩),
  (155, ⟨.int .u8, 1, 1, [.int .u8 0], .leaf (.int .u8), .ints .u8⟩),
  (156, ⟨.other, 1, 8, [.nilf], .leaf (.any), .vals 1⟩),
  (157, ⟨.ptr 5, 1, 8, [.nilp], .leaf (.any), .vals 1⟩),
  (158, ⟨.int .i32, 1, 4, [.int .i32 0], .leaf (.int .i32), .ints .i32⟩),
  (159, ⟨.int .i32, 1, 4, [.int .i32 0], .leaf (.int .i32), .ints .i32⟩),
  (160, ⟨.struct [(0, 12), (1, 12), (2, 25), (3, 154), (4, 5), (5, 5), (6, 155), (7, 156), (8, 157), (9, 158), (10, 159)], 11, 48, [.int .u64 0, .int .u64 0, .int .u32 0, .int .u8 0, .int .u8 0, .int .u8 0, .int .u8 0, .nilf, .nilp, .int .i32 0, .int .i32 0], .agg [.int .u64, .int .u64, .int .u32, .int .u8, .int .u8, .int .u8, .int .u8, .any, .any, .int .i32, .int .i32], .vals 11⟩),
  (161, ⟨.struct [(0, 12), (1, 12), (2, 25), (3, 154), (4, 5), (5, 5), (6, 155), (7, 156), (8, 157), (9, 158), (10, 159)], 11, 48, [.int .u64 0, .int .u64 0, .int .u32 0, .int .u8 0, .int .u8 0, .int .u8 0, .int .u8 0, .nilf, .nilp, .int .i32 0, .int .i32 0], .agg [.int .u64, .int .u64, .int .u32, .int .u8, .int .u8, .int .u8, .int .u8, .any, .any, .int .i32, .int .i32], .vals 11⟩)]
def sig3 : Sig := ⟨.one (.leaf (.bool)), [], [], [34]⟩
def sig4 : Sig := ⟨.one (.leaf (.bool)), [], [], []⟩
def sig5 : Sig := ⟨.one (.leaf (.bool)), [], [], []⟩
def sig6 : Sig := ⟨.one (.leaf (.bool)), [], [], []⟩
def sig7 : Sig := ⟨.one (.leaf (.bool)), [], [], []⟩
def sig8 : Sig := ⟨.one (.leaf (.bool)), [], [], []⟩
def sig9 : Sig := ⟨.one (.leaf (.bool)), [], [], []⟩
def sig10 : Sig := ⟨.one (.leaf (.bool)), [], [], []⟩
def sig11 : Sig := ⟨.one (.leaf (.bool)), [], [], []⟩
def sig12 : Sig := ⟨.one (.leaf (.bool)), [], [], []⟩
def sig13 : Sig := ⟨.one (.leaf (.bool)), [], [], []⟩
def sig15 : Sig := ⟨.one (.leaf (.bool)), [], [], []⟩
def sig16 : Sig := ⟨.one (.leaf (.int .i64)), [], [], []⟩
def sig17 : Sig := ⟨.tup [.leaf (.sl true (.ints .u8)), .leaf (.int .i64)], [], [], []⟩
def sig18 : Sig := ⟨.tup [.leaf (.sl true (.ints .u8)), .leaf (.int .i64)], [], [], []⟩
def sig19 : Sig := ⟨.one (.leaf (.int .i64)), [], [], []⟩
def sig20 : Sig := ⟨.one (.pt [.sl false (.ints .u8), .int .i64, .int .i64]), [], [], []⟩
def sig21 : Sig := ⟨.one (.leaf (.bool)), [], [], []⟩
def sig22 : Sig := ⟨.one (.leaf (.sl false (.ints .i64))), [.pt [.sl false (.ints .u8), .int .i64, .int .i64]], [], [38]⟩
def sig23 : Sig := ⟨.one (.leaf (.int .i64)), [.pt [.sl false (.ints .u8), .int .i64, .int .i64]], [], []⟩
def sig24 : Sig := ⟨.one (.leaf (.bool)), [], [], []⟩
def sig25 : Sig := ⟨.one (.leaf (.bool)), [], [], []⟩
def sig26 : Sig := ⟨.tup [.leaf (.sl true (.ints .u8)), .leaf (.int .i64)], [], [], [25]⟩
def sig27 : Sig := ⟨.one (.leaf (.bool)), [], [], []⟩
def sig28 : Sig := ⟨.one (.leaf (.bool)), [], [], []⟩
def sig29 : Sig := ⟨.one (.leaf (.sl true (.ints .u8))), [], [], [22]⟩
def sig30 : Sig := ⟨.one (.pv [.sl false (.strs)]), [.pt [.sl false (.ints .u8), .int .i64, .int .i64]], [], []⟩
def sig31 : Sig := ⟨.one (.leaf (.bool)), [.pt [.sl false (.ints .u8), .int .i64, .int .i64]], [], []⟩
def sig32 : Sig := ⟨.one (.leaf (.int .i64)), [], [], []⟩
def sig33 : Sig := ⟨.one (.leaf (.sl true (.strs))), [], [], []⟩
def sig34 : Sig := ⟨.one (.leaf (.int .i64)), [.pt [.sl false (.ints .u8), .int .i64, .int .i64]], [], []⟩
def sig35 : Sig := ⟨.one (.leaf (.sl false (.strs))), [], [], [54]⟩
def sig36 : Sig := ⟨.one (.leaf (.bool)), [], [], []⟩
def sig37 : Sig := ⟨.one (.leaf (.str)), [], [], []⟩
def sig38 : Sig := ⟨.tup [.pvn [.sl false (.strs)], .leaf (.sl false (.strs)), .leaf (.bool)], [], [], []⟩
def sig39 : Sig := ⟨.one (.leaf (.bool)), [], [], []⟩
def sig40 : Sig := ⟨.one (.leaf (.int .i64)), [], [], []⟩
def sig41 : Sig := ⟨.tup [.leaf (.int .i64), .leaf (.bool)], [], [], []⟩
def sig42 : Sig := ⟨.one (.leaf (.int .i64)), [], [], []⟩
def sig43 : Sig := ⟨.one (.leaf (.int .i64)), [], [], []⟩
def sig44 : Sig := ⟨.tup [.leaf (.int .i64), .leaf (.int .i64)], [], [], []⟩
def sig45 : Sig := ⟨.one (.leaf (.bool)), [], [], []⟩
def sig46 : Sig := ⟨.one (.leaf (.sl true (.ints .i64))), [], [], [27]⟩
def sig47 : Sig := ⟨.one (.leaf (.sl true (.strs))), [], [], []⟩
def sig55 : Sig := ⟨.one (.leaf (.int .i64)), [], [], []⟩
def sig56 : Sig := ⟨.one (.leaf (.int .i64)), [], [], []⟩
def sig57 : Sig := ⟨.one (.leaf (.int .i64)), [], [], []⟩
def sig58 : Sig := ⟨.one (.leaf (.bool)), [], [], []⟩
def sig59 : Sig := ⟨.one (.leaf (.bool)), [], [], []⟩
def sig60 : Sig := ⟨.one (.leaf (.sl true (.ints .u8))), [], [], []⟩
def sig61 : Sig := ⟨.one (.leaf (.sl true (.ints .u8))), [], [], [14, 19]⟩
def sig62 : Sig := ⟨.one (.leaf (.sl true (.ints .u8))), [], [], []⟩
def sig63 : Sig := ⟨.one (.leaf (.int .i64)), [.pt [.sl false (.ints .u8), .int .i64, .int .i64]], [], []⟩
def sig64 : Sig := ⟨.one (.leaf (.int .i64)), [.pt [.sl false (.ints .u8), .int .i64, .int .i64]], [], []⟩
def sig65 : Sig := ⟨.tup [], [.pt [.sl false (.ints .u8), .int .i64, .int .i64]], [], []⟩
def sig66 : Sig := ⟨.one (.leaf (.sl true (.ints .u8))), [.pt [.sl false (.ints .u8), .int .i64, .int .i64]], [], []⟩
def sig67 : Sig := ⟨.one (.leaf (.bool)), [], [], []⟩
def sig68 : Sig := ⟨.one (.leaf (.bool)), [], [], []⟩
def sig69 : Sig := ⟨.one (.leaf (.bool)), [], [], []⟩
def sig70 : Sig := ⟨.one (.fnp 96 [[.sl false (.strs)], [.int .i64]]), [], [], []⟩
def sig71 : Sig := ⟨.one (.leaf (.sl true (.ints .u8))), [], [], []⟩
def sig72 : Sig := ⟨.one (.leaf (.sl true (.ints .u8))), [], [], []⟩
def sig73 : Sig := ⟨.one (.leaf (.sl true (.ints .u8))), [], [], []⟩
def sig74 : Sig := ⟨.one (.leaf (.sl true (.ints .u8))), [], [], [18]⟩
def sig75 : Sig := ⟨.one (.leaf (.sl true (.strs))), [.pt [.sl false (.ints .u8), .int .i64, .int .i64]], [], [49]⟩
def sig76 : Sig := ⟨.one (.leaf (.sl true (.strs))), [], [], []⟩
def sig77 : Sig := ⟨.one (.leaf (.int .i64)), [], [], []⟩
def sig78 : Sig := ⟨.one (.leaf (.bool)), [], [], []⟩
def sig79 : Sig := ⟨.one (.leaf (.bool)), [], [], []⟩
def sig80 : Sig := ⟨.one (.leaf (.bool)), [], [], []⟩
def sig81 : Sig := ⟨.one (.leaf (.bool)), [], [], []⟩
def sig93 : Sig := ⟨.one (.leaf (.int .i64)), [], [], []⟩
def sig94 : Sig := ⟨.one (.leaf (.sl true (.ints .u8))), [], [65535], []⟩
def sig95 : Sig := ⟨.one (.leaf (.int .i64)), [.pt [.sl false (.ints .u8), .int .i64, .int .i64]], [], []⟩
def sig97 : Sig := ⟨.one (.leaf (.sl true (.ints .u8))), [], [], []⟩
def sig98 : Sig := ⟨.one (.leaf (.int .i64)), [], [], []⟩
def sig99 : Sig := ⟨.tup [.leaf (.sl true (.ints .u8)), .leaf (.int .i64)], [], [], [45]⟩
def sig100 : Sig := ⟨.one (.leaf (.int .i64)), [], [], []⟩
def sig101 : Sig := ⟨.one (.leaf (.str)), [.pt [.sl false (.ints .u8), .int .i64, .int .i64]], [], []⟩
def sig103 : Sig := ⟨.one (.leaf (.int .i64)), [], [], []⟩
def sig113 : Sig := ⟨.one (.leaf (.int .i64)), [], [], []⟩
def sig123 : Sig := ⟨.one (.leaf (.int .i64)), [], [], []⟩
def sigs (f : Nat) : Option Sig := find f [(3, sig3), (4, sig4), (5, sig5), (6, sig6), (7, sig7), (8, sig8), (9, sig9), (10, sig10), (11, sig11), (12, sig12), (13, sig13), (15, sig15), (16, sig16), (17, sig17), (18, sig18), (19, sig19), (20, sig20), (21, sig21), (22, sig22), (23, sig23), (24, sig24), (25, sig25), (26, sig26), (27, sig27), (28, sig28), (29, sig29), (30, sig30), (31, sig31), (32, sig32), (33, sig33), (34, sig34), (35, sig35), (36, sig36), (37, sig37), (38, sig38), (39, sig39), (40, sig40), (41, sig41), (42, sig42), (43, sig43), (44, sig44), (45, sig45), (46, sig46), (47, sig47), (55, sig55), (56, sig56), (57, sig57), (58, sig58), (59, sig59), (60, sig60), (61, sig61), (62, sig62), (63, sig63), (64, sig64), (65, sig65), (66, sig66), (67, sig67), (68, sig68), (69, sig69), (70, sig70), (71, sig71), (72, sig72), (73, sig73), (74, sig74), (75, sig75), (76, sig76), (77, sig77), (78, sig78), (79, sig79), (80, sig80), (81, sig81), (93, sig93), (94, sig94), (95, sig95), (97, sig97), (98, sig98), (99, sig99), (100, sig100), (101, sig101), (103, sig103), (113, sig113), (123, sig123)]
noncomputable def fns : List (Nat × Func) := [(3, Try.f3), (4, Try.f4), (5, Try.f5), (6, Try.f6), (7, Try.f7), (8, Try.f8), (9, Try.f9), (10, Try.f10), (11, Try.f11), (12, Try.f12), (13, Try.f13), (15, Try.f15), (16, Try.f16), (17, Try.f17), (18, Try.f18), (19, Try.f19), (20, Try.f20), (21, Try.f21), (22, Try.f22), (23, Try.f23), (24, Try.f24), (25, Try.f25), (26, Try.f26), (27, Try.f27), (28, Try.f28), (29, Try.f29), (30, Try.f30), (31, Try.f31), (32, Try.f32), (33, Try.f33), (34, Try.f34), (35, Try.f35), (36, Try.f36), (37, Try.f37), (38, Try.f38), (39, Try.f39), (40, Try.f40), (41, Try.f41), (42, Try.f42), (43, Try.f43), (44, Try.f44), (45, Try.f45), (46, Try.f46), (47, Try.f47), (55, Try.f55), (56, Try.f56), (57, Try.f57), (58, Try.f58), (59, Try.f59), (60, Try.f60), (61, Try.f61), (62, Try.f62), (63, Try.f63), (64, Try.f64), (65, Try.f65), (66, Try.f66), (67, Try.f67), (68, Try.f68), (69, Try.f69), (70, Try.f70), (71, Try.f71), (72, Try.f72), (73, Try.f73), (74, Try.f74), (75, Try.f75), (76, Try.f76), (77, Try.f77), (78, Try.f78), (79, Try.f79), (80, Try.f80), (81, Try.f81), (82, Try.f82), (83, Try.f83), (93, Try.f93), (94, Try.f94), (95, Try.f95), (97, Try.f97), (98, Try.f98), (99, Try.f99), (100, Try.f100), (101, Try.f101), (103, Try.f103), (113, Try.f113), (123, Try.f123)]
def seqs (f : Nat) (cap : List V) : Option (Bool × List V) := cond (Nat.beq f 96) (seqChunkS cap) (none)
noncomputable def inps (f : Nat) : Option (Bool × (Arr V → Bool) × (Arr V → Arr V)) := cond (Nat.beq f 82) (some (false, okStrs, onStrs sortS)) (cond (Nat.beq f 83) (some (true, okStrs, onStrs compactS)) (none))
noncomputable def EE : Env := ⟨fun t => find t tys, fun f => find f fns, sigs, [], seqs, inps⟩
theorem tys_ok : (tys.all fun p => tyB Try.prog p.1 p.2) = true := by kernel_rfl
def PackBack.q {R : Type} (c : CallF) (x0 : List Int) (x1 : Int) (K : Bool → Option R) : Option R :=
  match c 3 [.sl false (.ints .u32 x0), .int .u8 x1] with
    | some p => p.1.asBool fun b1 =>
        seeNil p.2 (
          K b1)
    | none => none
theorem PackBack.q_ok {R : Type} {c : CallF} (x0 : List Int) (x1 : Int) {K : Bool → Option R} {b1 : Bool} (h : c 3 [.sl false (.ints .u32 x0), .int .u8 x1] = some (.bool b1, [])) :
    PackBack.q c x0 x1 K = K b1 := by simp only [PackBack.q, h]; rfl
def PackBack.s {R : Type} (c : CallF) (x0 : List Int) (x1 : Int) (K : Bool → Option R) : Option R :=
  match c 3 [.sl false (.ints .u32 x0), .int .u8 x1] with
    | some p => p.1.asBool fun b1 =>
        K b1
    | none => none
theorem PackBack.s_ok {R : Type} {c : CallF} (x0 : List Int) (x1 : Int) {K : Bool → Option R} {b1 : Bool} (h : c 3 [.sl false (.ints .u32 x0), .int .u8 x1] = some (.bool b1, [])) :
    PackBack.s c x0 x1 K = K b1 := by simp only [PackBack.s, h]; rfl
def FrontBuilds.q {R : Type} (c : CallF) (x0 : List ByteArray) (x1 : Int) (K : Bool → Option R) : Option R :=
  match c 4 [.sl false (.strs x0), .int .i64 x1] with
    | some p => p.1.asBool fun b1 =>
        seeNil p.2 (
          K b1)
    | none => none
theorem FrontBuilds.q_ok {R : Type} {c : CallF} (x0 : List ByteArray) (x1 : Int) {K : Bool → Option R} {b1 : Bool} (h : c 4 [.sl false (.strs x0), .int .i64 x1] = some (.bool b1, [])) :
    FrontBuilds.q c x0 x1 K = K b1 := by simp only [FrontBuilds.q, h]; rfl
def FrontBuilds.s {R : Type} (c : CallF) (x0 : List ByteArray) (x1 : Int) (K : Bool → Option R) : Option R :=
  match c 4 [.sl false (.strs x0), .int .i64 x1] with
    | some p => p.1.asBool fun b1 =>
        K b1
    | none => none
theorem FrontBuilds.s_ok {R : Type} {c : CallF} (x0 : List ByteArray) (x1 : Int) {K : Bool → Option R} {b1 : Bool} (h : c 4 [.sl false (.strs x0), .int .i64 x1] = some (.bool b1, [])) :
    FrontBuilds.s c x0 x1 K = K b1 := by simp only [FrontBuilds.s, h]; rfl
def FrontOpens.q {R : Type} (c : CallF) (x0 : List Int) (K : Bool → Option R) : Option R :=
  match c 5 [.sl false (.ints .u8 x0)] with
    | some p => p.1.asBool fun b1 =>
        seeNil p.2 (
          K b1)
    | none => none
theorem FrontOpens.q_ok {R : Type} {c : CallF} (x0 : List Int) {K : Bool → Option R} {b1 : Bool} (h : c 5 [.sl false (.ints .u8 x0)] = some (.bool b1, [])) :
    FrontOpens.q c x0 K = K b1 := by simp only [FrontOpens.q, h]; rfl
def FrontOpens.s {R : Type} (c : CallF) (x0 : List Int) (K : Bool → Option R) : Option R :=
  match c 5 [.sl false (.ints .u8 x0)] with
    | some p => p.1.asBool fun b1 =>
        K b1
    | none => none
theorem FrontOpens.s_ok {R : Type} {c : CallF} (x0 : List Int) {K : Bool → Option R} {b1 : Bool} (h : c 5 [.sl false (.ints .u8 x0)] = some (.bool b1, [])) :
    FrontOpens.s c x0 K = K b1 := by simp only [FrontOpens.s, h]; rfl
def FrontBack.q {R : Type} (c : CallF) (x0 : List ByteArray) (x1 : Int) (K : Bool → Option R) : Option R :=
  match c 6 [.sl false (.strs x0), .int .u8 x1] with
    | some p => p.1.asBool fun b1 =>
        seeNil p.2 (
          K b1)
    | none => none
theorem FrontBack.q_ok {R : Type} {c : CallF} (x0 : List ByteArray) (x1 : Int) {K : Bool → Option R} {b1 : Bool} (h : c 6 [.sl false (.strs x0), .int .u8 x1] = some (.bool b1, [])) :
    FrontBack.q c x0 x1 K = K b1 := by simp only [FrontBack.q, h]; rfl
def FrontBack.s {R : Type} (c : CallF) (x0 : List ByteArray) (x1 : Int) (K : Bool → Option R) : Option R :=
  match c 6 [.sl false (.strs x0), .int .u8 x1] with
    | some p => p.1.asBool fun b1 =>
        K b1
    | none => none
theorem FrontBack.s_ok {R : Type} {c : CallF} (x0 : List ByteArray) (x1 : Int) {K : Bool → Option R} {b1 : Bool} (h : c 6 [.sl false (.strs x0), .int .u8 x1] = some (.bool b1, [])) :
    FrontBack.s c x0 x1 K = K b1 := by simp only [FrontBack.s, h]; rfl
def FrontCut.q {R : Type} (c : CallF) (x0 : List ByteArray) (x1 : Int) (x2 : Int) (K : Bool → Option R) : Option R :=
  match c 7 [.sl false (.strs x0), .int .u8 x1, .int .u16 x2] with
    | some p => p.1.asBool fun b1 =>
        seeNil p.2 (
          K b1)
    | none => none
theorem FrontCut.q_ok {R : Type} {c : CallF} (x0 : List ByteArray) (x1 : Int) (x2 : Int) {K : Bool → Option R} {b1 : Bool} (h : c 7 [.sl false (.strs x0), .int .u8 x1, .int .u16 x2] = some (.bool b1, [])) :
    FrontCut.q c x0 x1 x2 K = K b1 := by simp only [FrontCut.q, h]; rfl
def FrontCut.s {R : Type} (c : CallF) (x0 : List ByteArray) (x1 : Int) (x2 : Int) (K : Bool → Option R) : Option R :=
  match c 7 [.sl false (.strs x0), .int .u8 x1, .int .u16 x2] with
    | some p => p.1.asBool fun b1 =>
        K b1
    | none => none
theorem FrontCut.s_ok {R : Type} {c : CallF} (x0 : List ByteArray) (x1 : Int) (x2 : Int) {K : Bool → Option R} {b1 : Bool} (h : c 7 [.sl false (.strs x0), .int .u8 x1, .int .u16 x2] = some (.bool b1, [])) :
    FrontCut.s c x0 x1 x2 K = K b1 := by simp only [FrontCut.s, h]; rfl
def FrontKeeps.q {R : Type} (c : CallF) (x0 : List ByteArray) (K : Bool → Option R) : Option R :=
  match c 8 [.sl false (.strs x0)] with
    | some p => p.1.asBool fun b1 =>
        seeNil p.2 (
          K b1)
    | none => none
theorem FrontKeeps.q_ok {R : Type} {c : CallF} (x0 : List ByteArray) {K : Bool → Option R} {b1 : Bool} (h : c 8 [.sl false (.strs x0)] = some (.bool b1, [])) :
    FrontKeeps.q c x0 K = K b1 := by simp only [FrontKeeps.q, h]; rfl
def FrontKeeps.s {R : Type} (c : CallF) (x0 : List ByteArray) (K : Bool → Option R) : Option R :=
  match c 8 [.sl false (.strs x0)] with
    | some p => p.1.asBool fun b1 =>
        K b1
    | none => none
theorem FrontKeeps.s_ok {R : Type} {c : CallF} (x0 : List ByteArray) {K : Bool → Option R} {b1 : Bool} (h : c 8 [.sl false (.strs x0)] = some (.bool b1, [])) :
    FrontKeeps.s c x0 K = K b1 := by simp only [FrontKeeps.s, h]; rfl
def SeekCodes.q {R : Type} (c : CallF) (x0 : List ByteArray) (x1 : ByteArray) (K : Bool → Option R) : Option R :=
  match c 9 [.sl false (.strs x0), .str x1] with
    | some p => p.1.asBool fun b1 =>
        seeNil p.2 (
          K b1)
    | none => none
theorem SeekCodes.q_ok {R : Type} {c : CallF} (x0 : List ByteArray) (x1 : ByteArray) {K : Bool → Option R} {b1 : Bool} (h : c 9 [.sl false (.strs x0), .str x1] = some (.bool b1, [])) :
    SeekCodes.q c x0 x1 K = K b1 := by simp only [SeekCodes.q, h]; rfl
def SeekCodes.s {R : Type} (c : CallF) (x0 : List ByteArray) (x1 : ByteArray) (K : Bool → Option R) : Option R :=
  match c 9 [.sl false (.strs x0), .str x1] with
    | some p => p.1.asBool fun b1 =>
        K b1
    | none => none
theorem SeekCodes.s_ok {R : Type} {c : CallF} (x0 : List ByteArray) (x1 : ByteArray) {K : Bool → Option R} {b1 : Bool} (h : c 9 [.sl false (.strs x0), .str x1] = some (.bool b1, [])) :
    SeekCodes.s c x0 x1 K = K b1 := by simp only [SeekCodes.s, h]; rfl
def SeekPrefixes.q {R : Type} (c : CallF) (x0 : List ByteArray) (x1 : ByteArray) (K : Bool → Option R) : Option R :=
  match c 10 [.sl false (.strs x0), .str x1] with
    | some p => p.1.asBool fun b1 =>
        seeNil p.2 (
          K b1)
    | none => none
theorem SeekPrefixes.q_ok {R : Type} {c : CallF} (x0 : List ByteArray) (x1 : ByteArray) {K : Bool → Option R} {b1 : Bool} (h : c 10 [.sl false (.strs x0), .str x1] = some (.bool b1, [])) :
    SeekPrefixes.q c x0 x1 K = K b1 := by simp only [SeekPrefixes.q, h]; rfl
def SeekPrefixes.s {R : Type} (c : CallF) (x0 : List ByteArray) (x1 : ByteArray) (K : Bool → Option R) : Option R :=
  match c 10 [.sl false (.strs x0), .str x1] with
    | some p => p.1.asBool fun b1 =>
        K b1
    | none => none
theorem SeekPrefixes.s_ok {R : Type} {c : CallF} (x0 : List ByteArray) (x1 : ByteArray) {K : Bool → Option R} {b1 : Bool} (h : c 10 [.sl false (.strs x0), .str x1] = some (.bool b1, [])) :
    SeekPrefixes.s c x0 x1 K = K b1 := by simp only [SeekPrefixes.s, h]; rfl
def SeekMaps.q {R : Type} (c : CallF) (x0 : List ByteArray) (x1 : List ByteArray) (K : Bool → Option R) : Option R :=
  match c 11 [.sl false (.strs x0), .sl false (.strs x1)] with
    | some p => p.1.asBool fun b1 =>
        seeNil p.2 (
          K b1)
    | none => none
theorem SeekMaps.q_ok {R : Type} {c : CallF} (x0 : List ByteArray) (x1 : List ByteArray) {K : Bool → Option R} {b1 : Bool} (h : c 11 [.sl false (.strs x0), .sl false (.strs x1)] = some (.bool b1, [])) :
    SeekMaps.q c x0 x1 K = K b1 := by simp only [SeekMaps.q, h]; rfl
def SeekMaps.s {R : Type} (c : CallF) (x0 : List ByteArray) (x1 : List ByteArray) (K : Bool → Option R) : Option R :=
  match c 11 [.sl false (.strs x0), .sl false (.strs x1)] with
    | some p => p.1.asBool fun b1 =>
        K b1
    | none => none
theorem SeekMaps.s_ok {R : Type} {c : CallF} (x0 : List ByteArray) (x1 : List ByteArray) {K : Bool → Option R} {b1 : Bool} (h : c 11 [.sl false (.strs x0), .sl false (.strs x1)] = some (.bool b1, [])) :
    SeekMaps.s c x0 x1 K = K b1 := by simp only [SeekMaps.s, h]; rfl
def SeekBounds.q {R : Type} (c : CallF) (x0 : List ByteArray) (x1 : ByteArray) (K : Bool → Option R) : Option R :=
  match c 12 [.sl false (.strs x0), .str x1] with
    | some p => p.1.asBool fun b1 =>
        seeNil p.2 (
          K b1)
    | none => none
theorem SeekBounds.q_ok {R : Type} {c : CallF} (x0 : List ByteArray) (x1 : ByteArray) {K : Bool → Option R} {b1 : Bool} (h : c 12 [.sl false (.strs x0), .str x1] = some (.bool b1, [])) :
    SeekBounds.q c x0 x1 K = K b1 := by simp only [SeekBounds.q, h]; rfl
def SeekBounds.s {R : Type} (c : CallF) (x0 : List ByteArray) (x1 : ByteArray) (K : Bool → Option R) : Option R :=
  match c 12 [.sl false (.strs x0), .str x1] with
    | some p => p.1.asBool fun b1 =>
        K b1
    | none => none
theorem SeekBounds.s_ok {R : Type} {c : CallF} (x0 : List ByteArray) (x1 : ByteArray) {K : Bool → Option R} {b1 : Bool} (h : c 12 [.sl false (.strs x0), .str x1] = some (.bool b1, [])) :
    SeekBounds.s c x0 x1 K = K b1 := by simp only [SeekBounds.s, h]; rfl
def SeekAll.q {R : Type} (c : CallF) (x0 : List ByteArray) (K : Bool → Option R) : Option R :=
  match c 13 [.sl false (.strs x0)] with
    | some p => p.1.asBool fun b1 =>
        seeNil p.2 (
          K b1)
    | none => none
theorem SeekAll.q_ok {R : Type} {c : CallF} (x0 : List ByteArray) {K : Bool → Option R} {b1 : Bool} (h : c 13 [.sl false (.strs x0)] = some (.bool b1, [])) :
    SeekAll.q c x0 K = K b1 := by simp only [SeekAll.q, h]; rfl
def SeekAll.s {R : Type} (c : CallF) (x0 : List ByteArray) (K : Bool → Option R) : Option R :=
  match c 13 [.sl false (.strs x0)] with
    | some p => p.1.asBool fun b1 =>
        K b1
    | none => none
theorem SeekAll.s_ok {R : Type} {c : CallF} (x0 : List ByteArray) {K : Bool → Option R} {b1 : Bool} (h : c 13 [.sl false (.strs x0)] = some (.bool b1, [])) :
    SeekAll.s c x0 K = K b1 := by simp only [SeekAll.s, h]; rfl
def Awake03.q {R : Type} (c : CallF) (K : Bool → Option R) : Option R :=
  match c 15 [] with
    | some p => p.1.asBool fun b1 =>
        seeNil p.2 (
          K b1)
    | none => none
theorem Awake03.q_ok {R : Type} {c : CallF} {K : Bool → Option R} {b1 : Bool} (h : c 15 [] = some (.bool b1, [])) :
    Awake03.q c K = K b1 := by simp only [Awake03.q, h]; rfl
def Awake03.s {R : Type} (c : CallF) (K : Bool → Option R) : Option R :=
  match c 15 [] with
    | some p => p.1.asBool fun b1 =>
        K b1
    | none => none
theorem Awake03.s_ok {R : Type} {c : CallF} {K : Bool → Option R} {b1 : Bool} (h : c 15 [] = some (.bool b1, [])) :
    Awake03.s c K = K b1 := by simp only [Awake03.s, h]; rfl
def Width.q {R : Type} (c : CallF) (x0 : List Int) (K : Int → Option R) : Option R :=
  match c 16 [.sl false (.ints .i64 x0)] with
    | some p => p.1.asInt .i64 fun n1 =>
        seeNil p.2 (
          K n1)
    | none => none
theorem Width.q_ok {R : Type} {c : CallF} (x0 : List Int) {K : Int → Option R} {n1 : Int} (h : c 16 [.sl false (.ints .i64 x0)] = some (.int .i64 n1, [])) :
    Width.q c x0 K = K n1 := by simp only [Width.q, h]; rfl
def Width.s {R : Type} (c : CallF) (x0 : List Int) (K : Int → Option R) : Option R :=
  match c 16 [.sl false (.ints .i64 x0)] with
    | some p => p.1.asInt .i64 fun n1 =>
        K n1
    | none => none
theorem Width.s_ok {R : Type} {c : CallF} (x0 : List Int) {K : Int → Option R} {n1 : Int} (h : c 16 [.sl false (.ints .i64 x0)] = some (.int .i64 n1, [])) :
    Width.s c x0 K = K n1 := by simp only [Width.s, h]; rfl
def PackPut.q {R : Type} (c : CallF) (x0 : List Int) (x1 : Int) (K : List Int → Int → Option R) : Option R :=
  match c 17 [.sl false (.ints .i64 x0), .int .i64 x1] with
    | some p => p.1.asTup fun q1 =>
        seeCons q1 fun c2 r3 =>
          seeInts true .u8 c2 fun l4 =>
            seeCons r3 fun c5 r6 =>
              c5.asInt .i64 fun n7 =>
                seeNil r6 (
                  seeNil p.2 (
                    K l4 n7))
    | none => none
theorem PackPut.q_ok {R : Type} {c : CallF} (x0 : List Int) (x1 : Int) {K : List Int → Int → Option R} {l1 : List Int} {n2 : Int} (h : c 17 [.sl false (.ints .i64 x0), .int .i64 x1] = some (.tup [.sl true (.ints .u8 l1), .int .i64 n2], [])) :
    PackPut.q c x0 x1 K = K l1 n2 := by simp only [PackPut.q, h]; rfl
def PackPut.s {R : Type} (c : CallF) (x0 : List Int) (x1 : Int) (K : List Int → Int → Option R) : Option R :=
  match c 17 [.sl false (.ints .i64 x0), .int .i64 x1] with
    | some p => p.1.asTup fun q1 =>
        seeCons q1 fun c2 r3 =>
          seeInts true .u8 c2 fun l4 =>
            seeCons r3 fun c5 r6 =>
              c5.asInt .i64 fun n7 =>
                seeNil r6 (
                  K l4 n7)
    | none => none
theorem PackPut.s_ok {R : Type} {c : CallF} (x0 : List Int) (x1 : Int) {K : List Int → Int → Option R} {l1 : List Int} {n2 : Int} (h : c 17 [.sl false (.ints .i64 x0), .int .i64 x1] = some (.tup [.sl true (.ints .u8 l1), .int .i64 n2], [])) :
    PackPut.s c x0 x1 K = K l1 n2 := by simp only [PackPut.s, h]; rfl
def PackWrite.q {R : Type} (c : CallF) (x0 : List Int) (K : List Int → Int → Option R) : Option R :=
  match c 18 [.sl false (.ints .i64 x0)] with
    | some p => p.1.asTup fun q1 =>
        seeCons q1 fun c2 r3 =>
          seeInts true .u8 c2 fun l4 =>
            seeCons r3 fun c5 r6 =>
              c5.asInt .i64 fun n7 =>
                seeNil r6 (
                  seeNil p.2 (
                    K l4 n7))
    | none => none
theorem PackWrite.q_ok {R : Type} {c : CallF} (x0 : List Int) {K : List Int → Int → Option R} {l1 : List Int} {n2 : Int} (h : c 18 [.sl false (.ints .i64 x0)] = some (.tup [.sl true (.ints .u8 l1), .int .i64 n2], [])) :
    PackWrite.q c x0 K = K l1 n2 := by simp only [PackWrite.q, h]; rfl
def PackWrite.s {R : Type} (c : CallF) (x0 : List Int) (K : List Int → Int → Option R) : Option R :=
  match c 18 [.sl false (.ints .i64 x0)] with
    | some p => p.1.asTup fun q1 =>
        seeCons q1 fun c2 r3 =>
          seeInts true .u8 c2 fun l4 =>
            seeCons r3 fun c5 r6 =>
              c5.asInt .i64 fun n7 =>
                seeNil r6 (
                  K l4 n7)
    | none => none
theorem PackWrite.s_ok {R : Type} {c : CallF} (x0 : List Int) {K : List Int → Int → Option R} {l1 : List Int} {n2 : Int} (h : c 18 [.sl false (.ints .i64 x0)] = some (.tup [.sl true (.ints .u8 l1), .int .i64 n2], [])) :
    PackWrite.s c x0 K = K l1 n2 := by simp only [PackWrite.s, h]; rfl
def PackGet.q {R : Type} (c : CallF) (x0 : List Int) (x1 : Int) (x2 : Int) (K : Int → Option R) : Option R :=
  match c 19 [.sl false (.ints .u8 x0), .int .i64 x1, .int .i64 x2] with
    | some p => p.1.asInt .i64 fun n1 =>
        seeNil p.2 (
          K n1)
    | none => none
theorem PackGet.q_ok {R : Type} {c : CallF} (x0 : List Int) (x1 : Int) (x2 : Int) {K : Int → Option R} {n1 : Int} (h : c 19 [.sl false (.ints .u8 x0), .int .i64 x1, .int .i64 x2] = some (.int .i64 n1, [])) :
    PackGet.q c x0 x1 x2 K = K n1 := by simp only [PackGet.q, h]; rfl
def PackGet.s {R : Type} (c : CallF) (x0 : List Int) (x1 : Int) (x2 : Int) (K : Int → Option R) : Option R :=
  match c 19 [.sl false (.ints .u8 x0), .int .i64 x1, .int .i64 x2] with
    | some p => p.1.asInt .i64 fun n1 =>
        K n1
    | none => none
theorem PackGet.s_ok {R : Type} {c : CallF} (x0 : List Int) (x1 : Int) (x2 : Int) {K : Int → Option R} {n1 : Int} (h : c 19 [.sl false (.ints .u8 x0), .int .i64 x1, .int .i64 x2] = some (.int .i64 n1, [])) :
    PackGet.s c x0 x1 x2 K = K n1 := by simp only [PackGet.s, h]; rfl
def CurNew.q {R : Type} (c : CallF) (x0 : List Int) (K : List Int → Int → Int → Option R) : Option R :=
  match c 20 [.sl false (.ints .u8 x0)] with
    | some p => p.1.asPt fun q1 =>
        seeCons q1 fun c2 r3 =>
          seeInts false .u8 c2 fun l4 =>
            seeCons r3 fun c5 r6 =>
              c5.asInt .i64 fun n7 =>
                seeCons r6 fun c8 r9 =>
                  c8.asInt .i64 fun n10 =>
                    seeNil r9 (
                      seeNil p.2 (
                        K l4 n7 n10))
    | none => none
theorem CurNew.q_ok {R : Type} {c : CallF} (x0 : List Int) {K : List Int → Int → Int → Option R} {l1 : List Int} {n2 : Int} {n3 : Int} (h : c 20 [.sl false (.ints .u8 x0)] = some (.pt [.sl false (.ints .u8 l1), .int .i64 n2, .int .i64 n3], [])) :
    CurNew.q c x0 K = K l1 n2 n3 := by simp only [CurNew.q, h]; rfl
def CurNew.s {R : Type} (c : CallF) (x0 : List Int) (K : List Int → Int → Int → Option R) : Option R :=
  match c 20 [.sl false (.ints .u8 x0)] with
    | some p => p.1.asPt fun q1 =>
        seeCons q1 fun c2 r3 =>
          seeInts false .u8 c2 fun l4 =>
            seeCons r3 fun c5 r6 =>
              c5.asInt .i64 fun n7 =>
                seeCons r6 fun c8 r9 =>
                  c8.asInt .i64 fun n10 =>
                    seeNil r9 (
                      K l4 n7 n10)
    | none => none
theorem CurNew.s_ok {R : Type} {c : CallF} (x0 : List Int) {K : List Int → Int → Int → Option R} {l1 : List Int} {n2 : Int} {n3 : Int} (h : c 20 [.sl false (.ints .u8 x0)] = some (.pt [.sl false (.ints .u8 l1), .int .i64 n2, .int .i64 n3], [])) :
    CurNew.s c x0 K = K l1 n2 n3 := by simp only [CurNew.s, h]; rfl
def RefInts.q {R : Type} (c : CallF) (x0 : List Int) (x1 : List Int) (K : Bool → Option R) : Option R :=
  match c 21 [.sl false (.ints .i64 x0), .sl false (.ints .i64 x1)] with
    | some p => p.1.asBool fun b1 =>
        seeNil p.2 (
          K b1)
    | none => none
theorem RefInts.q_ok {R : Type} {c : CallF} (x0 : List Int) (x1 : List Int) {K : Bool → Option R} {b1 : Bool} (h : c 21 [.sl false (.ints .i64 x0), .sl false (.ints .i64 x1)] = some (.bool b1, [])) :
    RefInts.q c x0 x1 K = K b1 := by simp only [RefInts.q, h]; rfl
def RefInts.s {R : Type} (c : CallF) (x0 : List Int) (x1 : List Int) (K : Bool → Option R) : Option R :=
  match c 21 [.sl false (.ints .i64 x0), .sl false (.ints .i64 x1)] with
    | some p => p.1.asBool fun b1 =>
        K b1
    | none => none
theorem RefInts.s_ok {R : Type} {c : CallF} (x0 : List Int) (x1 : List Int) {K : Bool → Option R} {b1 : Bool} (h : c 21 [.sl false (.ints .i64 x0), .sl false (.ints .i64 x1)] = some (.bool b1, [])) :
    RefInts.s c x0 x1 K = K b1 := by simp only [RefInts.s, h]; rfl
def PackRead.q {R : Type} (c : CallF) (x0 : List Int) (x1 : Int) (x2 : Int) (x3 : Int) (K : List Int → List Int → Int → Int → Option R) : Option R :=
  match c 22 [.pt [.sl false (.ints .u8 x0), .int .i64 x1, .int .i64 x2], .int .i64 x3] with
    | some p => seeInts false .i64 p.1 fun l1 =>
        seeCons p.2 fun c2 r3 =>
          c2.asPt fun q4 =>
            seeCons q4 fun c5 r6 =>
              seeInts false .u8 c5 fun l7 =>
                seeCons r6 fun c8 r9 =>
                  c8.asInt .i64 fun n10 =>
                    seeCons r9 fun c11 r12 =>
                      c11.asInt .i64 fun n13 =>
                        seeNil r12 (
                          seeNil r3 (
                            K l1 l7 n10 n13))
    | none => none
theorem PackRead.q_ok {R : Type} {c : CallF} (x0 : List Int) (x1 : Int) (x2 : Int) (x3 : Int) {K : List Int → List Int → Int → Int → Option R} {l1 : List Int} {l2 : List Int} {n3 : Int} {n4 : Int} (h : c 22 [.pt [.sl false (.ints .u8 x0), .int .i64 x1, .int .i64 x2], .int .i64 x3] = some (.sl false (.ints .i64 l1), [.pt [.sl false (.ints .u8 l2), .int .i64 n3, .int .i64 n4]])) :
    PackRead.q c x0 x1 x2 x3 K = K l1 l2 n3 n4 := by simp only [PackRead.q, h]; rfl
def CurEnd.q {R : Type} (c : CallF) (x0 : List Int) (x1 : Int) (x2 : Int) (K : Int → List Int → Int → Int → Option R) : Option R :=
  match c 23 [.pt [.sl false (.ints .u8 x0), .int .i64 x1, .int .i64 x2]] with
    | some p => p.1.asInt .i64 fun n1 =>
        seeCons p.2 fun c2 r3 =>
          c2.asPt fun q4 =>
            seeCons q4 fun c5 r6 =>
              seeInts false .u8 c5 fun l7 =>
                seeCons r6 fun c8 r9 =>
                  c8.asInt .i64 fun n10 =>
                    seeCons r9 fun c11 r12 =>
                      c11.asInt .i64 fun n13 =>
                        seeNil r12 (
                          seeNil r3 (
                            K n1 l7 n10 n13))
    | none => none
theorem CurEnd.q_ok {R : Type} {c : CallF} (x0 : List Int) (x1 : Int) (x2 : Int) {K : Int → List Int → Int → Int → Option R} {n1 : Int} {l2 : List Int} {n3 : Int} {n4 : Int} (h : c 23 [.pt [.sl false (.ints .u8 x0), .int .i64 x1, .int .i64 x2]] = some (.int .i64 n1, [.pt [.sl false (.ints .u8 l2), .int .i64 n3, .int .i64 n4]])) :
    CurEnd.q c x0 x1 x2 K = K n1 l2 n3 n4 := by simp only [CurEnd.q, h]; rfl
def Awake13.q {R : Type} (c : CallF) (K : Bool → Option R) : Option R :=
  match c 24 [] with
    | some p => p.1.asBool fun b1 =>
        seeNil p.2 (
          K b1)
    | none => none
theorem Awake13.q_ok {R : Type} {c : CallF} {K : Bool → Option R} {b1 : Bool} (h : c 24 [] = some (.bool b1, [])) :
    Awake13.q c K = K b1 := by simp only [Awake13.q, h]; rfl
def Awake13.s {R : Type} (c : CallF) (K : Bool → Option R) : Option R :=
  match c 24 [] with
    | some p => p.1.asBool fun b1 =>
        K b1
    | none => none
theorem Awake13.s_ok {R : Type} {c : CallF} {K : Bool → Option R} {b1 : Bool} (h : c 24 [] = some (.bool b1, [])) :
    Awake13.s c K = K b1 := by simp only [Awake13.s, h]; rfl
def Few13.q {R : Type} (c : CallF) (x0 : List ByteArray) (K : Bool → Option R) : Option R :=
  match c 25 [.sl false (.strs x0)] with
    | some p => p.1.asBool fun b1 =>
        seeNil p.2 (
          K b1)
    | none => none
theorem Few13.q_ok {R : Type} {c : CallF} (x0 : List ByteArray) {K : Bool → Option R} {b1 : Bool} (h : c 25 [.sl false (.strs x0)] = some (.bool b1, [])) :
    Few13.q c x0 K = K b1 := by simp only [Few13.q, h]; rfl
def Few13.s {R : Type} (c : CallF) (x0 : List ByteArray) (K : Bool → Option R) : Option R :=
  match c 25 [.sl false (.strs x0)] with
    | some p => p.1.asBool fun b1 =>
        K b1
    | none => none
theorem Few13.s_ok {R : Type} {c : CallF} (x0 : List ByteArray) {K : Bool → Option R} {b1 : Bool} (h : c 25 [.sl false (.strs x0)] = some (.bool b1, [])) :
    Few13.s c x0 K = K b1 := by simp only [Few13.s, h]; rfl
def FrontBuild.q {R : Type} (c : CallF) (x0 : List ByteArray) (x1 : Int) (K : List Int → Int → Option R) : Option R :=
  match c 26 [.sl false (.strs x0), .int .i64 x1] with
    | some p => p.1.asTup fun q1 =>
        seeCons q1 fun c2 r3 =>
          seeInts true .u8 c2 fun l4 =>
            seeCons r3 fun c5 r6 =>
              c5.asInt .i64 fun n7 =>
                seeNil r6 (
                  seeNil p.2 (
                    K l4 n7))
    | none => none
theorem FrontBuild.q_ok {R : Type} {c : CallF} (x0 : List ByteArray) (x1 : Int) {K : List Int → Int → Option R} {l1 : List Int} {n2 : Int} (h : c 26 [.sl false (.strs x0), .int .i64 x1] = some (.tup [.sl true (.ints .u8 l1), .int .i64 n2], [])) :
    FrontBuild.q c x0 x1 K = K l1 n2 := by simp only [FrontBuild.q, h]; rfl
def FrontBuild.s {R : Type} (c : CallF) (x0 : List ByteArray) (x1 : Int) (K : List Int → Int → Option R) : Option R :=
  match c 26 [.sl false (.strs x0), .int .i64 x1] with
    | some p => p.1.asTup fun q1 =>
        seeCons q1 fun c2 r3 =>
          seeInts true .u8 c2 fun l4 =>
            seeCons r3 fun c5 r6 =>
              c5.asInt .i64 fun n7 =>
                seeNil r6 (
                  K l4 n7)
    | none => none
theorem FrontBuild.s_ok {R : Type} {c : CallF} (x0 : List ByteArray) (x1 : Int) {K : List Int → Int → Option R} {l1 : List Int} {n2 : Int} (h : c 26 [.sl false (.strs x0), .int .i64 x1] = some (.tup [.sl true (.ints .u8 l1), .int .i64 n2], [])) :
    FrontBuild.s c x0 x1 K = K l1 n2 := by simp only [FrontBuild.s, h]; rfl
def RefRight.q {R : Type} (c : CallF) (x0 : List ByteArray) (x1 : Int) (K : Bool → Option R) : Option R :=
  match c 27 [.sl false (.strs x0), .int .i64 x1] with
    | some p => p.1.asBool fun b1 =>
        seeNil p.2 (
          K b1)
    | none => none
theorem RefRight.q_ok {R : Type} {c : CallF} (x0 : List ByteArray) (x1 : Int) {K : Bool → Option R} {b1 : Bool} (h : c 27 [.sl false (.strs x0), .int .i64 x1] = some (.bool b1, [])) :
    RefRight.q c x0 x1 K = K b1 := by simp only [RefRight.q, h]; rfl
def RefRight.s {R : Type} (c : CallF) (x0 : List ByteArray) (x1 : Int) (K : Bool → Option R) : Option R :=
  match c 27 [.sl false (.strs x0), .int .i64 x1] with
    | some p => p.1.asBool fun b1 =>
        K b1
    | none => none
theorem RefRight.s_ok {R : Type} {c : CallF} (x0 : List ByteArray) (x1 : Int) {K : Bool → Option R} {b1 : Bool} (h : c 27 [.sl false (.strs x0), .int .i64 x1] = some (.bool b1, [])) :
    RefRight.s c x0 x1 K = K b1 := by simp only [RefRight.s, h]; rfl
def SameB.q {R : Type} (c : CallF) (x0 : List Int) (x1 : List Int) (K : Bool → Option R) : Option R :=
  match c 28 [.sl false (.ints .u8 x0), .sl false (.ints .u8 x1)] with
    | some p => p.1.asBool fun b1 =>
        seeNil p.2 (
          K b1)
    | none => none
theorem SameB.q_ok {R : Type} {c : CallF} (x0 : List Int) (x1 : List Int) {K : Bool → Option R} {b1 : Bool} (h : c 28 [.sl false (.ints .u8 x0), .sl false (.ints .u8 x1)] = some (.bool b1, [])) :
    SameB.q c x0 x1 K = K b1 := by simp only [SameB.q, h]; rfl
def SameB.s {R : Type} (c : CallF) (x0 : List Int) (x1 : List Int) (K : Bool → Option R) : Option R :=
  match c 28 [.sl false (.ints .u8 x0), .sl false (.ints .u8 x1)] with
    | some p => p.1.asBool fun b1 =>
        K b1
    | none => none
theorem SameB.s_ok {R : Type} {c : CallF} (x0 : List Int) (x1 : List Int) {K : Bool → Option R} {b1 : Bool} (h : c 28 [.sl false (.ints .u8 x0), .sl false (.ints .u8 x1)] = some (.bool b1, [])) :
    SameB.s c x0 x1 K = K b1 := by simp only [SameB.s, h]; rfl
def RefBuild.q {R : Type} (c : CallF) (x0 : List ByteArray) (x1 : Int) (K : List Int → Option R) : Option R :=
  match c 29 [.sl false (.strs x0), .int .i64 x1] with
    | some p => seeInts true .u8 p.1 fun l1 =>
        seeNil p.2 (
          K l1)
    | none => none
theorem RefBuild.q_ok {R : Type} {c : CallF} (x0 : List ByteArray) (x1 : Int) {K : List Int → Option R} {l1 : List Int} (h : c 29 [.sl false (.strs x0), .int .i64 x1] = some (.sl true (.ints .u8 l1), [])) :
    RefBuild.q c x0 x1 K = K l1 := by simp only [RefBuild.q, h]; rfl
def RefBuild.s {R : Type} (c : CallF) (x0 : List ByteArray) (x1 : Int) (K : List Int → Option R) : Option R :=
  match c 29 [.sl false (.strs x0), .int .i64 x1] with
    | some p => seeInts true .u8 p.1 fun l1 =>
        K l1
    | none => none
theorem RefBuild.s_ok {R : Type} {c : CallF} (x0 : List ByteArray) (x1 : Int) {K : List Int → Option R} {l1 : List Int} (h : c 29 [.sl false (.strs x0), .int .i64 x1] = some (.sl true (.ints .u8 l1), [])) :
    RefBuild.s c x0 x1 K = K l1 := by simp only [RefBuild.s, h]; rfl
def FrontOpen.q {R : Type} (c : CallF) (x0 : List Int) (x1 : Int) (x2 : Int) (K : List ByteArray → List Int → Int → Int → Option R) : Option R :=
  match c 30 [.pt [.sl false (.ints .u8 x0), .int .i64 x1, .int .i64 x2]] with
    | some p => p.1.asPv fun q1 =>
        seeCons q1 fun c2 r3 =>
          seeStrs false c2 fun l4 =>
            seeNil r3 (
              seeCons p.2 fun c5 r6 =>
                c5.asPt fun q7 =>
                  seeCons q7 fun c8 r9 =>
                    seeInts false .u8 c8 fun l10 =>
                      seeCons r9 fun c11 r12 =>
                        c11.asInt .i64 fun n13 =>
                          seeCons r12 fun c14 r15 =>
                            c14.asInt .i64 fun n16 =>
                              seeNil r15 (
                                seeNil r6 (
                                  K l4 l10 n13 n16)))
    | none => none
theorem FrontOpen.q_ok {R : Type} {c : CallF} (x0 : List Int) (x1 : Int) (x2 : Int) {K : List ByteArray → List Int → Int → Int → Option R} {l1 : List ByteArray} {l2 : List Int} {n3 : Int} {n4 : Int} (h : c 30 [.pt [.sl false (.ints .u8 x0), .int .i64 x1, .int .i64 x2]] = some (.pv [.sl false (.strs l1)] 0, [.pt [.sl false (.ints .u8 l2), .int .i64 n3, .int .i64 n4]])) :
    FrontOpen.q c x0 x1 x2 K = K l1 l2 n3 n4 := by simp only [FrontOpen.q, h]; rfl
def CurGood.q {R : Type} (c : CallF) (x0 : List Int) (x1 : Int) (x2 : Int) (K : Bool → List Int → Int → Int → Option R) : Option R :=
  match c 31 [.pt [.sl false (.ints .u8 x0), .int .i64 x1, .int .i64 x2]] with
    | some p => p.1.asBool fun b1 =>
        seeCons p.2 fun c2 r3 =>
          c2.asPt fun q4 =>
            seeCons q4 fun c5 r6 =>
              seeInts false .u8 c5 fun l7 =>
                seeCons r6 fun c8 r9 =>
                  c8.asInt .i64 fun n10 =>
                    seeCons r9 fun c11 r12 =>
                      c11.asInt .i64 fun n13 =>
                        seeNil r12 (
                          seeNil r3 (
                            K b1 l7 n10 n13))
    | none => none
theorem CurGood.q_ok {R : Type} {c : CallF} (x0 : List Int) (x1 : Int) (x2 : Int) {K : Bool → List Int → Int → Int → Option R} {b1 : Bool} {l2 : List Int} {n3 : Int} {n4 : Int} (h : c 31 [.pt [.sl false (.ints .u8 x0), .int .i64 x1, .int .i64 x2]] = some (.bool b1, [.pt [.sl false (.ints .u8 l2), .int .i64 n3, .int .i64 n4]])) :
    CurGood.q c x0 x1 x2 K = K b1 l2 n3 n4 := by simp only [CurGood.q, h]; rfl
def DictLen.q {R : Type} (c : CallF) (x0 : List ByteArray) (K : Int → Option R) : Option R :=
  match c 32 [.pv [.sl false (.strs x0)] 0] with
    | some p => p.1.asInt .i64 fun n1 =>
        seeNil p.2 (
          K n1)
    | none => none
theorem DictLen.q_ok {R : Type} {c : CallF} (x0 : List ByteArray) {K : Int → Option R} {n1 : Int} (h : c 32 [.pv [.sl false (.strs x0)] 0] = some (.int .i64 n1, [])) :
    DictLen.q c x0 K = K n1 := by simp only [DictLen.q, h]; rfl
def DictLen.s {R : Type} (c : CallF) (x0 : List ByteArray) (K : Int → Option R) : Option R :=
  match c 32 [.pv [.sl false (.strs x0)] 0] with
    | some p => p.1.asInt .i64 fun n1 =>
        K n1
    | none => none
theorem DictLen.s_ok {R : Type} {c : CallF} (x0 : List ByteArray) {K : Int → Option R} {n1 : Int} (h : c 32 [.pv [.sl false (.strs x0)] 0] = some (.int .i64 n1, [])) :
    DictLen.s c x0 K = K n1 := by simp only [DictLen.s, h]; rfl
def DictAll.q {R : Type} (c : CallF) (x0 : List ByteArray) (K : List ByteArray → Option R) : Option R :=
  match c 33 [.pv [.sl false (.strs x0)] 0] with
    | some p => seeStrs true p.1 fun l1 =>
        seeNil p.2 (
          K l1)
    | none => none
theorem DictAll.q_ok {R : Type} {c : CallF} (x0 : List ByteArray) {K : List ByteArray → Option R} {l1 : List ByteArray} (h : c 33 [.pv [.sl false (.strs x0)] 0] = some (.sl true (.strs l1), [])) :
    DictAll.q c x0 K = K l1 := by simp only [DictAll.q, h]; rfl
def DictAll.s {R : Type} (c : CallF) (x0 : List ByteArray) (K : List ByteArray → Option R) : Option R :=
  match c 33 [.pv [.sl false (.strs x0)] 0] with
    | some p => seeStrs true p.1 fun l1 =>
        K l1
    | none => none
theorem DictAll.s_ok {R : Type} {c : CallF} (x0 : List ByteArray) {K : List ByteArray → Option R} {l1 : List ByteArray} (h : c 33 [.pv [.sl false (.strs x0)] 0] = some (.sl true (.strs l1), [])) :
    DictAll.s c x0 K = K l1 := by simp only [DictAll.s, h]; rfl
def CurLeft.q {R : Type} (c : CallF) (x0 : List Int) (x1 : Int) (x2 : Int) (K : Int → List Int → Int → Int → Option R) : Option R :=
  match c 34 [.pt [.sl false (.ints .u8 x0), .int .i64 x1, .int .i64 x2]] with
    | some p => p.1.asInt .i64 fun n1 =>
        seeCons p.2 fun c2 r3 =>
          c2.asPt fun q4 =>
            seeCons q4 fun c5 r6 =>
              seeInts false .u8 c5 fun l7 =>
                seeCons r6 fun c8 r9 =>
                  c8.asInt .i64 fun n10 =>
                    seeCons r9 fun c11 r12 =>
                      c11.asInt .i64 fun n13 =>
                        seeNil r12 (
                          seeNil r3 (
                            K n1 l7 n10 n13))
    | none => none
theorem CurLeft.q_ok {R : Type} {c : CallF} (x0 : List Int) (x1 : Int) (x2 : Int) {K : Int → List Int → Int → Int → Option R} {n1 : Int} {l2 : List Int} {n3 : Int} {n4 : Int} (h : c 34 [.pt [.sl false (.ints .u8 x0), .int .i64 x1, .int .i64 x2]] = some (.int .i64 n1, [.pt [.sl false (.ints .u8 l2), .int .i64 n3, .int .i64 n4]])) :
    CurLeft.q c x0 x1 x2 K = K n1 l2 n3 n4 := by simp only [CurLeft.q, h]; rfl
def RefSorted.q {R : Type} (c : CallF) (x0 : List ByteArray) (K : List ByteArray → Option R) : Option R :=
  match c 35 [.sl false (.strs x0)] with
    | some p => seeStrs false p.1 fun l1 =>
        seeNil p.2 (
          K l1)
    | none => none
theorem RefSorted.q_ok {R : Type} {c : CallF} (x0 : List ByteArray) {K : List ByteArray → Option R} {l1 : List ByteArray} (h : c 35 [.sl false (.strs x0)] = some (.sl false (.strs l1), [])) :
    RefSorted.q c x0 K = K l1 := by simp only [RefSorted.q, h]; rfl
def RefSorted.s {R : Type} (c : CallF) (x0 : List ByteArray) (K : List ByteArray → Option R) : Option R :=
  match c 35 [.sl false (.strs x0)] with
    | some p => seeStrs false p.1 fun l1 =>
        K l1
    | none => none
theorem RefSorted.s_ok {R : Type} {c : CallF} (x0 : List ByteArray) {K : List ByteArray → Option R} {l1 : List ByteArray} (h : c 35 [.sl false (.strs x0)] = some (.sl false (.strs l1), [])) :
    RefSorted.s c x0 K = K l1 := by simp only [RefSorted.s, h]; rfl
def SameS.q {R : Type} (c : CallF) (x0 : List ByteArray) (x1 : List ByteArray) (K : Bool → Option R) : Option R :=
  match c 36 [.sl false (.strs x0), .sl false (.strs x1)] with
    | some p => p.1.asBool fun b1 =>
        seeNil p.2 (
          K b1)
    | none => none
theorem SameS.q_ok {R : Type} {c : CallF} (x0 : List ByteArray) (x1 : List ByteArray) {K : Bool → Option R} {b1 : Bool} (h : c 36 [.sl false (.strs x0), .sl false (.strs x1)] = some (.bool b1, [])) :
    SameS.q c x0 x1 K = K b1 := by simp only [SameS.q, h]; rfl
def SameS.s {R : Type} (c : CallF) (x0 : List ByteArray) (x1 : List ByteArray) (K : Bool → Option R) : Option R :=
  match c 36 [.sl false (.strs x0), .sl false (.strs x1)] with
    | some p => p.1.asBool fun b1 =>
        K b1
    | none => none
theorem SameS.s_ok {R : Type} {c : CallF} (x0 : List ByteArray) (x1 : List ByteArray) {K : Bool → Option R} {b1 : Bool} (h : c 36 [.sl false (.strs x0), .sl false (.strs x1)] = some (.bool b1, [])) :
    SameS.s c x0 x1 K = K b1 := by simp only [SameS.s, h]; rfl
def DictAt.q {R : Type} (c : CallF) (x0 : List ByteArray) (x1 : Int) (K : ByteArray → Option R) : Option R :=
  match c 37 [.pv [.sl false (.strs x0)] 0, .int .i64 x1] with
    | some p => p.1.asStr fun s1 =>
        seeNil p.2 (
          K s1)
    | none => none
theorem DictAt.q_ok {R : Type} {c : CallF} (x0 : List ByteArray) (x1 : Int) {K : ByteArray → Option R} {s1 : ByteArray} (h : c 37 [.pv [.sl false (.strs x0)] 0, .int .i64 x1] = some (.str s1, [])) :
    DictAt.q c x0 x1 K = K s1 := by simp only [DictAt.q, h]; rfl
def DictAt.s {R : Type} (c : CallF) (x0 : List ByteArray) (x1 : Int) (K : ByteArray → Option R) : Option R :=
  match c 37 [.pv [.sl false (.strs x0)] 0, .int .i64 x1] with
    | some p => p.1.asStr fun s1 =>
        K s1
    | none => none
theorem DictAt.s_ok {R : Type} {c : CallF} (x0 : List ByteArray) (x1 : Int) {K : ByteArray → Option R} {s1 : ByteArray} (h : c 37 [.pv [.sl false (.strs x0)] 0, .int .i64 x1] = some (.str s1, [])) :
    DictAt.s c x0 x1 K = K s1 := by simp only [DictAt.s, h]; rfl
def Dict14.q {R : Type} (c : CallF) (x0 : List ByteArray) (K : List ByteArray → Bool → Option R) (L : List ByteArray → List ByteArray → Bool → Option R) : Option R :=
  match c 38 [.sl false (.strs x0)] with
    | some p => p.1.asTup fun q1 =>
        seeCons q1 fun c2 r3 =>
          c2.asPvn
            (seeCons r3 fun c5 r6 =>
              seeStrs false c5 fun l7 =>
                seeCons r6 fun c8 r9 =>
                  c8.asBool fun b10 =>
                    seeNil r9 (
                      seeNil p.2 (
                        K l7 b10))) fun q4 =>
            seeCons q4 fun c11 r12 =>
              seeStrs false c11 fun l13 =>
                seeNil r12 (
                  seeCons r3 fun c14 r15 =>
                    seeStrs false c14 fun l16 =>
                      seeCons r15 fun c17 r18 =>
                        c17.asBool fun b19 =>
                          seeNil r18 (
                            seeNil p.2 (
                              L l13 l16 b19)))
    | none => none
theorem Dict14.q_nil {R : Type} {c : CallF} (x0 : List ByteArray) {K : List ByteArray → Bool → Option R} {L : List ByteArray → List ByteArray → Bool → Option R} {l1 : List ByteArray} {b2 : Bool} (h : c 38 [.sl false (.strs x0)] = some (.tup [.nilp, .sl false (.strs l1), .bool b2], [])) :
    Dict14.q c x0 K L = K l1 b2 := by simp only [Dict14.q, h]; rfl
theorem Dict14.q_ok {R : Type} {c : CallF} (x0 : List ByteArray) {K : List ByteArray → Bool → Option R} {L : List ByteArray → List ByteArray → Bool → Option R} {l3 : List ByteArray} {l4 : List ByteArray} {b5 : Bool} (h : c 38 [.sl false (.strs x0)] = some (.tup [.pv [.sl false (.strs l3)] 0, .sl false (.strs l4), .bool b5], [])) :
    Dict14.q c x0 K L = L l3 l4 b5 := by simp only [Dict14.q, h]; rfl
def Dict14.s {R : Type} (c : CallF) (x0 : List ByteArray) (K : List ByteArray → Bool → Option R) (L : List ByteArray → List ByteArray → Bool → Option R) : Option R :=
  match c 38 [.sl false (.strs x0)] with
    | some p => p.1.asTup fun q1 =>
        seeCons q1 fun c2 r3 =>
          c2.asPvn
            (seeCons r3 fun c5 r6 =>
              seeStrs false c5 fun l7 =>
                seeCons r6 fun c8 r9 =>
                  c8.asBool fun b10 =>
                    seeNil r9 (
                      K l7 b10)) fun q4 =>
            seeCons q4 fun c11 r12 =>
              seeStrs false c11 fun l13 =>
                seeNil r12 (
                  seeCons r3 fun c14 r15 =>
                    seeStrs false c14 fun l16 =>
                      seeCons r15 fun c17 r18 =>
                        c17.asBool fun b19 =>
                          seeNil r18 (
                            L l13 l16 b19))
    | none => none
theorem Dict14.s_nil {R : Type} {c : CallF} (x0 : List ByteArray) {K : List ByteArray → Bool → Option R} {L : List ByteArray → List ByteArray → Bool → Option R} {l1 : List ByteArray} {b2 : Bool} (h : c 38 [.sl false (.strs x0)] = some (.tup [.nilp, .sl false (.strs l1), .bool b2], [])) :
    Dict14.s c x0 K L = K l1 b2 := by simp only [Dict14.s, h]; rfl
theorem Dict14.s_ok {R : Type} {c : CallF} (x0 : List ByteArray) {K : List ByteArray → Bool → Option R} {L : List ByteArray → List ByteArray → Bool → Option R} {l3 : List ByteArray} {l4 : List ByteArray} {b5 : Bool} (h : c 38 [.sl false (.strs x0)] = some (.tup [.pv [.sl false (.strs l3)] 0, .sl false (.strs l4), .bool b5], [])) :
    Dict14.s c x0 K L = L l3 l4 b5 := by simp only [Dict14.s, h]; rfl
def Awake14.q {R : Type} (c : CallF) (K : Bool → Option R) : Option R :=
  match c 39 [] with
    | some p => p.1.asBool fun b1 =>
        seeNil p.2 (
          K b1)
    | none => none
theorem Awake14.q_ok {R : Type} {c : CallF} {K : Bool → Option R} {b1 : Bool} (h : c 39 [] = some (.bool b1, [])) :
    Awake14.q c K = K b1 := by simp only [Awake14.q, h]; rfl
def Awake14.s {R : Type} (c : CallF) (K : Bool → Option R) : Option R :=
  match c 39 [] with
    | some p => p.1.asBool fun b1 =>
        K b1
    | none => none
theorem Awake14.s_ok {R : Type} {c : CallF} {K : Bool → Option R} {b1 : Bool} (h : c 39 [] = some (.bool b1, [])) :
    Awake14.s c K = K b1 := by simp only [Awake14.s, h]; rfl
def RefCompare.q {R : Type} (c : CallF) (x0 : ByteArray) (x1 : ByteArray) (K : Int → Option R) : Option R :=
  match c 40 [.str x0, .str x1] with
    | some p => p.1.asInt .i64 fun n1 =>
        seeNil p.2 (
          K n1)
    | none => none
theorem RefCompare.q_ok {R : Type} {c : CallF} (x0 : ByteArray) (x1 : ByteArray) {K : Int → Option R} {n1 : Int} (h : c 40 [.str x0, .str x1] = some (.int .i64 n1, [])) :
    RefCompare.q c x0 x1 K = K n1 := by simp only [RefCompare.q, h]; rfl
def RefCompare.s {R : Type} (c : CallF) (x0 : ByteArray) (x1 : ByteArray) (K : Int → Option R) : Option R :=
  match c 40 [.str x0, .str x1] with
    | some p => p.1.asInt .i64 fun n1 =>
        K n1
    | none => none
theorem RefCompare.s_ok {R : Type} {c : CallF} (x0 : ByteArray) (x1 : ByteArray) {K : Int → Option R} {n1 : Int} (h : c 40 [.str x0, .str x1] = some (.int .i64 n1, [])) :
    RefCompare.s c x0 x1 K = K n1 := by simp only [RefCompare.s, h]; rfl
def SeekCode.q {R : Type} (c : CallF) (x0 : List ByteArray) (x1 : ByteArray) (K : Int → Bool → Option R) : Option R :=
  match c 41 [.pv [.sl false (.strs x0)] 0, .str x1] with
    | some p => p.1.asTup fun q1 =>
        seeCons q1 fun c2 r3 =>
          c2.asInt .i64 fun n4 =>
            seeCons r3 fun c5 r6 =>
              c5.asBool fun b7 =>
                seeNil r6 (
                  seeNil p.2 (
                    K n4 b7))
    | none => none
theorem SeekCode.q_ok {R : Type} {c : CallF} (x0 : List ByteArray) (x1 : ByteArray) {K : Int → Bool → Option R} {n1 : Int} {b2 : Bool} (h : c 41 [.pv [.sl false (.strs x0)] 0, .str x1] = some (.tup [.int .i64 n1, .bool b2], [])) :
    SeekCode.q c x0 x1 K = K n1 b2 := by simp only [SeekCode.q, h]; rfl
def SeekCode.s {R : Type} (c : CallF) (x0 : List ByteArray) (x1 : ByteArray) (K : Int → Bool → Option R) : Option R :=
  match c 41 [.pv [.sl false (.strs x0)] 0, .str x1] with
    | some p => p.1.asTup fun q1 =>
        seeCons q1 fun c2 r3 =>
          c2.asInt .i64 fun n4 =>
            seeCons r3 fun c5 r6 =>
              c5.asBool fun b7 =>
                seeNil r6 (
                  K n4 b7)
    | none => none
theorem SeekCode.s_ok {R : Type} {c : CallF} (x0 : List ByteArray) (x1 : ByteArray) {K : Int → Bool → Option R} {n1 : Int} {b2 : Bool} (h : c 41 [.pv [.sl false (.strs x0)] 0, .str x1] = some (.tup [.int .i64 n1, .bool b2], [])) :
    SeekCode.s c x0 x1 K = K n1 b2 := by simp only [SeekCode.s, h]; rfl
def SeekLower.q {R : Type} (c : CallF) (x0 : List ByteArray) (x1 : ByteArray) (K : Int → Option R) : Option R :=
  match c 42 [.pv [.sl false (.strs x0)] 0, .str x1] with
    | some p => p.1.asInt .i64 fun n1 =>
        seeNil p.2 (
          K n1)
    | none => none
theorem SeekLower.q_ok {R : Type} {c : CallF} (x0 : List ByteArray) (x1 : ByteArray) {K : Int → Option R} {n1 : Int} (h : c 42 [.pv [.sl false (.strs x0)] 0, .str x1] = some (.int .i64 n1, [])) :
    SeekLower.q c x0 x1 K = K n1 := by simp only [SeekLower.q, h]; rfl
def SeekLower.s {R : Type} (c : CallF) (x0 : List ByteArray) (x1 : ByteArray) (K : Int → Option R) : Option R :=
  match c 42 [.pv [.sl false (.strs x0)] 0, .str x1] with
    | some p => p.1.asInt .i64 fun n1 =>
        K n1
    | none => none
theorem SeekLower.s_ok {R : Type} {c : CallF} (x0 : List ByteArray) (x1 : ByteArray) {K : Int → Option R} {n1 : Int} (h : c 42 [.pv [.sl false (.strs x0)] 0, .str x1] = some (.int .i64 n1, [])) :
    SeekLower.s c x0 x1 K = K n1 := by simp only [SeekLower.s, h]; rfl
def SeekUpper.q {R : Type} (c : CallF) (x0 : List ByteArray) (x1 : ByteArray) (K : Int → Option R) : Option R :=
  match c 43 [.pv [.sl false (.strs x0)] 0, .str x1] with
    | some p => p.1.asInt .i64 fun n1 =>
        seeNil p.2 (
          K n1)
    | none => none
theorem SeekUpper.q_ok {R : Type} {c : CallF} (x0 : List ByteArray) (x1 : ByteArray) {K : Int → Option R} {n1 : Int} (h : c 43 [.pv [.sl false (.strs x0)] 0, .str x1] = some (.int .i64 n1, [])) :
    SeekUpper.q c x0 x1 K = K n1 := by simp only [SeekUpper.q, h]; rfl
def SeekUpper.s {R : Type} (c : CallF) (x0 : List ByteArray) (x1 : ByteArray) (K : Int → Option R) : Option R :=
  match c 43 [.pv [.sl false (.strs x0)] 0, .str x1] with
    | some p => p.1.asInt .i64 fun n1 =>
        K n1
    | none => none
theorem SeekUpper.s_ok {R : Type} {c : CallF} (x0 : List ByteArray) (x1 : ByteArray) {K : Int → Option R} {n1 : Int} (h : c 43 [.pv [.sl false (.strs x0)] 0, .str x1] = some (.int .i64 n1, [])) :
    SeekUpper.s c x0 x1 K = K n1 := by simp only [SeekUpper.s, h]; rfl
def SeekPrefix.q {R : Type} (c : CallF) (x0 : List ByteArray) (x1 : ByteArray) (K : Int → Int → Option R) : Option R :=
  match c 44 [.pv [.sl false (.strs x0)] 0, .str x1] with
    | some p => p.1.asTup fun q1 =>
        seeCons q1 fun c2 r3 =>
          c2.asInt .i64 fun n4 =>
            seeCons r3 fun c5 r6 =>
              c5.asInt .i64 fun n7 =>
                seeNil r6 (
                  seeNil p.2 (
                    K n4 n7))
    | none => none
theorem SeekPrefix.q_ok {R : Type} {c : CallF} (x0 : List ByteArray) (x1 : ByteArray) {K : Int → Int → Option R} {n1 : Int} {n2 : Int} (h : c 44 [.pv [.sl false (.strs x0)] 0, .str x1] = some (.tup [.int .i64 n1, .int .i64 n2], [])) :
    SeekPrefix.q c x0 x1 K = K n1 n2 := by simp only [SeekPrefix.q, h]; rfl
def SeekPrefix.s {R : Type} (c : CallF) (x0 : List ByteArray) (x1 : ByteArray) (K : Int → Int → Option R) : Option R :=
  match c 44 [.pv [.sl false (.strs x0)] 0, .str x1] with
    | some p => p.1.asTup fun q1 =>
        seeCons q1 fun c2 r3 =>
          c2.asInt .i64 fun n4 =>
            seeCons r3 fun c5 r6 =>
              c5.asInt .i64 fun n7 =>
                seeNil r6 (
                  K n4 n7)
    | none => none
theorem SeekPrefix.s_ok {R : Type} {c : CallF} (x0 : List ByteArray) (x1 : ByteArray) {K : Int → Int → Option R} {n1 : Int} {n2 : Int} (h : c 44 [.pv [.sl false (.strs x0)] 0, .str x1] = some (.tup [.int .i64 n1, .int .i64 n2], [])) :
    SeekPrefix.s c x0 x1 K = K n1 n2 := by simp only [SeekPrefix.s, h]; rfl
def HasPre.q {R : Type} (c : CallF) (x0 : ByteArray) (x1 : ByteArray) (K : Bool → Option R) : Option R :=
  match c 45 [.str x0, .str x1] with
    | some p => p.1.asBool fun b1 =>
        seeNil p.2 (
          K b1)
    | none => none
theorem HasPre.q_ok {R : Type} {c : CallF} (x0 : ByteArray) (x1 : ByteArray) {K : Bool → Option R} {b1 : Bool} (h : c 45 [.str x0, .str x1] = some (.bool b1, [])) :
    HasPre.q c x0 x1 K = K b1 := by simp only [HasPre.q, h]; rfl
def HasPre.s {R : Type} (c : CallF) (x0 : ByteArray) (x1 : ByteArray) (K : Bool → Option R) : Option R :=
  match c 45 [.str x0, .str x1] with
    | some p => p.1.asBool fun b1 =>
        K b1
    | none => none
theorem HasPre.s_ok {R : Type} {c : CallF} (x0 : ByteArray) (x1 : ByteArray) {K : Bool → Option R} {b1 : Bool} (h : c 45 [.str x0, .str x1] = some (.bool b1, [])) :
    HasPre.s c x0 x1 K = K b1 := by simp only [HasPre.s, h]; rfl
def SeekMap.q {R : Type} (c : CallF) (x0 : List ByteArray) (x1 : List ByteArray) (K : List Int → Option R) : Option R :=
  match c 46 [.pv [.sl false (.strs x0)] 0, .pv [.sl false (.strs x1)] 0] with
    | some p => seeInts true .i64 p.1 fun l1 =>
        seeNil p.2 (
          K l1)
    | none => none
theorem SeekMap.q_ok {R : Type} {c : CallF} (x0 : List ByteArray) (x1 : List ByteArray) {K : List Int → Option R} {l1 : List Int} (h : c 46 [.pv [.sl false (.strs x0)] 0, .pv [.sl false (.strs x1)] 0] = some (.sl true (.ints .i64 l1), [])) :
    SeekMap.q c x0 x1 K = K l1 := by simp only [SeekMap.q, h]; rfl
def SeekMap.s {R : Type} (c : CallF) (x0 : List ByteArray) (x1 : List ByteArray) (K : List Int → Option R) : Option R :=
  match c 46 [.pv [.sl false (.strs x0)] 0, .pv [.sl false (.strs x1)] 0] with
    | some p => seeInts true .i64 p.1 fun l1 =>
        K l1
    | none => none
theorem SeekMap.s_ok {R : Type} {c : CallF} (x0 : List ByteArray) (x1 : List ByteArray) {K : List Int → Option R} {l1 : List Int} (h : c 46 [.pv [.sl false (.strs x0)] 0, .pv [.sl false (.strs x1)] 0] = some (.sl true (.ints .i64 l1), [])) :
    SeekMap.s c x0 x1 K = K l1 := by simp only [SeekMap.s, h]; rfl
def SeekMerge.q {R : Type} (c : CallF) (x0 : List ByteArray) (x1 : List ByteArray) (K : List ByteArray → Option R) : Option R :=
  match c 47 [.pv [.sl false (.strs x0)] 0, .pv [.sl false (.strs x1)] 0] with
    | some p => seeStrs true p.1 fun l1 =>
        seeNil p.2 (
          K l1)
    | none => none
theorem SeekMerge.q_ok {R : Type} {c : CallF} (x0 : List ByteArray) (x1 : List ByteArray) {K : List ByteArray → Option R} {l1 : List ByteArray} (h : c 47 [.pv [.sl false (.strs x0)] 0, .pv [.sl false (.strs x1)] 0] = some (.sl true (.strs l1), [])) :
    SeekMerge.q c x0 x1 K = K l1 := by simp only [SeekMerge.q, h]; rfl
def SeekMerge.s {R : Type} (c : CallF) (x0 : List ByteArray) (x1 : List ByteArray) (K : List ByteArray → Option R) : Option R :=
  match c 47 [.pv [.sl false (.strs x0)] 0, .pv [.sl false (.strs x1)] 0] with
    | some p => seeStrs true p.1 fun l1 =>
        K l1
    | none => none
theorem SeekMerge.s_ok {R : Type} {c : CallF} (x0 : List ByteArray) (x1 : List ByteArray) {K : List ByteArray → Option R} {l1 : List ByteArray} (h : c 47 [.pv [.sl false (.strs x0)] 0, .pv [.sl false (.strs x1)] 0] = some (.sl true (.strs l1), [])) :
    SeekMerge.s c x0 x1 K = K l1 := by simp only [SeekMerge.s, h]; rfl
def Len32.q {R : Type} (c : CallF) (x0 : Int) (K : Int → Option R) : Option R :=
  match c 55 [.int .u32 x0] with
    | some p => p.1.asInt .i64 fun n1 =>
        seeNil p.2 (
          K n1)
    | none => none
theorem Len32.q_ok {R : Type} {c : CallF} (x0 : Int) {K : Int → Option R} {n1 : Int} (h : c 55 [.int .u32 x0] = some (.int .i64 n1, [])) :
    Len32.q c x0 K = K n1 := by simp only [Len32.q, h]; rfl
def Len32.s {R : Type} (c : CallF) (x0 : Int) (K : Int → Option R) : Option R :=
  match c 55 [.int .u32 x0] with
    | some p => p.1.asInt .i64 fun n1 =>
        K n1
    | none => none
theorem Len32.s_ok {R : Type} {c : CallF} (x0 : Int) {K : Int → Option R} {n1 : Int} (h : c 55 [.int .u32 x0] = some (.int .i64 n1, [])) :
    Len32.s c x0 K = K n1 := by simp only [Len32.s, h]; rfl
def MaxInts.q {R : Type} (c : CallF) (x0 : List Int) (K : Int → Option R) : Option R :=
  match c 56 [.sl false (.ints .i64 x0)] with
    | some p => p.1.asInt .i64 fun n1 =>
        seeNil p.2 (
          K n1)
    | none => none
theorem MaxInts.q_ok {R : Type} {c : CallF} (x0 : List Int) {K : Int → Option R} {n1 : Int} (h : c 56 [.sl false (.ints .i64 x0)] = some (.int .i64 n1, [])) :
    MaxInts.q c x0 K = K n1 := by simp only [MaxInts.q, h]; rfl
def MaxInts.s {R : Type} (c : CallF) (x0 : List Int) (K : Int → Option R) : Option R :=
  match c 56 [.sl false (.ints .i64 x0)] with
    | some p => p.1.asInt .i64 fun n1 =>
        K n1
    | none => none
theorem MaxInts.s_ok {R : Type} {c : CallF} (x0 : List Int) {K : Int → Option R} {n1 : Int} (h : c 56 [.sl false (.ints .i64 x0)] = some (.int .i64 n1, [])) :
    MaxInts.s c x0 K = K n1 := by simp only [MaxInts.s, h]; rfl
def PackSize.q {R : Type} (c : CallF) (x0 : Int) (x1 : Int) (K : Int → Option R) : Option R :=
  match c 57 [.int .i64 x0, .int .i64 x1] with
    | some p => p.1.asInt .i64 fun n1 =>
        seeNil p.2 (
          K n1)
    | none => none
theorem PackSize.q_ok {R : Type} {c : CallF} (x0 : Int) (x1 : Int) {K : Int → Option R} {n1 : Int} (h : c 57 [.int .i64 x0, .int .i64 x1] = some (.int .i64 n1, [])) :
    PackSize.q c x0 x1 K = K n1 := by simp only [PackSize.q, h]; rfl
def PackSize.s {R : Type} (c : CallF) (x0 : Int) (x1 : Int) (K : Int → Option R) : Option R :=
  match c 57 [.int .i64 x0, .int .i64 x1] with
    | some p => p.1.asInt .i64 fun n1 =>
        K n1
    | none => none
theorem PackSize.s_ok {R : Type} {c : CallF} (x0 : Int) (x1 : Int) {K : Int → Option R} {n1 : Int} (h : c 57 [.int .i64 x0, .int .i64 x1] = some (.int .i64 n1, [])) :
    PackSize.s c x0 x1 K = K n1 := by simp only [PackSize.s, h]; rfl
def HasBad.q {R : Type} (c : CallF) (x0 : List Int) (K : Bool → Option R) : Option R :=
  match c 58 [.sl false (.ints .i64 x0), .fn 59 []] with
    | some p => p.1.asBool fun b1 =>
        seeNil p.2 (
          K b1)
    | none => none
theorem HasBad.q_ok {R : Type} {c : CallF} (x0 : List Int) {K : Bool → Option R} {b1 : Bool} (h : c 58 [.sl false (.ints .i64 x0), .fn 59 []] = some (.bool b1, [])) :
    HasBad.q c x0 K = K b1 := by simp only [HasBad.q, h]; rfl
def HasBad.s {R : Type} (c : CallF) (x0 : List Int) (K : Bool → Option R) : Option R :=
  match c 58 [.sl false (.ints .i64 x0), .fn 59 []] with
    | some p => p.1.asBool fun b1 =>
        K b1
    | none => none
theorem HasBad.s_ok {R : Type} {c : CallF} (x0 : List Int) {K : Bool → Option R} {b1 : Bool} (h : c 58 [.sl false (.ints .i64 x0), .fn 59 []] = some (.bool b1, [])) :
    HasBad.s c x0 K = K b1 := by simp only [HasBad.s, h]; rfl
def PackBad.q {R : Type} (c : CallF) (x0 : Int) (K : Bool → Option R) : Option R :=
  match c 59 [.int .i64 x0] with
    | some p => p.1.asBool fun b1 =>
        seeNil p.2 (
          K b1)
    | none => none
theorem PackBad.q_ok {R : Type} {c : CallF} (x0 : Int) {K : Bool → Option R} {b1 : Bool} (h : c 59 [.int .i64 x0] = some (.bool b1, [])) :
    PackBad.q c x0 K = K b1 := by simp only [PackBad.q, h]; rfl
def PackBad.s {R : Type} (c : CallF) (x0 : Int) (K : Bool → Option R) : Option R :=
  match c 59 [.int .i64 x0] with
    | some p => p.1.asBool fun b1 =>
        K b1
    | none => none
theorem PackBad.s_ok {R : Type} {c : CallF} (x0 : Int) {K : Bool → Option R} {b1 : Bool} (h : c 59 [.int .i64 x0] = some (.bool b1, [])) :
    PackBad.s c x0 K = K b1 := by simp only [PackBad.s, h]; rfl
def Concat.q {R : Type} (c : CallF) (x0 : List V) (K : List Int → Option R) : Option R :=
  match c 60 [.sl false (.vals 1 x0)] with
    | some p => seeInts true .u8 p.1 fun l1 =>
        seeNil p.2 (
          K l1)
    | none => none
theorem Concat.q_ok {R : Type} {c : CallF} (x0 : List V) {K : List Int → Option R} {l1 : List Int} (h : c 60 [.sl false (.vals 1 x0)] = some (.sl true (.ints .u8 l1), [])) :
    Concat.q c x0 K = K l1 := by simp only [Concat.q, h]; rfl
def Concat.s {R : Type} (c : CallF) (x0 : List V) (K : List Int → Option R) : Option R :=
  match c 60 [.sl false (.vals 1 x0)] with
    | some p => seeInts true .u8 p.1 fun l1 =>
        K l1
    | none => none
theorem Concat.s_ok {R : Type} {c : CallF} (x0 : List V) {K : List Int → Option R} {l1 : List Int} (h : c 60 [.sl false (.vals 1 x0)] = some (.sl true (.ints .u8 l1), [])) :
    Concat.s c x0 K = K l1 := by simp only [Concat.s, h]; rfl
def CurPut.q {R : Type} (c : CallF) (x0 : Int) (K : List Int → Option R) : Option R :=
  match c 61 [.int .i64 x0] with
    | some p => seeInts true .u8 p.1 fun l1 =>
        seeNil p.2 (
          K l1)
    | none => none
theorem CurPut.q_ok {R : Type} {c : CallF} (x0 : Int) {K : List Int → Option R} {l1 : List Int} (h : c 61 [.int .i64 x0] = some (.sl true (.ints .u8 l1), [])) :
    CurPut.q c x0 K = K l1 := by simp only [CurPut.q, h]; rfl
def CurPut.s {R : Type} (c : CallF) (x0 : Int) (K : List Int → Option R) : Option R :=
  match c 61 [.int .i64 x0] with
    | some p => seeInts true .u8 p.1 fun l1 =>
        K l1
    | none => none
theorem CurPut.s_ok {R : Type} {c : CallF} (x0 : Int) {K : List Int → Option R} {l1 : List Int} (h : c 61 [.int .i64 x0] = some (.sl true (.ints .u8 l1), [])) :
    CurPut.s c x0 K = K l1 := by simp only [CurPut.s, h]; rfl
def CloneB.q {R : Type} (c : CallF) (x0 : List Int) (K : List Int → Option R) : Option R :=
  match c 62 [.sl false (.ints .u8 x0)] with
    | some p => seeInts true .u8 p.1 fun l1 =>
        seeNil p.2 (
          K l1)
    | none => none
theorem CloneB.q_ok {R : Type} {c : CallF} (x0 : List Int) {K : List Int → Option R} {l1 : List Int} (h : c 62 [.sl false (.ints .u8 x0)] = some (.sl true (.ints .u8 l1), [])) :
    CloneB.q c x0 K = K l1 := by simp only [CloneB.q, h]; rfl
def CloneB.s {R : Type} (c : CallF) (x0 : List Int) (K : List Int → Option R) : Option R :=
  match c 62 [.sl false (.ints .u8 x0)] with
    | some p => seeInts true .u8 p.1 fun l1 =>
        K l1
    | none => none
theorem CloneB.s_ok {R : Type} {c : CallF} (x0 : List Int) {K : List Int → Option R} {l1 : List Int} (h : c 62 [.sl false (.ints .u8 x0)] = some (.sl true (.ints .u8 l1), [])) :
    CloneB.s c x0 K = K l1 := by simp only [CloneB.s, h]; rfl
def CurMost.q {R : Type} (c : CallF) (x0 : List Int) (x1 : Int) (x2 : Int) (x3 : Int) (K : Int → List Int → Int → Int → Option R) : Option R :=
  match c 63 [.pt [.sl false (.ints .u8 x0), .int .i64 x1, .int .i64 x2], .int .i64 x3] with
    | some p => p.1.asInt .i64 fun n1 =>
        seeCons p.2 fun c2 r3 =>
          c2.asPt fun q4 =>
            seeCons q4 fun c5 r6 =>
              seeInts false .u8 c5 fun l7 =>
                seeCons r6 fun c8 r9 =>
                  c8.asInt .i64 fun n10 =>
                    seeCons r9 fun c11 r12 =>
                      c11.asInt .i64 fun n13 =>
                        seeNil r12 (
                          seeNil r3 (
                            K n1 l7 n10 n13))
    | none => none
theorem CurMost.q_ok {R : Type} {c : CallF} (x0 : List Int) (x1 : Int) (x2 : Int) (x3 : Int) {K : Int → List Int → Int → Int → Option R} {n1 : Int} {l2 : List Int} {n3 : Int} {n4 : Int} (h : c 63 [.pt [.sl false (.ints .u8 x0), .int .i64 x1, .int .i64 x2], .int .i64 x3] = some (.int .i64 n1, [.pt [.sl false (.ints .u8 l2), .int .i64 n3, .int .i64 n4]])) :
    CurMost.q c x0 x1 x2 x3 K = K n1 l2 n3 n4 := by simp only [CurMost.q, h]; rfl
def CurByte.q {R : Type} (c : CallF) (x0 : List Int) (x1 : Int) (x2 : Int) (K : Int → List Int → Int → Int → Option R) : Option R :=
  match c 64 [.pt [.sl false (.ints .u8 x0), .int .i64 x1, .int .i64 x2]] with
    | some p => p.1.asInt .i64 fun n1 =>
        seeCons p.2 fun c2 r3 =>
          c2.asPt fun q4 =>
            seeCons q4 fun c5 r6 =>
              seeInts false .u8 c5 fun l7 =>
                seeCons r6 fun c8 r9 =>
                  c8.asInt .i64 fun n10 =>
                    seeCons r9 fun c11 r12 =>
                      c11.asInt .i64 fun n13 =>
                        seeNil r12 (
                          seeNil r3 (
                            K n1 l7 n10 n13))
    | none => none
theorem CurByte.q_ok {R : Type} {c : CallF} (x0 : List Int) (x1 : Int) (x2 : Int) {K : Int → List Int → Int → Int → Option R} {n1 : Int} {l2 : List Int} {n3 : Int} {n4 : Int} (h : c 64 [.pt [.sl false (.ints .u8 x0), .int .i64 x1, .int .i64 x2]] = some (.int .i64 n1, [.pt [.sl false (.ints .u8 l2), .int .i64 n3, .int .i64 n4]])) :
    CurByte.q c x0 x1 x2 K = K n1 l2 n3 n4 := by simp only [CurByte.q, h]; rfl
def CurFail.q {R : Type} (c : CallF) (x0 : List Int) (x1 : Int) (x2 : Int) (x3 : Int) (K : List Int → Int → Int → Option R) : Option R :=
  match c 65 [.pt [.sl false (.ints .u8 x0), .int .i64 x1, .int .i64 x2], .int .i64 x3] with
    | some p => p.1.asTup fun q1 =>
        seeNil q1 (
          seeCons p.2 fun c2 r3 =>
            c2.asPt fun q4 =>
              seeCons q4 fun c5 r6 =>
                seeInts false .u8 c5 fun l7 =>
                  seeCons r6 fun c8 r9 =>
                    c8.asInt .i64 fun n10 =>
                      seeCons r9 fun c11 r12 =>
                        c11.asInt .i64 fun n13 =>
                          seeNil r12 (
                            seeNil r3 (
                              K l7 n10 n13)))
    | none => none
theorem CurFail.q_ok {R : Type} {c : CallF} (x0 : List Int) (x1 : Int) (x2 : Int) (x3 : Int) {K : List Int → Int → Int → Option R} {l1 : List Int} {n2 : Int} {n3 : Int} (h : c 65 [.pt [.sl false (.ints .u8 x0), .int .i64 x1, .int .i64 x2], .int .i64 x3] = some (.tup [], [.pt [.sl false (.ints .u8 l1), .int .i64 n2, .int .i64 n3]])) :
    CurFail.q c x0 x1 x2 x3 K = K l1 n2 n3 := by simp only [CurFail.q, h]; rfl
def CurBytes.q {R : Type} (c : CallF) (x0 : List Int) (x1 : Int) (x2 : Int) (x3 : Int) (K : List Int → List Int → Int → Int → Option R) : Option R :=
  match c 66 [.pt [.sl false (.ints .u8 x0), .int .i64 x1, .int .i64 x2], .int .i64 x3] with
    | some p => seeInts true .u8 p.1 fun l1 =>
        seeCons p.2 fun c2 r3 =>
          c2.asPt fun q4 =>
            seeCons q4 fun c5 r6 =>
              seeInts false .u8 c5 fun l7 =>
                seeCons r6 fun c8 r9 =>
                  c8.asInt .i64 fun n10 =>
                    seeCons r9 fun c11 r12 =>
                      c11.asInt .i64 fun n13 =>
                        seeNil r12 (
                          seeNil r3 (
                            K l1 l7 n10 n13))
    | none => none
theorem CurBytes.q_ok {R : Type} {c : CallF} (x0 : List Int) (x1 : Int) (x2 : Int) (x3 : Int) {K : List Int → List Int → Int → Int → Option R} {l1 : List Int} {l2 : List Int} {n3 : Int} {n4 : Int} (h : c 66 [.pt [.sl false (.ints .u8 x0), .int .i64 x1, .int .i64 x2], .int .i64 x3] = some (.sl true (.ints .u8 l1), [.pt [.sl false (.ints .u8 l2), .int .i64 n3, .int .i64 n4]])) :
    CurBytes.q c x0 x1 x2 x3 K = K l1 l2 n3 n4 := by simp only [CurBytes.q, h]; rfl
def EqBytes.q {R : Type} (c : CallF) (x0 : List Int) (x1 : List Int) (K : Bool → Option R) : Option R :=
  match c 67 [.sl false (.ints .u8 x0), .sl false (.ints .u8 x1)] with
    | some p => p.1.asBool fun b1 =>
        seeNil p.2 (
          K b1)
    | none => none
theorem EqBytes.q_ok {R : Type} {c : CallF} (x0 : List Int) (x1 : List Int) {K : Bool → Option R} {b1 : Bool} (h : c 67 [.sl false (.ints .u8 x0), .sl false (.ints .u8 x1)] = some (.bool b1, [])) :
    EqBytes.q c x0 x1 K = K b1 := by simp only [EqBytes.q, h]; rfl
def EqBytes.s {R : Type} (c : CallF) (x0 : List Int) (x1 : List Int) (K : Bool → Option R) : Option R :=
  match c 67 [.sl false (.ints .u8 x0), .sl false (.ints .u8 x1)] with
    | some p => p.1.asBool fun b1 =>
        K b1
    | none => none
theorem EqBytes.s_ok {R : Type} {c : CallF} (x0 : List Int) (x1 : List Int) {K : Bool → Option R} {b1 : Bool} (h : c 67 [.sl false (.ints .u8 x0), .sl false (.ints .u8 x1)] = some (.bool b1, [])) :
    EqBytes.s c x0 x1 K = K b1 := by simp only [EqBytes.s, h]; rfl
def Few07.q {R : Type} (c : CallF) (x0 : List ByteArray) (K : Bool → Option R) : Option R :=
  match c 68 [.sl false (.strs x0)] with
    | some p => p.1.asBool fun b1 =>
        seeNil p.2 (
          K b1)
    | none => none
theorem Few07.q_ok {R : Type} {c : CallF} (x0 : List ByteArray) {K : Bool → Option R} {b1 : Bool} (h : c 68 [.sl false (.strs x0)] = some (.bool b1, [])) :
    Few07.q c x0 K = K b1 := by simp only [Few07.q, h]; rfl
def Few07.s {R : Type} (c : CallF) (x0 : List ByteArray) (K : Bool → Option R) : Option R :=
  match c 68 [.sl false (.strs x0)] with
    | some p => p.1.asBool fun b1 =>
        K b1
    | none => none
theorem Few07.s_ok {R : Type} {c : CallF} (x0 : List ByteArray) {K : Bool → Option R} {b1 : Bool} (h : c 68 [.sl false (.strs x0)] = some (.bool b1, [])) :
    Few07.s c x0 K = K b1 := by simp only [Few07.s, h]; rfl
def FrontRight.q {R : Type} (c : CallF) (x0 : List ByteArray) (x1 : Int) (K : Bool → Option R) : Option R :=
  match c 69 [.sl false (.strs x0), .int .i64 x1] with
    | some p => p.1.asBool fun b1 =>
        seeNil p.2 (
          K b1)
    | none => none
theorem FrontRight.q_ok {R : Type} {c : CallF} (x0 : List ByteArray) (x1 : Int) {K : Bool → Option R} {b1 : Bool} (h : c 69 [.sl false (.strs x0), .int .i64 x1] = some (.bool b1, [])) :
    FrontRight.q c x0 x1 K = K b1 := by simp only [FrontRight.q, h]; rfl
def FrontRight.s {R : Type} (c : CallF) (x0 : List ByteArray) (x1 : Int) (K : Bool → Option R) : Option R :=
  match c 69 [.sl false (.strs x0), .int .i64 x1] with
    | some p => p.1.asBool fun b1 =>
        K b1
    | none => none
theorem FrontRight.s_ok {R : Type} {c : CallF} (x0 : List ByteArray) (x1 : Int) {K : Bool → Option R} {b1 : Bool} (h : c 69 [.sl false (.strs x0), .int .i64 x1] = some (.bool b1, [])) :
    FrontRight.s c x0 x1 K = K b1 := by simp only [FrontRight.s, h]; rfl
def ChunkS.q {R : Type} (c : CallF) (x0 : List ByteArray) (x1 : Int) (K : List ByteArray → Int → Option R) : Option R :=
  match c 70 [.sl false (.strs x0), .int .i64 x1] with
    | some p => p.1.asFn 96 fun q1 =>
        seeCons q1 fun c2 r3 =>
          c2.asPv fun q4 =>
            seeCons q4 fun c5 r6 =>
              seeStrs false c5 fun l7 =>
                seeNil r6 (
                  seeCons r3 fun c8 r9 =>
                    c8.asPv fun q10 =>
                      seeCons q10 fun c11 r12 =>
                        c11.asInt .i64 fun n13 =>
                          seeNil r12 (
                            seeNil r9 (
                              seeNil p.2 (
                                K l7 n13))))
    | none => none
theorem ChunkS.q_ok {R : Type} {c : CallF} (x0 : List ByteArray) (x1 : Int) {K : List ByteArray → Int → Option R} {l1 : List ByteArray} {n2 : Int} (h : c 70 [.sl false (.strs x0), .int .i64 x1] = some (.fn 96 [.pv [.sl false (.strs l1)] 0, .pv [.int .i64 n2] 0], [])) :
    ChunkS.q c x0 x1 K = K l1 n2 := by simp only [ChunkS.q, h]; rfl
def ChunkS.s {R : Type} (c : CallF) (x0 : List ByteArray) (x1 : Int) (K : List ByteArray → Int → Option R) : Option R :=
  match c 70 [.sl false (.strs x0), .int .i64 x1] with
    | some p => p.1.asFn 96 fun q1 =>
        seeCons q1 fun c2 r3 =>
          c2.asPv fun q4 =>
            seeCons q4 fun c5 r6 =>
              seeStrs false c5 fun l7 =>
                seeNil r6 (
                  seeCons r3 fun c8 r9 =>
                    c8.asPv fun q10 =>
                      seeCons q10 fun c11 r12 =>
                        c11.asInt .i64 fun n13 =>
                          seeNil r12 (
                            seeNil r9 (
                              K l7 n13)))
    | none => none
theorem ChunkS.s_ok {R : Type} {c : CallF} (x0 : List ByteArray) (x1 : Int) {K : List ByteArray → Int → Option R} {l1 : List ByteArray} {n2 : Int} (h : c 70 [.sl false (.strs x0), .int .i64 x1] = some (.fn 96 [.pv [.sl false (.strs l1)] 0, .pv [.int .i64 n2] 0], [])) :
    ChunkS.s c x0 x1 K = K l1 n2 := by simp only [ChunkS.s, h]; rfl
def Entries.q {R : Type} (c : CallF) (x0 : List ByteArray) (K : List Int → Option R) : Option R :=
  match c 71 [.sl false (.strs x0)] with
    | some p => seeInts true .u8 p.1 fun l1 =>
        seeNil p.2 (
          K l1)
    | none => none
theorem Entries.q_ok {R : Type} {c : CallF} (x0 : List ByteArray) {K : List Int → Option R} {l1 : List Int} (h : c 71 [.sl false (.strs x0)] = some (.sl true (.ints .u8 l1), [])) :
    Entries.q c x0 K = K l1 := by simp only [Entries.q, h]; rfl
def Entries.s {R : Type} (c : CallF) (x0 : List ByteArray) (K : List Int → Option R) : Option R :=
  match c 71 [.sl false (.strs x0)] with
    | some p => seeInts true .u8 p.1 fun l1 =>
        K l1
    | none => none
theorem Entries.s_ok {R : Type} {c : CallF} (x0 : List ByteArray) {K : List Int → Option R} {l1 : List Int} (h : c 71 [.sl false (.strs x0)] = some (.sl true (.ints .u8 l1), [])) :
    Entries.s c x0 K = K l1 := by simp only [Entries.s, h]; rfl
def RefPut1.q {R : Type} (c : CallF) (x0 : Int) (K : List Int → Option R) : Option R :=
  match c 72 [.int .i64 x0] with
    | some p => seeInts true .u8 p.1 fun l1 =>
        seeNil p.2 (
          K l1)
    | none => none
theorem RefPut1.q_ok {R : Type} {c : CallF} (x0 : Int) {K : List Int → Option R} {l1 : List Int} (h : c 72 [.int .i64 x0] = some (.sl true (.ints .u8 l1), [])) :
    RefPut1.q c x0 K = K l1 := by simp only [RefPut1.q, h]; rfl
def RefPut1.s {R : Type} (c : CallF) (x0 : Int) (K : List Int → Option R) : Option R :=
  match c 72 [.int .i64 x0] with
    | some p => seeInts true .u8 p.1 fun l1 =>
        K l1
    | none => none
theorem RefPut1.s_ok {R : Type} {c : CallF} (x0 : Int) {K : List Int → Option R} {l1 : List Int} (h : c 72 [.int .i64 x0] = some (.sl true (.ints .u8 l1), [])) :
    RefPut1.s c x0 K = K l1 := by simp only [RefPut1.s, h]; rfl
def RefText1.q {R : Type} (c : CallF) (x0 : ByteArray) (K : List Int → Option R) : Option R :=
  match c 73 [.str x0] with
    | some p => seeInts true .u8 p.1 fun l1 =>
        seeNil p.2 (
          K l1)
    | none => none
theorem RefText1.q_ok {R : Type} {c : CallF} (x0 : ByteArray) {K : List Int → Option R} {l1 : List Int} (h : c 73 [.str x0] = some (.sl true (.ints .u8 l1), [])) :
    RefText1.q c x0 K = K l1 := by simp only [RefText1.q, h]; rfl
def RefText1.s {R : Type} (c : CallF) (x0 : ByteArray) (K : List Int → Option R) : Option R :=
  match c 73 [.str x0] with
    | some p => seeInts true .u8 p.1 fun l1 =>
        K l1
    | none => none
theorem RefText1.s_ok {R : Type} {c : CallF} (x0 : ByteArray) {K : List Int → Option R} {l1 : List Int} (h : c 73 [.str x0] = some (.sl true (.ints .u8 l1), [])) :
    RefText1.s c x0 K = K l1 := by simp only [RefText1.s, h]; rfl
def RefWrite3.q {R : Type} (c : CallF) (x0 : List Int) (K : List Int → Option R) : Option R :=
  match c 74 [.sl false (.ints .i64 x0)] with
    | some p => seeInts true .u8 p.1 fun l1 =>
        seeNil p.2 (
          K l1)
    | none => none
theorem RefWrite3.q_ok {R : Type} {c : CallF} (x0 : List Int) {K : List Int → Option R} {l1 : List Int} (h : c 74 [.sl false (.ints .i64 x0)] = some (.sl true (.ints .u8 l1), [])) :
    RefWrite3.q c x0 K = K l1 := by simp only [RefWrite3.q, h]; rfl
def RefWrite3.s {R : Type} (c : CallF) (x0 : List Int) (K : List Int → Option R) : Option R :=
  match c 74 [.sl false (.ints .i64 x0)] with
    | some p => seeInts true .u8 p.1 fun l1 =>
        K l1
    | none => none
theorem RefWrite3.s_ok {R : Type} {c : CallF} (x0 : List Int) {K : List Int → Option R} {l1 : List Int} (h : c 74 [.sl false (.ints .i64 x0)] = some (.sl true (.ints .u8 l1), [])) :
    RefWrite3.s c x0 K = K l1 := by simp only [RefWrite3.s, h]; rfl
def Taken.q {R : Type} (c : CallF) (x0 : List Int) (x1 : Int) (x2 : Int) (x3 : Int) (x4 : Int) (K : List ByteArray → List Int → Int → Int → Option R) : Option R :=
  match c 75 [.pt [.sl false (.ints .u8 x0), .int .i64 x1, .int .i64 x2], .int .i64 x3, .int .i64 x4] with
    | some p => seeStrs true p.1 fun l1 =>
        seeCons p.2 fun c2 r3 =>
          c2.asPt fun q4 =>
            seeCons q4 fun c5 r6 =>
              seeInts false .u8 c5 fun l7 =>
                seeCons r6 fun c8 r9 =>
                  c8.asInt .i64 fun n10 =>
                    seeCons r9 fun c11 r12 =>
                      c11.asInt .i64 fun n13 =>
                        seeNil r12 (
                          seeNil r3 (
                            K l1 l7 n10 n13))
    | none => none
theorem Taken.q_ok {R : Type} {c : CallF} (x0 : List Int) (x1 : Int) (x2 : Int) (x3 : Int) (x4 : Int) {K : List ByteArray → List Int → Int → Int → Option R} {l1 : List ByteArray} {l2 : List Int} {n3 : Int} {n4 : Int} (h : c 75 [.pt [.sl false (.ints .u8 x0), .int .i64 x1, .int .i64 x2], .int .i64 x3, .int .i64 x4] = some (.sl true (.strs l1), [.pt [.sl false (.ints .u8 l2), .int .i64 n3, .int .i64 n4]])) :
    Taken.q c x0 x1 x2 x3 x4 K = K l1 l2 n3 n4 := by simp only [Taken.q, h]; rfl
def CloneS.q {R : Type} (c : CallF) (x0 : List ByteArray) (K : List ByteArray → Option R) : Option R :=
  match c 76 [.sl false (.strs x0)] with
    | some p => seeStrs true p.1 fun l1 =>
        seeNil p.2 (
          K l1)
    | none => none
theorem CloneS.q_ok {R : Type} {c : CallF} (x0 : List ByteArray) {K : List ByteArray → Option R} {l1 : List ByteArray} (h : c 76 [.sl false (.strs x0)] = some (.sl true (.strs l1), [])) :
    CloneS.q c x0 K = K l1 := by simp only [CloneS.q, h]; rfl
def CloneS.s {R : Type} (c : CallF) (x0 : List ByteArray) (K : List ByteArray → Option R) : Option R :=
  match c 76 [.sl false (.strs x0)] with
    | some p => seeStrs true p.1 fun l1 =>
        K l1
    | none => none
theorem CloneS.s_ok {R : Type} {c : CallF} (x0 : List ByteArray) {K : List ByteArray → Option R} {l1 : List ByteArray} (h : c 76 [.sl false (.strs x0)] = some (.sl true (.strs l1), [])) :
    CloneS.s c x0 K = K l1 := by simp only [CloneS.s, h]; rfl
def SearchL.q {R : Type} (c : CallF) (x0 : Int) (x1 : List ByteArray) (x2 : ByteArray) (K : Int → Option R) : Option R :=
  match c 77 [.int .i64 x0, .fn 78 [.pv [.pv [.sl false (.strs x1)] 0] 0, .pv [.str x2] 0]] with
    | some p => p.1.asInt .i64 fun n1 =>
        seeNil p.2 (
          K n1)
    | none => none
theorem SearchL.q_ok {R : Type} {c : CallF} (x0 : Int) (x1 : List ByteArray) (x2 : ByteArray) {K : Int → Option R} {n1 : Int} (h : c 77 [.int .i64 x0, .fn 78 [.pv [.pv [.sl false (.strs x1)] 0] 0, .pv [.str x2] 0]] = some (.int .i64 n1, [])) :
    SearchL.q c x0 x1 x2 K = K n1 := by simp only [SearchL.q, h]; rfl
def SearchL.s {R : Type} (c : CallF) (x0 : Int) (x1 : List ByteArray) (x2 : ByteArray) (K : Int → Option R) : Option R :=
  match c 77 [.int .i64 x0, .fn 78 [.pv [.pv [.sl false (.strs x1)] 0] 0, .pv [.str x2] 0]] with
    | some p => p.1.asInt .i64 fun n1 =>
        K n1
    | none => none
theorem SearchL.s_ok {R : Type} {c : CallF} (x0 : Int) (x1 : List ByteArray) (x2 : ByteArray) {K : Int → Option R} {n1 : Int} (h : c 77 [.int .i64 x0, .fn 78 [.pv [.pv [.sl false (.strs x1)] 0] 0, .pv [.str x2] 0]] = some (.int .i64 n1, [])) :
    SearchL.s c x0 x1 x2 K = K n1 := by simp only [SearchL.s, h]; rfl
def SearchU.q {R : Type} (c : CallF) (x0 : Int) (x1 : List ByteArray) (x2 : ByteArray) (K : Int → Option R) : Option R :=
  match c 77 [.int .i64 x0, .fn 79 [.pv [.pv [.sl false (.strs x1)] 0] 0, .pv [.str x2] 0]] with
    | some p => p.1.asInt .i64 fun n1 =>
        seeNil p.2 (
          K n1)
    | none => none
theorem SearchU.q_ok {R : Type} {c : CallF} (x0 : Int) (x1 : List ByteArray) (x2 : ByteArray) {K : Int → Option R} {n1 : Int} (h : c 77 [.int .i64 x0, .fn 79 [.pv [.pv [.sl false (.strs x1)] 0] 0, .pv [.str x2] 0]] = some (.int .i64 n1, [])) :
    SearchU.q c x0 x1 x2 K = K n1 := by simp only [SearchU.q, h]; rfl
def SearchU.s {R : Type} (c : CallF) (x0 : Int) (x1 : List ByteArray) (x2 : ByteArray) (K : Int → Option R) : Option R :=
  match c 77 [.int .i64 x0, .fn 79 [.pv [.pv [.sl false (.strs x1)] 0] 0, .pv [.str x2] 0]] with
    | some p => p.1.asInt .i64 fun n1 =>
        K n1
    | none => none
theorem SearchU.s_ok {R : Type} {c : CallF} (x0 : Int) (x1 : List ByteArray) (x2 : ByteArray) {K : Int → Option R} {n1 : Int} (h : c 77 [.int .i64 x0, .fn 79 [.pv [.pv [.sl false (.strs x1)] 0] 0, .pv [.str x2] 0]] = some (.int .i64 n1, [])) :
    SearchU.s c x0 x1 x2 K = K n1 := by simp only [SearchU.s, h]; rfl
def SearchP.q {R : Type} (c : CallF) (x0 : Int) (x1 : List ByteArray) (x2 : Int) (x3 : ByteArray) (K : Int → Option R) : Option R :=
  match c 77 [.int .i64 x0, .fn 80 [.pv [.pv [.sl false (.strs x1)] 0] 0, .pv [.int .i64 x2] 0, .pv [.str x3] 0]] with
    | some p => p.1.asInt .i64 fun n1 =>
        seeNil p.2 (
          K n1)
    | none => none
theorem SearchP.q_ok {R : Type} {c : CallF} (x0 : Int) (x1 : List ByteArray) (x2 : Int) (x3 : ByteArray) {K : Int → Option R} {n1 : Int} (h : c 77 [.int .i64 x0, .fn 80 [.pv [.pv [.sl false (.strs x1)] 0] 0, .pv [.int .i64 x2] 0, .pv [.str x3] 0]] = some (.int .i64 n1, [])) :
    SearchP.q c x0 x1 x2 x3 K = K n1 := by simp only [SearchP.q, h]; rfl
def SearchP.s {R : Type} (c : CallF) (x0 : Int) (x1 : List ByteArray) (x2 : Int) (x3 : ByteArray) (K : Int → Option R) : Option R :=
  match c 77 [.int .i64 x0, .fn 80 [.pv [.pv [.sl false (.strs x1)] 0] 0, .pv [.int .i64 x2] 0, .pv [.str x3] 0]] with
    | some p => p.1.asInt .i64 fun n1 =>
        K n1
    | none => none
theorem SearchP.s_ok {R : Type} {c : CallF} (x0 : Int) (x1 : List ByteArray) (x2 : Int) (x3 : ByteArray) {K : Int → Option R} {n1 : Int} (h : c 77 [.int .i64 x0, .fn 80 [.pv [.pv [.sl false (.strs x1)] 0] 0, .pv [.int .i64 x2] 0, .pv [.str x3] 0]] = some (.int .i64 n1, [])) :
    SearchP.s c x0 x1 x2 x3 K = K n1 := by simp only [SearchP.s, h]; rfl
def LowF.q {R : Type} (c : CallF) (x0 : Int) (x1 : List ByteArray) (x2 : ByteArray) (K : Bool → Option R) : Option R :=
  match c 78 [.int .i64 x0, .pv [.pv [.sl false (.strs x1)] 0] 0, .pv [.str x2] 0] with
    | some p => p.1.asBool fun b1 =>
        seeNil p.2 (
          K b1)
    | none => none
theorem LowF.q_ok {R : Type} {c : CallF} (x0 : Int) (x1 : List ByteArray) (x2 : ByteArray) {K : Bool → Option R} {b1 : Bool} (h : c 78 [.int .i64 x0, .pv [.pv [.sl false (.strs x1)] 0] 0, .pv [.str x2] 0] = some (.bool b1, [])) :
    LowF.q c x0 x1 x2 K = K b1 := by simp only [LowF.q, h]; rfl
def LowF.s {R : Type} (c : CallF) (x0 : Int) (x1 : List ByteArray) (x2 : ByteArray) (K : Bool → Option R) : Option R :=
  match c 78 [.int .i64 x0, .pv [.pv [.sl false (.strs x1)] 0] 0, .pv [.str x2] 0] with
    | some p => p.1.asBool fun b1 =>
        K b1
    | none => none
theorem LowF.s_ok {R : Type} {c : CallF} (x0 : Int) (x1 : List ByteArray) (x2 : ByteArray) {K : Bool → Option R} {b1 : Bool} (h : c 78 [.int .i64 x0, .pv [.pv [.sl false (.strs x1)] 0] 0, .pv [.str x2] 0] = some (.bool b1, [])) :
    LowF.s c x0 x1 x2 K = K b1 := by simp only [LowF.s, h]; rfl
def UppF.q {R : Type} (c : CallF) (x0 : Int) (x1 : List ByteArray) (x2 : ByteArray) (K : Bool → Option R) : Option R :=
  match c 79 [.int .i64 x0, .pv [.pv [.sl false (.strs x1)] 0] 0, .pv [.str x2] 0] with
    | some p => p.1.asBool fun b1 =>
        seeNil p.2 (
          K b1)
    | none => none
theorem UppF.q_ok {R : Type} {c : CallF} (x0 : Int) (x1 : List ByteArray) (x2 : ByteArray) {K : Bool → Option R} {b1 : Bool} (h : c 79 [.int .i64 x0, .pv [.pv [.sl false (.strs x1)] 0] 0, .pv [.str x2] 0] = some (.bool b1, [])) :
    UppF.q c x0 x1 x2 K = K b1 := by simp only [UppF.q, h]; rfl
def UppF.s {R : Type} (c : CallF) (x0 : Int) (x1 : List ByteArray) (x2 : ByteArray) (K : Bool → Option R) : Option R :=
  match c 79 [.int .i64 x0, .pv [.pv [.sl false (.strs x1)] 0] 0, .pv [.str x2] 0] with
    | some p => p.1.asBool fun b1 =>
        K b1
    | none => none
theorem UppF.s_ok {R : Type} {c : CallF} (x0 : Int) (x1 : List ByteArray) (x2 : ByteArray) {K : Bool → Option R} {b1 : Bool} (h : c 79 [.int .i64 x0, .pv [.pv [.sl false (.strs x1)] 0] 0, .pv [.str x2] 0] = some (.bool b1, [])) :
    UppF.s c x0 x1 x2 K = K b1 := by simp only [UppF.s, h]; rfl
def PreF.q {R : Type} (c : CallF) (x0 : Int) (x1 : List ByteArray) (x2 : Int) (x3 : ByteArray) (K : Bool → Option R) : Option R :=
  match c 80 [.int .i64 x0, .pv [.pv [.sl false (.strs x1)] 0] 0, .pv [.int .i64 x2] 0, .pv [.str x3] 0] with
    | some p => p.1.asBool fun b1 =>
        seeNil p.2 (
          K b1)
    | none => none
theorem PreF.q_ok {R : Type} {c : CallF} (x0 : Int) (x1 : List ByteArray) (x2 : Int) (x3 : ByteArray) {K : Bool → Option R} {b1 : Bool} (h : c 80 [.int .i64 x0, .pv [.pv [.sl false (.strs x1)] 0] 0, .pv [.int .i64 x2] 0, .pv [.str x3] 0] = some (.bool b1, [])) :
    PreF.q c x0 x1 x2 x3 K = K b1 := by simp only [PreF.q, h]; rfl
def PreF.s {R : Type} (c : CallF) (x0 : Int) (x1 : List ByteArray) (x2 : Int) (x3 : ByteArray) (K : Bool → Option R) : Option R :=
  match c 80 [.int .i64 x0, .pv [.pv [.sl false (.strs x1)] 0] 0, .pv [.int .i64 x2] 0, .pv [.str x3] 0] with
    | some p => p.1.asBool fun b1 =>
        K b1
    | none => none
theorem PreF.s_ok {R : Type} {c : CallF} (x0 : Int) (x1 : List ByteArray) (x2 : Int) (x3 : ByteArray) {K : Bool → Option R} {b1 : Bool} (h : c 80 [.int .i64 x0, .pv [.pv [.sl false (.strs x1)] 0] 0, .pv [.int .i64 x2] 0, .pv [.str x3] 0] = some (.bool b1, [])) :
    PreF.s c x0 x1 x2 x3 K = K b1 := by simp only [PreF.s, h]; rfl
def HasPreL.q {R : Type} (c : CallF) (x0 : ByteArray) (x1 : ByteArray) (K : Bool → Option R) : Option R :=
  match c 81 [.str x0, .str x1] with
    | some p => p.1.asBool fun b1 =>
        seeNil p.2 (
          K b1)
    | none => none
theorem HasPreL.q_ok {R : Type} {c : CallF} (x0 : ByteArray) (x1 : ByteArray) {K : Bool → Option R} {b1 : Bool} (h : c 81 [.str x0, .str x1] = some (.bool b1, [])) :
    HasPreL.q c x0 x1 K = K b1 := by simp only [HasPreL.q, h]; rfl
def HasPreL.s {R : Type} (c : CallF) (x0 : ByteArray) (x1 : ByteArray) (K : Bool → Option R) : Option R :=
  match c 81 [.str x0, .str x1] with
    | some p => p.1.asBool fun b1 =>
        K b1
    | none => none
theorem HasPreL.s_ok {R : Type} {c : CallF} (x0 : ByteArray) (x1 : ByteArray) {K : Bool → Option R} {b1 : Bool} (h : c 81 [.str x0, .str x1] = some (.bool b1, [])) :
    HasPreL.s c x0 x1 K = K b1 := by simp only [HasPreL.s, h]; rfl
def IdxBad.q {R : Type} (c : CallF) (x0 : List Int) (K : Int → Option R) : Option R :=
  match c 93 [.sl false (.ints .i64 x0), .fn 59 []] with
    | some p => p.1.asInt .i64 fun n1 =>
        seeNil p.2 (
          K n1)
    | none => none
theorem IdxBad.q_ok {R : Type} {c : CallF} (x0 : List Int) {K : Int → Option R} {n1 : Int} (h : c 93 [.sl false (.ints .i64 x0), .fn 59 []] = some (.int .i64 n1, [])) :
    IdxBad.q c x0 K = K n1 := by simp only [IdxBad.q, h]; rfl
def IdxBad.s {R : Type} (c : CallF) (x0 : List Int) (K : Int → Option R) : Option R :=
  match c 93 [.sl false (.ints .i64 x0), .fn 59 []] with
    | some p => p.1.asInt .i64 fun n1 =>
        K n1
    | none => none
theorem IdxBad.s_ok {R : Type} {c : CallF} (x0 : List Int) {K : Int → Option R} {n1 : Int} (h : c 93 [.sl false (.ints .i64 x0), .fn 59 []] = some (.int .i64 n1, [])) :
    IdxBad.s c x0 K = K n1 := by simp only [IdxBad.s, h]; rfl
def GrowB.q {R : Type} (c : CallF) (x0 : Int) (K : List Int → Option R) : Option R :=
  match c 94 [.nils, .int .i64 x0] with
    | some p => seeInts true .u8 p.1 fun l1 =>
        seeNil p.2 (
          K l1)
    | none => none
theorem GrowB.q_ok {R : Type} {c : CallF} (x0 : Int) {K : List Int → Option R} {l1 : List Int} (h : c 94 [.nils, .int .i64 x0] = some (.sl true (.ints .u8 l1), [])) :
    GrowB.q c x0 K = K l1 := by simp only [GrowB.q, h]; rfl
def GrowB.s {R : Type} (c : CallF) (x0 : Int) (K : List Int → Option R) : Option R :=
  match c 94 [.nils, .int .i64 x0] with
    | some p => seeInts true .u8 p.1 fun l1 =>
        K l1
    | none => none
theorem GrowB.s_ok {R : Type} {c : CallF} (x0 : Int) {K : List Int → Option R} {l1 : List Int} (h : c 94 [.nils, .int .i64 x0] = some (.sl true (.ints .u8 l1), [])) :
    GrowB.s c x0 K = K l1 := by simp only [GrowB.s, h]; rfl
def CurNumber.q {R : Type} (c : CallF) (x0 : List Int) (x1 : Int) (x2 : Int) (K : Int → List Int → Int → Int → Option R) : Option R :=
  match c 95 [.pt [.sl false (.ints .u8 x0), .int .i64 x1, .int .i64 x2]] with
    | some p => p.1.asInt .i64 fun n1 =>
        seeCons p.2 fun c2 r3 =>
          c2.asPt fun q4 =>
            seeCons q4 fun c5 r6 =>
              seeInts false .u8 c5 fun l7 =>
                seeCons r6 fun c8 r9 =>
                  c8.asInt .i64 fun n10 =>
                    seeCons r9 fun c11 r12 =>
                      c11.asInt .i64 fun n13 =>
                        seeNil r12 (
                          seeNil r3 (
                            K n1 l7 n10 n13))
    | none => none
theorem CurNumber.q_ok {R : Type} {c : CallF} (x0 : List Int) (x1 : Int) (x2 : Int) {K : Int → List Int → Int → Int → Option R} {n1 : Int} {l2 : List Int} {n3 : Int} {n4 : Int} (h : c 95 [.pt [.sl false (.ints .u8 x0), .int .i64 x1, .int .i64 x2]] = some (.int .i64 n1, [.pt [.sl false (.ints .u8 l2), .int .i64 n3, .int .i64 n4]])) :
    CurNumber.q c x0 x1 x2 K = K n1 l2 n3 n4 := by simp only [CurNumber.q, h]; rfl
def CurPutText.q {R : Type} (c : CallF) (x0 : ByteArray) (K : List Int → Option R) : Option R :=
  match c 97 [.str x0] with
    | some p => seeInts true .u8 p.1 fun l1 =>
        seeNil p.2 (
          K l1)
    | none => none
theorem CurPutText.q_ok {R : Type} {c : CallF} (x0 : ByteArray) {K : List Int → Option R} {l1 : List Int} (h : c 97 [.str x0] = some (.sl true (.ints .u8 l1), [])) :
    CurPutText.q c x0 K = K l1 := by simp only [CurPutText.q, h]; rfl
def CurPutText.s {R : Type} (c : CallF) (x0 : ByteArray) (K : List Int → Option R) : Option R :=
  match c 97 [.str x0] with
    | some p => seeInts true .u8 p.1 fun l1 =>
        K l1
    | none => none
theorem CurPutText.s_ok {R : Type} {c : CallF} (x0 : ByteArray) {K : List Int → Option R} {l1 : List Int} (h : c 97 [.str x0] = some (.sl true (.ints .u8 l1), [])) :
    CurPutText.s c x0 K = K l1 := by simp only [CurPutText.s, h]; rfl
def Shared.q {R : Type} (c : CallF) (x0 : ByteArray) (x1 : ByteArray) (K : Int → Option R) : Option R :=
  match c 98 [.str x0, .str x1] with
    | some p => p.1.asInt .i64 fun n1 =>
        seeNil p.2 (
          K n1)
    | none => none
theorem Shared.q_ok {R : Type} {c : CallF} (x0 : ByteArray) (x1 : ByteArray) {K : Int → Option R} {n1 : Int} (h : c 98 [.str x0, .str x1] = some (.int .i64 n1, [])) :
    Shared.q c x0 x1 K = K n1 := by simp only [Shared.q, h]; rfl
def Shared.s {R : Type} (c : CallF) (x0 : ByteArray) (x1 : ByteArray) (K : Int → Option R) : Option R :=
  match c 98 [.str x0, .str x1] with
    | some p => p.1.asInt .i64 fun n1 =>
        K n1
    | none => none
theorem Shared.s_ok {R : Type} {c : CallF} (x0 : ByteArray) (x1 : ByteArray) {K : Int → Option R} {n1 : Int} (h : c 98 [.str x0, .str x1] = some (.int .i64 n1, [])) :
    Shared.s c x0 x1 K = K n1 := by simp only [Shared.s, h]; rfl
def RefPut3.q {R : Type} (c : CallF) (x0 : List Int) (x1 : Int) (K : List Int → Int → Option R) : Option R :=
  match c 99 [.sl false (.ints .i64 x0), .int .i64 x1] with
    | some p => p.1.asTup fun q1 =>
        seeCons q1 fun c2 r3 =>
          seeInts true .u8 c2 fun l4 =>
            seeCons r3 fun c5 r6 =>
              c5.asInt .i64 fun n7 =>
                seeNil r6 (
                  seeNil p.2 (
                    K l4 n7))
    | none => none
theorem RefPut3.q_ok {R : Type} {c : CallF} (x0 : List Int) (x1 : Int) {K : List Int → Int → Option R} {l1 : List Int} {n2 : Int} (h : c 99 [.sl false (.ints .i64 x0), .int .i64 x1] = some (.tup [.sl true (.ints .u8 l1), .int .i64 n2], [])) :
    RefPut3.q c x0 x1 K = K l1 n2 := by simp only [RefPut3.q, h]; rfl
def RefPut3.s {R : Type} (c : CallF) (x0 : List Int) (x1 : Int) (K : List Int → Int → Option R) : Option R :=
  match c 99 [.sl false (.ints .i64 x0), .int .i64 x1] with
    | some p => p.1.asTup fun q1 =>
        seeCons q1 fun c2 r3 =>
          seeInts true .u8 c2 fun l4 =>
            seeCons r3 fun c5 r6 =>
              c5.asInt .i64 fun n7 =>
                seeNil r6 (
                  K l4 n7)
    | none => none
theorem RefPut3.s_ok {R : Type} {c : CallF} (x0 : List Int) (x1 : Int) {K : List Int → Int → Option R} {l1 : List Int} {n2 : Int} (h : c 99 [.sl false (.ints .i64 x0), .int .i64 x1] = some (.tup [.sl true (.ints .u8 l1), .int .i64 n2], [])) :
    RefPut3.s c x0 x1 K = K l1 n2 := by simp only [RefPut3.s, h]; rfl
def RefWidth.q {R : Type} (c : CallF) (x0 : List Int) (K : Int → Option R) : Option R :=
  match c 100 [.sl false (.ints .i64 x0)] with
    | some p => p.1.asInt .i64 fun n1 =>
        seeNil p.2 (
          K n1)
    | none => none
theorem RefWidth.q_ok {R : Type} {c : CallF} (x0 : List Int) {K : Int → Option R} {n1 : Int} (h : c 100 [.sl false (.ints .i64 x0)] = some (.int .i64 n1, [])) :
    RefWidth.q c x0 K = K n1 := by simp only [RefWidth.q, h]; rfl
def RefWidth.s {R : Type} (c : CallF) (x0 : List Int) (K : Int → Option R) : Option R :=
  match c 100 [.sl false (.ints .i64 x0)] with
    | some p => p.1.asInt .i64 fun n1 =>
        K n1
    | none => none
theorem RefWidth.s_ok {R : Type} {c : CallF} (x0 : List Int) {K : Int → Option R} {n1 : Int} (h : c 100 [.sl false (.ints .i64 x0)] = some (.int .i64 n1, [])) :
    RefWidth.s c x0 K = K n1 := by simp only [RefWidth.s, h]; rfl
def CurText.q {R : Type} (c : CallF) (x0 : List Int) (x1 : Int) (x2 : Int) (K : ByteArray → List Int → Int → Int → Option R) : Option R :=
  match c 101 [.pt [.sl false (.ints .u8 x0), .int .i64 x1, .int .i64 x2]] with
    | some p => p.1.asStr fun s1 =>
        seeCons p.2 fun c2 r3 =>
          c2.asPt fun q4 =>
            seeCons q4 fun c5 r6 =>
              seeInts false .u8 c5 fun l7 =>
                seeCons r6 fun c8 r9 =>
                  c8.asInt .i64 fun n10 =>
                    seeCons r9 fun c11 r12 =>
                      c11.asInt .i64 fun n13 =>
                        seeNil r12 (
                          seeNil r3 (
                            K s1 l7 n10 n13))
    | none => none
theorem CurText.q_ok {R : Type} {c : CallF} (x0 : List Int) (x1 : Int) (x2 : Int) {K : ByteArray → List Int → Int → Int → Option R} {s1 : ByteArray} {l2 : List Int} {n3 : Int} {n4 : Int} (h : c 101 [.pt [.sl false (.ints .u8 x0), .int .i64 x1, .int .i64 x2]] = some (.str s1, [.pt [.sl false (.ints .u8 l2), .int .i64 n3, .int .i64 n4]])) :
    CurText.q c x0 x1 x2 K = K s1 l2 n3 n4 := by simp only [CurText.q, h]; rfl
def LenU.q {R : Type} (c : CallF) (x0 : Int) (K : Int → Option R) : Option R :=
  match c 103 [.int .u64 x0] with
    | some p => p.1.asInt .i64 fun n1 =>
        seeNil p.2 (
          K n1)
    | none => none
theorem LenU.q_ok {R : Type} {c : CallF} (x0 : Int) {K : Int → Option R} {n1 : Int} (h : c 103 [.int .u64 x0] = some (.int .i64 n1, [])) :
    LenU.q c x0 K = K n1 := by simp only [LenU.q, h]; rfl
def LenU.s {R : Type} (c : CallF) (x0 : Int) (K : Int → Option R) : Option R :=
  match c 103 [.int .u64 x0] with
    | some p => p.1.asInt .i64 fun n1 =>
        K n1
    | none => none
theorem LenU.s_ok {R : Type} {c : CallF} (x0 : Int) {K : Int → Option R} {n1 : Int} (h : c 103 [.int .u64 x0] = some (.int .i64 n1, [])) :
    LenU.s c x0 K = K n1 := by simp only [LenU.s, h]; rfl
def RefPower.q {R : Type} (c : CallF) (x0 : Int) (K : Int → Option R) : Option R :=
  match c 113 [.int .i64 x0] with
    | some p => p.1.asInt .i64 fun n1 =>
        seeNil p.2 (
          K n1)
    | none => none
theorem RefPower.q_ok {R : Type} {c : CallF} (x0 : Int) {K : Int → Option R} {n1 : Int} (h : c 113 [.int .i64 x0] = some (.int .i64 n1, [])) :
    RefPower.q c x0 K = K n1 := by simp only [RefPower.q, h]; rfl
def RefPower.s {R : Type} (c : CallF) (x0 : Int) (K : Int → Option R) : Option R :=
  match c 113 [.int .i64 x0] with
    | some p => p.1.asInt .i64 fun n1 =>
        K n1
    | none => none
theorem RefPower.s_ok {R : Type} {c : CallF} (x0 : Int) {K : Int → Option R} {n1 : Int} (h : c 113 [.int .i64 x0] = some (.int .i64 n1, [])) :
    RefPower.s c x0 K = K n1 := by simp only [RefPower.s, h]; rfl
def Len64.q {R : Type} (c : CallF) (x0 : Int) (K : Int → Option R) : Option R :=
  match c 123 [.int .u64 x0] with
    | some p => p.1.asInt .i64 fun n1 =>
        seeNil p.2 (
          K n1)
    | none => none
theorem Len64.q_ok {R : Type} {c : CallF} (x0 : Int) {K : Int → Option R} {n1 : Int} (h : c 123 [.int .u64 x0] = some (.int .i64 n1, [])) :
    Len64.q c x0 K = K n1 := by simp only [Len64.q, h]; rfl
def Len64.s {R : Type} (c : CallF) (x0 : Int) (K : Int → Option R) : Option R :=
  match c 123 [.int .u64 x0] with
    | some p => p.1.asInt .i64 fun n1 =>
        K n1
    | none => none
theorem Len64.s_ok {R : Type} {c : CallF} (x0 : Int) {K : Int → Option R} {n1 : Int} (h : c 123 [.int .u64 x0] = some (.int .i64 n1, [])) :
    Len64.s c x0 K = K n1 := by simp only [Len64.s, h]; rfl
end Go.Proofs.Ytfkkigbbejhfbaa
