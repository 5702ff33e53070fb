import Derived.Test.YtokpfnfmoakojaaPmTabOk
import Derived.Test.YtokpfnfmoakojaaProg
namespace Go.Proofs
open Go Go.Pm
def Try.tab : List (Nat × TyK) :=
  [(3, .val ⟨false, [.int .i64], [], []⟩),
   (4, .val ⟨false, [.bool], [], []⟩),
   (5, .val ⟨false, [.int .u8], [], []⟩),
   (9, .val ⟨false, [.str], [], []⟩),
   (24, .val ⟨false, [.slice 54], [], []⟩),
   (30, .val ⟨false, [.slice 124], [], []⟩),
   (32, .val ⟨true, [.slice 124], [0], [1]⟩),
   (33, .val ⟨false, [.slice 126], [], []⟩),
   (35, .val ⟨true, [.int .i64, .int .i64, .slice 126], [0, 1, 2], [1, 1, 1]⟩),
   (36, .val ⟨false, [.slice 133], [], []⟩),
   (38, .val ⟨true, [.slice 124, .int .i64, .int .i64, .slice 126, .slice 54, .slice 133, .int .i64, .int .i64, .int .i64], [0, 1, 4, 5, 6, 7, 8], [1, 3, 1, 1, 1, 1, 1]⟩),
   (39, .val ⟨false, [.slice 95], [], []⟩),
   (41, .val ⟨true, [.slice 124, .slice 95, .int .i64], [0, 1, 2], [1, 1, 1]⟩),
   (43, .val ⟨true, [.slice 124, .int .i64, .int .i64, .slice 126, .slice 54, .slice 133, .int .i64, .int .i64, .int .i64, .slice 124, .slice 95, .int .i64], [0, 9], [9, 3]⟩),
   (52, .val ⟨false, [.slice 64], [], []⟩),
   (54, .val ⟨true, [.int .i64, .int .i64, .slice 64], [0, 1, 2], [1, 1, 1]⟩),
   (56, .val ⟨false, [.slice 60], [], []⟩),
   (57, .val ⟨false, [.slice 9], [], []⟩),
   (58, .val ⟨false, [.slice 114], [], []⟩),
   (60, .val ⟨true, [.int .i64, .int .i64, .int .i64, .str, .slice 60, .slice 9, .slice 114], [0, 1, 2, 3, 4, 5, 6], [1, 1, 1, 1, 1, 1, 1]⟩),
   (64, .val ⟨true, [.int .i64, .int .i64, .int .i64, .str, .int .i64, .int .i64, .int .i64, .str, .slice 60, .slice 9, .slice 114], [0, 1, 2, 3, 4], [1, 1, 1, 1, 7]⟩),
   (93, .val ⟨false, [.slice 148], [], []⟩),
   (95, .val ⟨true, [.int .i64, .slice 148, .slice 148], [0, 1, 2], [1, 1, 1]⟩),
   (111, .val ⟨false, [.slice 3], [], []⟩),
   (112, .val ⟨false, [.slice 142], [], []⟩),
   (114, .val ⟨true, [.slice 3, .slice 142], [0, 1], [1, 1]⟩),
   (118, .val ⟨false, [.slice 5], [], []⟩),
   (124, .val ⟨true, [.int .i64, .int .i64, .int .i64, .str, .str, .int .i64], [0, 1, 2, 3, 4, 5], [1, 1, 1, 1, 1, 1]⟩),
   (126, .val ⟨true, [.str, .int .i64], [0, 1], [1, 1]⟩),
   (133, .val ⟨true, [.int .i64, .int .i64, .int .i64, .slice 3, .int .i64, .int .i64, .int .i64, .str, .slice 60, .slice 9, .slice 114, .bool], [0, 1, 2, 3, 4, 11], [1, 1, 1, 1, 7, 1]⟩),
   (142, .val ⟨true, [.int .i64, .int .i64], [0, 1], [1, 1]⟩),
   (148, .val ⟨true, [.int .i64, .int .i64, .int .i64, .int .i64, .int .i64, .str, .str, .int .i64], [0, 1, 2], [1, 1, 6]⟩)]
def Try.hints : List (Nat × Hint) :=
  [(4, ⟨[0, 1, 2, 3, 4, 5, 11, 19, 22, 27, 32, 35], [(12, .var 2 0)], [], [(1, 1), (2, 2), (5, 5)]⟩),
   (9, ⟨[0, 1, 4, 5, 10, 14, 26], [], [], []⟩),
   (10, ⟨[0, 1, 4, 5, 9], [(30, .slot 0 0), (23, .slot 0 0), (16, .slot 0 0)], [(0, .slot 0 0)], []⟩),
   (11, ⟨[0, 1, 4, 5, 9, 18, 27, 38], [], [], []⟩),
   (12, ⟨[0, 1, 3], [], [], [(0, 0), (1, 1), (3, 3)]⟩),
   (13, ⟨[0, 1, 3], [], [], [(0, 0), (1, 1), (3, 3)]⟩),
   (14, ⟨[0, 1, 2, 3, 4, 10, 16], [], [], [(2, 2), (3, 3), (5, 2), (7, 3), (11, 2), (13, 3)]⟩),
   (15, ⟨[0, 1, 2, 4], [(10, .var 2 9), (6, .var 2 0)], [(0, .var 2 0)], [(2, 2), (5, 2), (9, 2)]⟩),
   (16, ⟨[0, 1, 2, 4, 10, 16], [], [], [(2, 2), (5, 2), (11, 2)]⟩),
   (25, ⟨[0, 1, 2, 3, 4, 9, 14, 20], [], [], [(2, 2), (3, 3), (5, 2), (7, 3), (10, 2), (12, 3), (15, 2), (17, 3)]⟩),
   (26, ⟨[0, 1, 4, 5, 9], [(95, .slot 0 0), (87, .slot 0 0), (79, .slot 0 0), (71, .slot 0 0), (62, .slot 0 0), (54, .slot 0 0), (46, .slot 0 0), (38, .slot 0 0), (30, .slot 0 0), (23, .slot 0 0), (16, .slot 0 0)], [(0, .slot 0 0)], []⟩),
   (27, ⟨[0, 1, 4, 5, 9, 18, 27, 36, 46, 56, 66, 76, 87, 99, 109, 119], [], [], []⟩),
   (28, ⟨[0, 1, 2, 4, 5, 13], [], [], [(2, 2), (4, 4)]⟩),
   (29, ⟨[0, 1, 2, 3, 6], [], [], [(1, 1), (2, 2)]⟩),
   (30, ⟨[0, 1, 2, 4, 5, 13], [], [], [(2, 2), (4, 4)]⟩),
   (31, ⟨[0, 1, 2, 3, 6], [], [], [(1, 1), (2, 2)]⟩),
   (32, ⟨[0, 1, 2, 3, 4, 10, 16, 22, 28, 33, 38, 43], [], [], [(2, 2), (3, 3), (5, 2), (7, 3), (11, 2), (13, 3), (17, 2), (19, 3), (23, 2), (25, 3), (29, 2), (31, 3), (34, 2), (36, 3), (39, 2), (41, 3)]⟩),
   (33, ⟨[0, 1, 2, 3, 4, 10, 16, 21], [], [], [(2, 2), (3, 3), (5, 2), (7, 3), (11, 2), (13, 3), (17, 2), (19, 3)]⟩),
   (34, ⟨[0, 1, 2, 4], [(18, .var 2 5), (14, .var 2 4), (10, .var 2 1), (6, .var 2 0)], [(0, .var 2 0)], [(2, 2), (5, 2), (9, 2), (13, 2), (17, 2)]⟩),
   (35, ⟨[0, 1, 2, 4], [(10, .var 2 1), (6, .var 2 0)], [(0, .var 2 0)], [(2, 2), (5, 2), (9, 2)]⟩),
   (36, ⟨[0, 1, 2, 4, 10, 16, 22, 28], [], [], [(2, 2), (5, 2), (11, 2), (17, 2), (23, 2)]⟩),
   (37, ⟨[0, 1, 2, 4, 10, 16], [], [], [(2, 2), (5, 2), (11, 2)]⟩),
   (47, ⟨[0, 1, 4, 5, 10, 14, 26], [], [], []⟩),
   (48, ⟨[0, 2, 3, 5, 7], [], [], []⟩),
   (49, ⟨[0, 1, 4, 5, 9], [(59, .slot 0 0), (52, .slot 0 0), (45, .slot 0 0), (38, .slot 0 0), (30, .slot 0 0), (23, .slot 0 0), (16, .slot 0 0)], [(0, .slot 0 0)], []⟩),
   (50, ⟨[0, 1, 4, 5, 9], [(16, .slot 0 0)], [(0, .slot 0 0)], []⟩),
   (51, ⟨[0, 1, 4, 5, 9], [(23, .slot 0 0), (16, .slot 0 0)], [(0, .slot 0 0)], []⟩),
   (52, ⟨[0, 1, 4, 5, 9, 18, 27, 36, 46, 57, 66, 75], [], [], []⟩),
   (53, ⟨[0, 1, 4, 5, 9, 18], [], [], []⟩),
   (54, ⟨[0, 1, 4, 5, 9, 20, 29], [], [], []⟩),
   (55, ⟨[0, 1, 2], [], [], [(1, 1), (3, 1), (7, 1), (12, 1)]⟩),
   (56, ⟨[0, 1, 2, 6], [], [], []⟩),
   (57, ⟨[0, 1, 2], [], [], [(1, 1), (2, 2), (4, 1), (7, 1)]⟩),
   (58, ⟨[0, 1, 2, 3, 8, 29], [], [], [(1, 1), (5, 1), (11, 1), (20, 1), (30, 1)]⟩),
   (59, ⟨[0, 1, 2], [], [], [(1, 1), (2, 2), (4, 1)]⟩),
   (60, ⟨[0, 1, 2, 3, 4, 6, 7, 8, 9, 38], [], [], [(1, 1), (5, 1), (4, 4), (13, 4), (18, 4), (27, 1), (34, 4), (40, 1), (44, 1), (49, 1)]⟩),
   (61, ⟨[0, 1, 2, 6], [], [], []⟩),
   (62, ⟨[0, 1, 2], [], [], [(1, 1), (2, 2), (4, 1), (7, 1)]⟩),
   (63, ⟨[0, 1, 2, 3, 4, 6, 7, 8, 9, 23], [], [], [(1, 1), (5, 1), (4, 4), (18, 4), (25, 1)]⟩),
   (64, ⟨[0, 1, 2], [], [], [(1, 1), (2, 2), (4, 1)]⟩),
   (65, ⟨[0, 1, 2, 3, 4, 10], [], [], [(2, 2), (3, 3), (5, 2), (7, 3)]⟩),
   (66, ⟨[0, 1, 2, 3, 4, 9, 14, 20], [], [], [(2, 2), (3, 3), (5, 2), (7, 3), (10, 2), (12, 3), (15, 2), (17, 3)]⟩),
   (67, ⟨[0, 1, 4, 5, 10, 14, 26], [], [], []⟩),
   (68, ⟨[0, 1, 4, 5, 10, 14, 26], [], [], []⟩),
   (69, ⟨[0, 1, 2, 4], [(6, .var 2 0)], [(0, .var 2 0)], [(2, 2), (5, 2)]⟩),
   (70, ⟨[0, 1, 2, 4], [(6, .var 2 2)], [(0, .var 2 0)], [(2, 2), (5, 2)]⟩),
   (71, ⟨[0, 1, 4, 5, 9], [(103, .slot 0 0), (94, .slot 0 0), (86, .slot 0 0), (78, .slot 0 0), (70, .slot 0 0), (61, .slot 0 0), (53, .slot 0 0), (45, .slot 0 0), (37, .slot 0 0), (30, .slot 0 0), (23, .slot 0 0), (16, .slot 0 0)], [(0, .slot 0 0)], []⟩),
   (72, ⟨[0, 1, 4, 5, 9], [(30, .slot 0 0), (23, .slot 0 0), (16, .slot 0 0)], [(0, .slot 0 0)], []⟩),
   (73, ⟨[0, 1, 2, 4, 10], [], [], [(2, 2), (5, 2)]⟩),
   (74, ⟨[0, 1, 2, 4, 10], [], [], [(2, 2), (5, 2)]⟩),
   (75, ⟨[0, 1, 4, 5, 9, 18, 27, 36, 47, 55, 65, 75, 86, 98, 108, 118, 127], [], [], []⟩),
   (76, ⟨[0, 1, 4, 5, 9, 18, 29, 38], [], [], []⟩),
   (82, ⟨[0, 1, 2, 3, 4, 9, 14, 19, 24, 30], [], [], [(2, 2), (3, 3), (5, 2), (7, 3), (10, 2), (12, 3), (15, 2), (17, 3), (20, 2), (22, 3), (25, 2), (27, 3)]⟩),
   (83, ⟨[0, 1, 4, 5, 9], [(15, .slot 0 0)], [(0, .slot 0 0)], []⟩),
   (84, ⟨[0, 1, 4, 5, 9], [(23, .slot 0 0), (16, .slot 0 0)], [(0, .slot 0 0)], []⟩),
   (85, ⟨[0, 1, 4, 5, 9, 17], [], [], []⟩),
   (86, ⟨[0, 1, 4, 5, 9, 18, 27], [], [], []⟩),
   (87, ⟨[0, 2, 3, 7, 43], [], [], []⟩),
   (88, ⟨[0, 1, 2, 18, 20, 21, 31, 42], [], [], [(1, 1), (3, 1), (8, 1), (14, 1), (19, 1), (23, 1), (27, 1), (34, 1), (38, 1), (44, 1), (48, 1), (53, 1)]⟩),
   (89, ⟨[0, 1, 2, 4, 5, 10, 20], [], [], [(2, 2), (7, 2), (13, 2)]⟩),
   (90, ⟨[0, 2], [], [], []⟩),
   (91, ⟨[0, 2], [], [], []⟩),
   (92, ⟨[0, 1, 2, 18, 20, 21, 31, 42], [], [], [(1, 1), (3, 1), (8, 1), (14, 1), (19, 1), (23, 1), (27, 1), (34, 1), (38, 1), (44, 1), (48, 1), (53, 1)]⟩),
   (93, ⟨[0, 1, 2, 4, 5, 6, 8, 9, 10, 11, 18], [], [], [(2, 2), (7, 2), (6, 6), (15, 6)]⟩),
   (94, ⟨[0, 1, 4, 5, 10, 14, 26], [], [], []⟩),
   (95, ⟨[0, 1, 4, 5, 10, 14, 26], [], [], []⟩),
   (96, ⟨[0, 1, 2, 3, 4, 9, 14, 19, 25, 31, 36], [], [], [(2, 2), (3, 3), (5, 2), (7, 3), (10, 2), (12, 3), (15, 2), (17, 3), (20, 2), (22, 3), (26, 2), (28, 3), (32, 2), (34, 3)]⟩),
   (97, ⟨[0, 1, 2, 3, 4, 9, 15, 21], [], [], [(2, 2), (3, 3), (5, 2), (7, 3), (10, 2), (12, 3), (16, 2), (18, 3)]⟩),
   (98, ⟨[0, 1, 4, 5, 9], [(53, .slot 0 0), (46, .slot 0 0), (38, .slot 0 0), (30, .slot 0 0), (23, .slot 0 0), (16, .slot 0 0)], [(0, .slot 0 0)], []⟩),
   (99, ⟨[0, 1, 4, 5, 9], [(24, .slot 0 0), (17, .slot 0 0)], [(0, .slot 0 0)], []⟩),
   (100, ⟨[0, 1, 4, 5, 9], [(73, .slot 0 0), (65, .slot 0 0), (56, .slot 0 0), (47, .slot 0 0), (39, .slot 0 0), (31, .slot 0 0), (23, .slot 0 0), (16, .slot 0 0)], [(0, .slot 0 0)], []⟩),
   (101, ⟨[0, 1, 4, 5, 9, 18, 27, 36, 46, 56, 65], [], [], []⟩),
   (102, ⟨[0, 1, 4, 5, 9, 19, 28], [], [], []⟩),
   (103, ⟨[0, 1, 4, 5, 9, 18, 27, 37, 47, 57, 68, 79, 89], [], [], []⟩),
   (106, ⟨[0, 1, 2, 3, 4, 9, 14, 19, 24, 30, 36, 42], [], [], [(2, 2), (3, 3), (5, 2), (7, 3), (10, 2), (12, 3), (15, 2), (17, 3), (20, 2), (22, 3), (25, 2), (27, 3), (31, 2), (33, 3), (37, 2), (39, 3)]⟩),
   (107, ⟨[0, 2], [], [], []⟩),
   (108, ⟨[0, 2], [], [], []⟩),
   (109, ⟨[0, 2, 3, 7, 19], [], [], []⟩),
   (110, ⟨[0, 2, 3, 4, 8, 38], [], [], []⟩),
   (111, ⟨[0, 2, 3, 4], [], [], []⟩),
   (112, ⟨[0, 2, 3, 7, 19], [], [], []⟩),
   (113, ⟨[0, 1, 2, 3, 4, 9, 14, 19, 24, 29, 34], [], [], [(2, 2), (3, 3), (5, 2), (7, 3), (10, 2), (12, 3), (15, 2), (17, 3), (20, 2), (22, 3), (25, 2), (27, 3), (30, 2), (32, 3)]⟩),
   (114, ⟨[0, 1, 2, 3, 4, 9, 14], [], [], [(2, 2), (3, 3), (5, 2), (7, 3), (10, 2), (12, 3)]⟩),
   (115, ⟨[0, 1, 4, 5, 10, 14, 25], [], [], []⟩),
   (116, ⟨[0, 1, 4, 5, 10, 14, 26], [], [], []⟩),
   (123, ⟨[0, 1, 4, 5, 10, 14, 26], [], [], []⟩),
   (124, ⟨[0, 1, 4, 5, 10, 14, 25], [], [], []⟩),
   (125, ⟨[0, 1, 4, 5, 10, 14, 26], [], [], []⟩),
   (126, ⟨[0, 2, 3, 4, 5, 9, 41], [], [], []⟩),
   (127, ⟨[0, 2], [], [], []⟩),
   (128, ⟨[0, 2, 3, 4, 6, 12, 20, 24], [], [], []⟩),
   (129, ⟨[0, 1, 2, 3, 4, 9, 14, 20], [], [], [(2, 2), (3, 3), (5, 2), (7, 3), (10, 2), (12, 3), (15, 2), (17, 3)]⟩),
   (132, ⟨[0, 1, 2, 3, 4, 10, 16], [], [], [(2, 2), (3, 3), (5, 2), (7, 3), (11, 2), (13, 3)]⟩),
   (133, ⟨[0, 1, 4, 5, 9, 17], [], [], []⟩),
   (134, ⟨[0], [], [], []⟩),
   (139, ⟨[0, 1, 4, 5, 10, 14, 26], [], [], []⟩),
   (141, ⟨[0, 1, 2, 3, 4, 9, 14], [], [], [(2, 2), (3, 3), (5, 2), (7, 3), (10, 2), (12, 3)]⟩)]
def Try.sigs : List (Nat × GSig) :=
  [(4, ⟨[], [(false, [.bool], [⟨0, 0, false, true, 0⟩])], false⟩),
   (9, ⟨[⟨false, false, false, [.slice 54]⟩, ⟨false, false, false, [.slice 54]⟩], [(false, [.bool], [⟨0, 0, false, true, 0⟩])], false⟩),
   (10, ⟨[⟨false, true, false, [.slice 54]⟩, ⟨false, false, false, [.int .i64]⟩], [(false, [.int .i64], [⟨0, 0, false, true, 0⟩])], false⟩),
   (11, ⟨[⟨false, false, false, [.slice 54]⟩, ⟨false, false, false, [.int .i64]⟩], [(false, [.int .i64], [⟨0, 0, false, true, 0⟩])], false⟩),
   (12, ⟨[], [(true, [.slice 124, .int .i64, .int .i64, .slice 126, .slice 54, .slice 133, .int .i64, .int .i64, .int .i64, .slice 124, .slice 95, .int .i64], [⟨1, 2, true, true, 0⟩, ⟨0, 0, false, true, 0⟩, ⟨0, 0, false, true, 0⟩, ⟨3, 4, true, true, 0⟩, ⟨5, 6, true, true, 0⟩, ⟨7, 8, true, true, 0⟩, ⟨0, 0, false, true, 0⟩, ⟨0, 0, false, true, 0⟩, ⟨0, 0, false, true, 0⟩, ⟨9, 10, true, true, 0⟩, ⟨11, 12, true, true, 0⟩, ⟨0, 0, false, true, 0⟩])], false⟩),
   (13, ⟨[], [(true, [.slice 124, .int .i64, .int .i64, .slice 126, .slice 54, .slice 133, .int .i64, .int .i64, .int .i64, .slice 124, .slice 95, .int .i64], [⟨1, 2, true, true, 0⟩, ⟨0, 0, false, true, 0⟩, ⟨0, 0, false, true, 0⟩, ⟨3, 4, true, true, 0⟩, ⟨5, 6, true, true, 0⟩, ⟨7, 8, true, true, 0⟩, ⟨0, 0, false, true, 0⟩, ⟨0, 0, false, true, 0⟩, ⟨0, 0, false, true, 0⟩, ⟨9, 10, true, true, 0⟩, ⟨11, 12, true, true, 0⟩, ⟨0, 0, false, true, 0⟩])], false⟩),
   (14, ⟨[⟨false, false, true, [.slice 124, .int .i64, .int .i64, .slice 126, .slice 54, .slice 133, .int .i64, .int .i64, .int .i64, .slice 124, .slice 95, .int .i64]⟩, ⟨false, false, true, [.slice 124, .int .i64, .int .i64, .slice 126, .slice 54, .slice 133, .int .i64, .int .i64, .int .i64, .slice 124, .slice 95, .int .i64]⟩], [(false, [.bool], [⟨0, 0, false, true, 0⟩])], false⟩),
   (15, ⟨[⟨false, true, true, [.slice 124, .int .i64, .int .i64, .slice 126, .slice 54, .slice 133, .int .i64, .int .i64, .int .i64, .slice 124, .slice 95, .int .i64]⟩, ⟨false, false, false, [.int .i64]⟩], [(false, [.int .i64], [⟨0, 0, false, true, 0⟩])], false⟩),
   (16, ⟨[⟨false, false, true, [.slice 124, .int .i64, .int .i64, .slice 126, .slice 54, .slice 133, .int .i64, .int .i64, .int .i64, .slice 124, .slice 95, .int .i64]⟩, ⟨false, false, false, [.int .i64]⟩], [(false, [.int .i64], [⟨0, 0, false, true, 0⟩])], false⟩),
   (25, ⟨[⟨false, false, true, [.int .i64, .int .i64, .slice 64]⟩, ⟨false, false, true, [.int .i64, .int .i64, .slice 64]⟩], [(false, [.bool], [⟨0, 0, false, true, 0⟩])], false⟩),
   (26, ⟨[⟨false, true, false, [.slice 64]⟩, ⟨false, false, false, [.int .i64]⟩], [(false, [.int .i64], [⟨0, 0, false, true, 0⟩])], false⟩),
   (27, ⟨[⟨false, false, false, [.slice 64]⟩, ⟨false, false, false, [.int .i64]⟩], [(false, [.int .i64], [⟨0, 0, false, true, 0⟩])], false⟩),
   (28, ⟨[⟨false, false, true, [.int .i64, .int .i64, .slice 126]⟩, ⟨false, false, false, [.int .i64]⟩], [(true, [.slice 124, .int .i64, .int .i64, .slice 126, .slice 54, .slice 133, .int .i64, .int .i64, .int .i64], [⟨1, 2, true, true, 0⟩, ⟨0, 0, false, true, 0⟩, ⟨0, 0, false, true, 0⟩, ⟨3, 4, true, true, 0⟩, ⟨5, 6, true, true, 0⟩, ⟨7, 8, true, true, 0⟩, ⟨0, 0, false, true, 0⟩, ⟨0, 0, false, true, 0⟩, ⟨0, 0, false, true, 0⟩]), (false, [.bool], [⟨0, 0, false, true, 0⟩])], false⟩),
   (29, ⟨[⟨false, false, true, [.slice 124]⟩], [(true, [.slice 124, .slice 95, .int .i64], [⟨1, 2, true, true, 0⟩, ⟨3, 4, true, true, 0⟩, ⟨0, 0, false, true, 0⟩]), (false, [.bool], [⟨0, 0, false, true, 0⟩])], false⟩),
   (30, ⟨[⟨false, false, true, [.int .i64, .int .i64, .slice 126]⟩, ⟨false, false, false, [.int .i64]⟩], [(true, [.slice 124, .int .i64, .int .i64, .slice 126, .slice 54, .slice 133, .int .i64, .int .i64, .int .i64], [⟨1, 2, true, true, 0⟩, ⟨0, 0, false, true, 0⟩, ⟨0, 0, false, true, 0⟩, ⟨3, 4, true, true, 0⟩, ⟨5, 6, true, true, 0⟩, ⟨7, 8, true, true, 0⟩, ⟨0, 0, false, true, 0⟩, ⟨0, 0, false, true, 0⟩, ⟨0, 0, false, true, 0⟩]), (false, [.bool], [⟨0, 0, false, true, 0⟩])], false⟩),
   (31, ⟨[⟨false, false, true, [.slice 124]⟩], [(true, [.slice 124, .slice 95, .int .i64], [⟨1, 2, true, true, 0⟩, ⟨3, 4, true, true, 0⟩, ⟨0, 0, false, true, 0⟩]), (false, [.bool], [⟨0, 0, false, true, 0⟩])], false⟩),
   (32, ⟨[⟨false, false, true, [.slice 124, .int .i64, .int .i64, .slice 126, .slice 54, .slice 133, .int .i64, .int .i64, .int .i64]⟩, ⟨false, false, true, [.slice 124, .int .i64, .int .i64, .slice 126, .slice 54, .slice 133, .int .i64, .int .i64, .int .i64]⟩], [(false, [.bool], [⟨0, 0, false, true, 0⟩])], false⟩),
   (33, ⟨[⟨false, false, true, [.slice 124, .slice 95, .int .i64]⟩, ⟨false, false, true, [.slice 124, .slice 95, .int .i64]⟩], [(false, [.bool], [⟨0, 0, false, true, 0⟩])], false⟩),
   (34, ⟨[⟨false, true, true, [.slice 124, .int .i64, .int .i64, .slice 126, .slice 54, .slice 133, .int .i64, .int .i64, .int .i64]⟩, ⟨false, false, false, [.int .i64]⟩], [(false, [.int .i64], [⟨0, 0, false, true, 0⟩])], false⟩),
   (35, ⟨[⟨false, true, true, [.slice 124, .slice 95, .int .i64]⟩, ⟨false, false, false, [.int .i64]⟩], [(false, [.int .i64], [⟨0, 0, false, true, 0⟩])], false⟩),
   (36, ⟨[⟨false, false, true, [.slice 124, .int .i64, .int .i64, .slice 126, .slice 54, .slice 133, .int .i64, .int .i64, .int .i64]⟩, ⟨false, false, false, [.int .i64]⟩], [(false, [.int .i64], [⟨0, 0, false, true, 0⟩])], false⟩),
   (37, ⟨[⟨false, false, true, [.slice 124, .slice 95, .int .i64]⟩, ⟨false, false, false, [.int .i64]⟩], [(false, [.int .i64], [⟨0, 0, false, true, 0⟩])], false⟩),
   (47, ⟨[⟨false, false, false, [.slice 64]⟩, ⟨false, false, false, [.slice 64]⟩], [(false, [.bool], [⟨0, 0, false, true, 0⟩])], false⟩),
   (48, ⟨[⟨false, false, false, [.int .i64]⟩], [(false, [.str], [⟨0, 0, false, true, 0⟩])], false⟩),
   (49, ⟨[⟨false, true, false, [.slice 60]⟩, ⟨false, false, false, [.int .i64]⟩], [(false, [.int .i64], [⟨0, 0, false, true, 0⟩])], false⟩),
   (50, ⟨[⟨false, true, false, [.slice 9]⟩, ⟨false, false, false, [.int .i64]⟩], [(false, [.int .i64], [⟨0, 0, false, true, 0⟩])], false⟩),
   (51, ⟨[⟨false, true, false, [.slice 114]⟩, ⟨false, false, false, [.int .i64]⟩], [(false, [.int .i64], [⟨0, 0, false, true, 0⟩])], false⟩),
   (52, ⟨[⟨false, false, false, [.slice 60]⟩, ⟨false, false, false, [.int .i64]⟩], [(false, [.int .i64], [⟨0, 0, false, true, 0⟩])], false⟩),
   (53, ⟨[⟨false, false, false, [.slice 9]⟩, ⟨false, false, false, [.int .i64]⟩], [(false, [.int .i64], [⟨0, 0, false, true, 0⟩])], false⟩),
   (54, ⟨[⟨false, false, false, [.slice 114]⟩, ⟨false, false, false, [.int .i64]⟩], [(false, [.int .i64], [⟨0, 0, false, true, 0⟩])], false⟩),
   (55, ⟨[⟨false, false, true, [.int .i64, .int .i64, .slice 126]⟩], [(false, [.bool], [⟨0, 0, false, true, 0⟩])], false⟩),
   (56, ⟨[⟨false, false, false, [.int .i64]⟩, ⟨false, false, false, [.int .i64]⟩, ⟨false, false, false, [.int .i64]⟩], [(false, [.bool], [⟨0, 0, false, true, 0⟩])], false⟩),
   (57, ⟨[⟨false, false, true, [.int .i64, .int .i64, .slice 126]⟩], [(true, [.int .i64, .int .i64, .slice 126], [⟨0, 0, false, true, 0⟩, ⟨0, 0, false, true, 0⟩, ⟨1, 2, true, true, 0⟩])], false⟩),
   (58, ⟨[⟨false, false, true, [.slice 124]⟩], [(false, [.bool], [⟨0, 0, false, true, 0⟩])], false⟩),
   (59, ⟨[⟨false, false, true, [.slice 124]⟩], [(true, [.slice 124], [⟨1, 2, true, true, 0⟩])], false⟩),
   (60, ⟨[⟨false, false, true, [.int .i64, .int .i64, .slice 126]⟩], [(false, [.bool], [⟨0, 0, false, true, 0⟩])], false⟩),
   (61, ⟨[⟨false, false, false, [.int .i64]⟩, ⟨false, false, false, [.int .i64]⟩, ⟨false, false, false, [.int .i64]⟩], [(false, [.bool], [⟨0, 0, false, true, 0⟩])], false⟩),
   (62, ⟨[⟨false, false, true, [.int .i64, .int .i64, .slice 126]⟩], [(true, [.int .i64, .int .i64, .slice 126], [⟨0, 0, false, true, 0⟩, ⟨0, 0, false, true, 0⟩, ⟨1, 2, true, true, 0⟩])], false⟩),
   (63, ⟨[⟨false, false, true, [.slice 124]⟩], [(false, [.bool], [⟨0, 0, false, true, 0⟩])], false⟩),
   (64, ⟨[⟨false, false, true, [.slice 124]⟩], [(true, [.slice 124], [⟨1, 2, true, true, 0⟩])], false⟩),
   (65, ⟨[⟨false, false, true, [.slice 124]⟩, ⟨false, false, true, [.slice 124]⟩], [(false, [.bool], [⟨0, 0, false, true, 0⟩])], false⟩),
   (66, ⟨[⟨false, false, true, [.int .i64, .int .i64, .slice 126]⟩, ⟨false, false, true, [.int .i64, .int .i64, .slice 126]⟩], [(false, [.bool], [⟨0, 0, false, true, 0⟩])], false⟩),
   (67, ⟨[⟨false, false, false, [.slice 133]⟩, ⟨false, false, false, [.slice 133]⟩], [(false, [.bool], [⟨0, 0, false, true, 0⟩])], false⟩),
   (68, ⟨[⟨false, false, false, [.slice 95]⟩, ⟨false, false, false, [.slice 95]⟩], [(false, [.bool], [⟨0, 0, false, true, 0⟩])], false⟩),
   (69, ⟨[⟨false, true, true, [.slice 124]⟩, ⟨false, false, false, [.int .i64]⟩], [(false, [.int .i64], [⟨0, 0, false, true, 0⟩])], false⟩),
   (70, ⟨[⟨false, true, true, [.int .i64, .int .i64, .slice 126]⟩, ⟨false, false, false, [.int .i64]⟩], [(false, [.int .i64], [⟨0, 0, false, true, 0⟩])], false⟩),
   (71, ⟨[⟨false, true, false, [.slice 133]⟩, ⟨false, false, false, [.int .i64]⟩], [(false, [.int .i64], [⟨0, 0, false, true, 0⟩])], false⟩),
   (72, ⟨[⟨false, true, false, [.slice 95]⟩, ⟨false, false, false, [.int .i64]⟩], [(false, [.int .i64], [⟨0, 0, false, true, 0⟩])], false⟩),
   (73, ⟨[⟨false, false, true, [.slice 124]⟩, ⟨false, false, false, [.int .i64]⟩], [(false, [.int .i64], [⟨0, 0, false, true, 0⟩])], false⟩),
   (74, ⟨[⟨false, false, true, [.int .i64, .int .i64, .slice 126]⟩, ⟨false, false, false, [.int .i64]⟩], [(false, [.int .i64], [⟨0, 0, false, true, 0⟩])], false⟩),
   (75, ⟨[⟨false, false, false, [.slice 133]⟩, ⟨false, false, false, [.int .i64]⟩], [(false, [.int .i64], [⟨0, 0, false, true, 0⟩])], false⟩),
   (76, ⟨[⟨false, false, false, [.slice 95]⟩, ⟨false, false, false, [.int .i64]⟩], [(false, [.int .i64], [⟨0, 0, false, true, 0⟩])], false⟩),
   (82, ⟨[⟨false, false, true, [.int .i64, .int .i64, .int .i64, .str, .int .i64, .int .i64, .int .i64, .str, .slice 60, .slice 9, .slice 114]⟩, ⟨false, false, true, [.int .i64, .int .i64, .int .i64, .str, .int .i64, .int .i64, .int .i64, .str, .slice 60, .slice 9, .slice 114]⟩], [(false, [.bool], [⟨0, 0, false, true, 0⟩])], false⟩),
   (83, ⟨[⟨false, true, false, [.slice 3]⟩, ⟨false, false, false, [.int .i64]⟩], [(false, [.int .i64], [⟨0, 0, false, true, 0⟩])], false⟩),
   (84, ⟨[⟨false, true, false, [.slice 142]⟩, ⟨false, false, false, [.int .i64]⟩], [(false, [.int .i64], [⟨0, 0, false, true, 0⟩])], false⟩),
   (85, ⟨[⟨false, false, false, [.slice 3]⟩, ⟨false, false, false, [.int .i64]⟩], [(false, [.int .i64], [⟨0, 0, false, true, 0⟩])], false⟩),
   (86, ⟨[⟨false, false, false, [.slice 142]⟩, ⟨false, false, false, [.int .i64]⟩], [(false, [.int .i64], [⟨0, 0, false, true, 0⟩])], false⟩),
   (87, ⟨[⟨false, false, false, [.slice 126]⟩], [(false, [.bool], [⟨0, 0, false, true, 0⟩])], false⟩),
   (88, ⟨[⟨false, false, true, [.int .i64, .int .i64, .int .i64, .str, .str, .int .i64]⟩], [(false, [.bool], [⟨0, 0, false, true, 0⟩])], false⟩),
   (89, ⟨[⟨false, false, true, [.slice 124]⟩, ⟨false, false, false, [.int .i64]⟩], [(false, [.int .i64], [⟨0, 0, false, true, 0⟩])], false⟩),
   (90, ⟨[⟨false, false, false, [.str]⟩], [(false, [.bool], [⟨0, 0, false, true, 0⟩])], false⟩),
   (91, ⟨[⟨false, false, false, [.int .i64]⟩], [(false, [.bool], [⟨0, 0, false, true, 0⟩])], false⟩),
   (92, ⟨[⟨false, false, true, [.int .i64, .int .i64, .int .i64, .str, .str, .int .i64]⟩], [(false, [.bool], [⟨0, 0, false, true, 0⟩])], false⟩),
   (93, ⟨[⟨false, false, true, [.slice 124]⟩, ⟨false, false, false, [.int .i64]⟩], [(false, [.int .i64], [⟨0, 0, false, true, 0⟩])], false⟩),
   (94, ⟨[⟨false, false, false, [.slice 124]⟩, ⟨false, false, false, [.slice 124]⟩], [(false, [.bool], [⟨0, 0, false, true, 0⟩])], false⟩),
   (95, ⟨[⟨false, false, false, [.slice 126]⟩, ⟨false, false, false, [.slice 126]⟩], [(false, [.bool], [⟨0, 0, false, true, 0⟩])], false⟩),
   (96, ⟨[⟨false, false, true, [.int .i64, .int .i64, .int .i64, .slice 3, .int .i64, .int .i64, .int .i64, .str, .slice 60, .slice 9, .slice 114, .bool]⟩, ⟨false, false, true, [.int .i64, .int .i64, .int .i64, .slice 3, .int .i64, .int .i64, .int .i64, .str, .slice 60, .slice 9, .slice 114, .bool]⟩], [(false, [.bool], [⟨0, 0, false, true, 0⟩])], false⟩),
   (97, ⟨[⟨false, false, true, [.int .i64, .slice 148, .slice 148]⟩, ⟨false, false, true, [.int .i64, .slice 148, .slice 148]⟩], [(false, [.bool], [⟨0, 0, false, true, 0⟩])], false⟩),
   (98, ⟨[⟨false, true, false, [.slice 124]⟩, ⟨false, false, false, [.int .i64]⟩], [(false, [.int .i64], [⟨0, 0, false, true, 0⟩])], false⟩),
   (99, ⟨[⟨false, true, false, [.slice 126]⟩, ⟨false, false, false, [.int .i64]⟩], [(false, [.int .i64], [⟨0, 0, false, true, 0⟩])], false⟩),
   (100, ⟨[⟨false, true, false, [.slice 148]⟩, ⟨false, false, false, [.int .i64]⟩], [(false, [.int .i64], [⟨0, 0, false, true, 0⟩])], false⟩),
   (101, ⟨[⟨false, false, false, [.slice 124]⟩, ⟨false, false, false, [.int .i64]⟩], [(false, [.int .i64], [⟨0, 0, false, true, 0⟩])], false⟩),
   (102, ⟨[⟨false, false, false, [.slice 126]⟩, ⟨false, false, false, [.int .i64]⟩], [(false, [.int .i64], [⟨0, 0, false, true, 0⟩])], false⟩),
   (103, ⟨[⟨false, false, false, [.slice 148]⟩, ⟨false, false, false, [.int .i64]⟩], [(false, [.int .i64], [⟨0, 0, false, true, 0⟩])], false⟩),
   (106, ⟨[⟨false, false, true, [.int .i64, .int .i64, .int .i64, .str, .slice 60, .slice 9, .slice 114]⟩, ⟨false, false, true, [.int .i64, .int .i64, .int .i64, .str, .slice 60, .slice 9, .slice 114]⟩], [(false, [.bool], [⟨0, 0, false, true, 0⟩])], false⟩),
   (107, ⟨[⟨false, false, false, [.str]⟩], [(false, [.bool], [⟨0, 0, false, true, 0⟩])], false⟩),
   (108, ⟨[⟨false, false, false, [.int .i64]⟩], [(false, [.bool], [⟨0, 0, false, true, 0⟩])], false⟩),
   (109, ⟨[⟨false, false, false, [.str]⟩], [(false, [.bool], [⟨0, 0, false, true, 0⟩])], false⟩),
   (110, ⟨[⟨false, false, false, [.str]⟩], [(false, [.bool], [⟨0, 0, false, true, 0⟩])], false⟩),
   (111, ⟨[⟨false, false, false, [.str]⟩], [(false, [.bool], [⟨0, 0, false, true, 0⟩])], false⟩),
   (112, ⟨[⟨false, false, false, [.str]⟩], [(false, [.bool], [⟨0, 0, false, true, 0⟩])], false⟩),
   (113, ⟨[⟨false, false, true, [.int .i64, .int .i64, .int .i64, .str, .str, .int .i64]⟩, ⟨false, false, true, [.int .i64, .int .i64, .int .i64, .str, .str, .int .i64]⟩], [(false, [.bool], [⟨0, 0, false, true, 0⟩])], false⟩),
   (114, ⟨[⟨false, false, true, [.str, .int .i64]⟩, ⟨false, false, true, [.str, .int .i64]⟩], [(false, [.bool], [⟨0, 0, false, true, 0⟩])], false⟩),
   (115, ⟨[⟨false, false, false, [.slice 3]⟩, ⟨false, false, false, [.slice 3]⟩], [(false, [.bool], [⟨0, 0, false, true, 0⟩])], false⟩),
   (116, ⟨[⟨false, false, false, [.slice 148]⟩, ⟨false, false, false, [.slice 148]⟩], [(false, [.bool], [⟨0, 0, false, true, 0⟩])], false⟩),
   (123, ⟨[⟨false, false, false, [.slice 60]⟩, ⟨false, false, false, [.slice 60]⟩], [(false, [.bool], [⟨0, 0, false, true, 0⟩])], false⟩),
   (124, ⟨[⟨false, false, false, [.slice 9]⟩, ⟨false, false, false, [.slice 9]⟩], [(false, [.bool], [⟨0, 0, false, true, 0⟩])], false⟩),
   (125, ⟨[⟨false, false, false, [.slice 114]⟩, ⟨false, false, false, [.slice 114]⟩], [(false, [.bool], [⟨0, 0, false, true, 0⟩])], false⟩),
   (126, ⟨[⟨false, false, false, [.str]⟩], [(false, [.bool], [⟨0, 0, false, true, 0⟩])], false⟩),
   (127, ⟨[⟨false, false, false, [.str]⟩], [(false, [.bool], [⟨0, 0, false, true, 0⟩])], false⟩),
   (128, ⟨[⟨false, false, false, [.str]⟩], [(false, [.int .i64], [⟨0, 0, false, true, 0⟩])], false⟩),
   (129, ⟨[⟨false, false, true, [.int .i64, .int .i64, .int .i64, .int .i64, .int .i64, .str, .str, .int .i64]⟩, ⟨false, false, true, [.int .i64, .int .i64, .int .i64, .int .i64, .int .i64, .str, .str, .int .i64]⟩], [(false, [.bool], [⟨0, 0, false, true, 0⟩])], false⟩),
   (132, ⟨[⟨false, false, true, [.slice 3, .slice 142]⟩, ⟨false, false, true, [.slice 3, .slice 142]⟩], [(false, [.bool], [⟨0, 0, false, true, 0⟩])], false⟩),
   (133, ⟨[⟨false, false, false, [.slice 9]⟩, ⟨false, false, false, [.str]⟩], [(false, [.bool], [⟨0, 0, false, true, 0⟩])], false⟩),
   (134, ⟨[], [(false, [.slice 9], [⟨1, 2, true, true, 0⟩])], false⟩),
   (139, ⟨[⟨false, false, false, [.slice 142]⟩, ⟨false, false, false, [.slice 142]⟩], [(false, [.bool], [⟨0, 0, false, true, 0⟩])], false⟩),
   (141, ⟨[⟨false, false, true, [.int .i64, .int .i64]⟩, ⟨false, false, true, [.int .i64, .int .i64]⟩], [(false, [.bool], [⟨0, 0, false, true, 0⟩])], false⟩)]
theorem Try.tabOk : tabCheck Try.prog Try.tab = true := by kernel_rfl
theorem Try.fnOk4 : cFn (ktab Try.tab Try.sigs noGks) (hintsAt Try.hints 4) ((sigsAt Try.sigs 4).getD default) Try.f4 = true := by kernel_rfl
theorem Try.fnOk9 : cFn (ktab Try.tab Try.sigs noGks) (hintsAt Try.hints 9) ((sigsAt Try.sigs 9).getD default) Try.f9 = true := by kernel_rfl
theorem Try.fnOk10 : cFn (ktab Try.tab Try.sigs noGks) (hintsAt Try.hints 10) ((sigsAt Try.sigs 10).getD default) Try.f10 = true := by kernel_rfl
theorem Try.fnOk11 : cFn (ktab Try.tab Try.sigs noGks) (hintsAt Try.hints 11) ((sigsAt Try.sigs 11).getD default) Try.f11 = true := by kernel_rfl
theorem Try.fnOk12 : cFn (ktab Try.tab Try.sigs noGks) (hintsAt Try.hints 12) ((sigsAt Try.sigs 12).getD default) Try.f12 = true := by kernel_rfl
theorem Try.fnOk13 : cFn (ktab Try.tab Try.sigs noGks) (hintsAt Try.hints 13) ((sigsAt Try.sigs 13).getD default) Try.f13 = true := by kernel_rfl
theorem Try.fnOk14 : cFn (ktab Try.tab Try.sigs noGks) (hintsAt Try.hints 14) ((sigsAt Try.sigs 14).getD default) Try.f14 = true := by kernel_rfl
theorem Try.fnOk15 : cFn (ktab Try.tab Try.sigs noGks) (hintsAt Try.hints 15) ((sigsAt Try.sigs 15).getD default) Try.f15 = true := by kernel_rfl
theorem Try.fnOk16 : cFn (ktab Try.tab Try.sigs noGks) (hintsAt Try.hints 16) ((sigsAt Try.sigs 16).getD default) Try.f16 = true := by kernel_rfl
theorem Try.fnOk25 : cFn (ktab Try.tab Try.sigs noGks) (hintsAt Try.hints 25) ((sigsAt Try.sigs 25).getD default) Try.f25 = true := by kernel_rfl
theorem Try.fnOk26 : cFn (ktab Try.tab Try.sigs noGks) (hintsAt Try.hints 26) ((sigsAt Try.sigs 26).getD default) Try.f26 = true := by kernel_rfl
theorem Try.fnOk27 : cFn (ktab Try.tab Try.sigs noGks) (hintsAt Try.hints 27) ((sigsAt Try.sigs 27).getD default) Try.f27 = true := by kernel_rfl
theorem Try.fnOk28 : cFn (ktab Try.tab Try.sigs noGks) (hintsAt Try.hints 28) ((sigsAt Try.sigs 28).getD default) Try.f28 = true := by kernel_rfl
theorem Try.fnOk29 : cFn (ktab Try.tab Try.sigs noGks) (hintsAt Try.hints 29) ((sigsAt Try.sigs 29).getD default) Try.f29 = true := by kernel_rfl
theorem Try.fnOk30 : cFn (ktab Try.tab Try.sigs noGks) (hintsAt Try.hints 30) ((sigsAt Try.sigs 30).getD default) Try.f30 = true := by kernel_rfl
theorem Try.fnOk31 : cFn (ktab Try.tab Try.sigs noGks) (hintsAt Try.hints 31) ((sigsAt Try.sigs 31).getD default) Try.f31 = true := by kernel_rfl
theorem Try.fnOk32 : cFn (ktab Try.tab Try.sigs noGks) (hintsAt Try.hints 32) ((sigsAt Try.sigs 32).getD default) Try.f32 = true := by kernel_rfl
theorem Try.fnOk33 : cFn (ktab Try.tab Try.sigs noGks) (hintsAt Try.hints 33) ((sigsAt Try.sigs 33).getD default) Try.f33 = true := by kernel_rfl
theorem Try.fnOk34 : cFn (ktab Try.tab Try.sigs noGks) (hintsAt Try.hints 34) ((sigsAt Try.sigs 34).getD default) Try.f34 = true := by kernel_rfl
theorem Try.fnOk35 : cFn (ktab Try.tab Try.sigs noGks) (hintsAt Try.hints 35) ((sigsAt Try.sigs 35).getD default) Try.f35 = true := by kernel_rfl
theorem Try.fnOk36 : cFn (ktab Try.tab Try.sigs noGks) (hintsAt Try.hints 36) ((sigsAt Try.sigs 36).getD default) Try.f36 = true := by kernel_rfl
theorem Try.fnOk37 : cFn (ktab Try.tab Try.sigs noGks) (hintsAt Try.hints 37) ((sigsAt Try.sigs 37).getD default) Try.f37 = true := by kernel_rfl
theorem Try.fnOk47 : cFn (ktab Try.tab Try.sigs noGks) (hintsAt Try.hints 47) ((sigsAt Try.sigs 47).getD default) Try.f47 = true := by kernel_rfl
theorem Try.fnOk48 : cFn (ktab Try.tab Try.sigs noGks) (hintsAt Try.hints 48) ((sigsAt Try.sigs 48).getD default) Try.f48 = true := by kernel_rfl
theorem Try.fnOk49 : cFn (ktab Try.tab Try.sigs noGks) (hintsAt Try.hints 49) ((sigsAt Try.sigs 49).getD default) Try.f49 = true := by kernel_rfl
theorem Try.fnOk50 : cFn (ktab Try.tab Try.sigs noGks) (hintsAt Try.hints 50) ((sigsAt Try.sigs 50).getD default) Try.f50 = true := by kernel_rfl
theorem Try.fnOk51 : cFn (ktab Try.tab Try.sigs noGks) (hintsAt Try.hints 51) ((sigsAt Try.sigs 51).getD default) Try.f51 = true := by kernel_rfl
theorem Try.fnOk52 : cFn (ktab Try.tab Try.sigs noGks) (hintsAt Try.hints 52) ((sigsAt Try.sigs 52).getD default) Try.f52 = true := by kernel_rfl
theorem Try.fnOk53 : cFn (ktab Try.tab Try.sigs noGks) (hintsAt Try.hints 53) ((sigsAt Try.sigs 53).getD default) Try.f53 = true := by kernel_rfl
theorem Try.fnOk54 : cFn (ktab Try.tab Try.sigs noGks) (hintsAt Try.hints 54) ((sigsAt Try.sigs 54).getD default) Try.f54 = true := by kernel_rfl
theorem Try.fnOk55 : cFn (ktab Try.tab Try.sigs noGks) (hintsAt Try.hints 55) ((sigsAt Try.sigs 55).getD default) Try.f55 = true := by kernel_rfl
theorem Try.fnOk56 : cFn (ktab Try.tab Try.sigs noGks) (hintsAt Try.hints 56) ((sigsAt Try.sigs 56).getD default) Try.f56 = true := by kernel_rfl
theorem Try.fnOk57 : cFn (ktab Try.tab Try.sigs noGks) (hintsAt Try.hints 57) ((sigsAt Try.sigs 57).getD default) Try.f57 = true := by kernel_rfl
theorem Try.fnOk58 : cFn (ktab Try.tab Try.sigs noGks) (hintsAt Try.hints 58) ((sigsAt Try.sigs 58).getD default) Try.f58 = true := by kernel_rfl
theorem Try.fnOk59 : cFn (ktab Try.tab Try.sigs noGks) (hintsAt Try.hints 59) ((sigsAt Try.sigs 59).getD default) Try.f59 = true := by kernel_rfl
theorem Try.fnOk60 : cFn (ktab Try.tab Try.sigs noGks) (hintsAt Try.hints 60) ((sigsAt Try.sigs 60).getD default) Try.f60 = true := by kernel_rfl
theorem Try.fnOk61 : cFn (ktab Try.tab Try.sigs noGks) (hintsAt Try.hints 61) ((sigsAt Try.sigs 61).getD default) Try.f61 = true := by kernel_rfl
theorem Try.fnOk62 : cFn (ktab Try.tab Try.sigs noGks) (hintsAt Try.hints 62) ((sigsAt Try.sigs 62).getD default) Try.f62 = true := by kernel_rfl
theorem Try.fnOk63 : cFn (ktab Try.tab Try.sigs noGks) (hintsAt Try.hints 63) ((sigsAt Try.sigs 63).getD default) Try.f63 = true := by kernel_rfl
theorem Try.fnOk64 : cFn (ktab Try.tab Try.sigs noGks) (hintsAt Try.hints 64) ((sigsAt Try.sigs 64).getD default) Try.f64 = true := by kernel_rfl
theorem Try.fnOk65 : cFn (ktab Try.tab Try.sigs noGks) (hintsAt Try.hints 65) ((sigsAt Try.sigs 65).getD default) Try.f65 = true := by kernel_rfl
theorem Try.fnOk66 : cFn (ktab Try.tab Try.sigs noGks) (hintsAt Try.hints 66) ((sigsAt Try.sigs 66).getD default) Try.f66 = true := by kernel_rfl
theorem Try.fnOk67 : cFn (ktab Try.tab Try.sigs noGks) (hintsAt Try.hints 67) ((sigsAt Try.sigs 67).getD default) Try.f67 = true := by kernel_rfl
theorem Try.fnOk68 : cFn (ktab Try.tab Try.sigs noGks) (hintsAt Try.hints 68) ((sigsAt Try.sigs 68).getD default) Try.f68 = true := by kernel_rfl
theorem Try.fnOk69 : cFn (ktab Try.tab Try.sigs noGks) (hintsAt Try.hints 69) ((sigsAt Try.sigs 69).getD default) Try.f69 = true := by kernel_rfl
theorem Try.fnOk70 : cFn (ktab Try.tab Try.sigs noGks) (hintsAt Try.hints 70) ((sigsAt Try.sigs 70).getD default) Try.f70 = true := by kernel_rfl
theorem Try.fnOk71 : cFn (ktab Try.tab Try.sigs noGks) (hintsAt Try.hints 71) ((sigsAt Try.sigs 71).getD default) Try.f71 = true := by kernel_rfl
theorem Try.fnOk72 : cFn (ktab Try.tab Try.sigs noGks) (hintsAt Try.hints 72) ((sigsAt Try.sigs 72).getD default) Try.f72 = true := by kernel_rfl
theorem Try.fnOk73 : cFn (ktab Try.tab Try.sigs noGks) (hintsAt Try.hints 73) ((sigsAt Try.sigs 73).getD default) Try.f73 = true := by kernel_rfl
theorem Try.fnOk74 : cFn (ktab Try.tab Try.sigs noGks) (hintsAt Try.hints 74) ((sigsAt Try.sigs 74).getD default) Try.f74 = true := by kernel_rfl
theorem Try.fnOk75 : cFn (ktab Try.tab Try.sigs noGks) (hintsAt Try.hints 75) ((sigsAt Try.sigs 75).getD default) Try.f75 = true := by kernel_rfl
theorem Try.fnOk76 : cFn (ktab Try.tab Try.sigs noGks) (hintsAt Try.hints 76) ((sigsAt Try.sigs 76).getD default) Try.f76 = true := by kernel_rfl
theorem Try.fnOk82 : cFn (ktab Try.tab Try.sigs noGks) (hintsAt Try.hints 82) ((sigsAt Try.sigs 82).getD default) Try.f82 = true := by kernel_rfl
theorem Try.fnOk83 : cFn (ktab Try.tab Try.sigs noGks) (hintsAt Try.hints 83) ((sigsAt Try.sigs 83).getD default) Try.f83 = true := by kernel_rfl
theorem Try.fnOk84 : cFn (ktab Try.tab Try.sigs noGks) (hintsAt Try.hints 84) ((sigsAt Try.sigs 84).getD default) Try.f84 = true := by kernel_rfl
theorem Try.fnOk85 : cFn (ktab Try.tab Try.sigs noGks) (hintsAt Try.hints 85) ((sigsAt Try.sigs 85).getD default) Try.f85 = true := by kernel_rfl
theorem Try.fnOk86 : cFn (ktab Try.tab Try.sigs noGks) (hintsAt Try.hints 86) ((sigsAt Try.sigs 86).getD default) Try.f86 = true := by kernel_rfl
theorem Try.fnOk87 : cFn (ktab Try.tab Try.sigs noGks) (hintsAt Try.hints 87) ((sigsAt Try.sigs 87).getD default) Try.f87 = true := by kernel_rfl
theorem Try.fnOk88 : cFn (ktab Try.tab Try.sigs noGks) (hintsAt Try.hints 88) ((sigsAt Try.sigs 88).getD default) Try.f88 = true := by kernel_rfl
theorem Try.fnOk89 : cFn (ktab Try.tab Try.sigs noGks) (hintsAt Try.hints 89) ((sigsAt Try.sigs 89).getD default) Try.f89 = true := by kernel_rfl
theorem Try.fnOk90 : cFn (ktab Try.tab Try.sigs noGks) (hintsAt Try.hints 90) ((sigsAt Try.sigs 90).getD default) Try.f90 = true := by kernel_rfl
theorem Try.fnOk91 : cFn (ktab Try.tab Try.sigs noGks) (hintsAt Try.hints 91) ((sigsAt Try.sigs 91).getD default) Try.f91 = true := by kernel_rfl
theorem Try.fnOk92 : cFn (ktab Try.tab Try.sigs noGks) (hintsAt Try.hints 92) ((sigsAt Try.sigs 92).getD default) Try.f92 = true := by kernel_rfl
theorem Try.fnOk93 : cFn (ktab Try.tab Try.sigs noGks) (hintsAt Try.hints 93) ((sigsAt Try.sigs 93).getD default) Try.f93 = true := by kernel_rfl
theorem Try.fnOk94 : cFn (ktab Try.tab Try.sigs noGks) (hintsAt Try.hints 94) ((sigsAt Try.sigs 94).getD default) Try.f94 = true := by kernel_rfl
theorem Try.fnOk95 : cFn (ktab Try.tab Try.sigs noGks) (hintsAt Try.hints 95) ((sigsAt Try.sigs 95).getD default) Try.f95 = true := by kernel_rfl
theorem Try.fnOk96 : cFn (ktab Try.tab Try.sigs noGks) (hintsAt Try.hints 96) ((sigsAt Try.sigs 96).getD default) Try.f96 = true := by kernel_rfl
theorem Try.fnOk97 : cFn (ktab Try.tab Try.sigs noGks) (hintsAt Try.hints 97) ((sigsAt Try.sigs 97).getD default) Try.f97 = true := by kernel_rfl
theorem Try.fnOk98 : cFn (ktab Try.tab Try.sigs noGks) (hintsAt Try.hints 98) ((sigsAt Try.sigs 98).getD default) Try.f98 = true := by kernel_rfl
theorem Try.fnOk99 : cFn (ktab Try.tab Try.sigs noGks) (hintsAt Try.hints 99) ((sigsAt Try.sigs 99).getD default) Try.f99 = true := by kernel_rfl
theorem Try.fnOk100 : cFn (ktab Try.tab Try.sigs noGks) (hintsAt Try.hints 100) ((sigsAt Try.sigs 100).getD default) Try.f100 = true := by kernel_rfl
theorem Try.fnOk101 : cFn (ktab Try.tab Try.sigs noGks) (hintsAt Try.hints 101) ((sigsAt Try.sigs 101).getD default) Try.f101 = true := by kernel_rfl
theorem Try.fnOk102 : cFn (ktab Try.tab Try.sigs noGks) (hintsAt Try.hints 102) ((sigsAt Try.sigs 102).getD default) Try.f102 = true := by kernel_rfl
theorem Try.fnOk103 : cFn (ktab Try.tab Try.sigs noGks) (hintsAt Try.hints 103) ((sigsAt Try.sigs 103).getD default) Try.f103 = true := by kernel_rfl
theorem Try.fnOk106 : cFn (ktab Try.tab Try.sigs noGks) (hintsAt Try.hints 106) ((sigsAt Try.sigs 106).getD default) Try.f106 = true := by kernel_rfl
theorem Try.fnOk107 : cFn (ktab Try.tab Try.sigs noGks) (hintsAt Try.hints 107) ((sigsAt Try.sigs 107).getD default) Try.f107 = true := by kernel_rfl
theorem Try.fnOk108 : cFn (ktab Try.tab Try.sigs noGks) (hintsAt Try.hints 108) ((sigsAt Try.sigs 108).getD default) Try.f108 = true := by kernel_rfl
theorem Try.fnOk109 : cFn (ktab Try.tab Try.sigs noGks) (hintsAt Try.hints 109) ((sigsAt Try.sigs 109).getD default) Try.f109 = true := by kernel_rfl
theorem Try.fnOk110 : cFn (ktab Try.tab Try.sigs noGks) (hintsAt Try.hints 110) ((sigsAt Try.sigs 110).getD default) Try.f110 = true := by kernel_rfl
theorem Try.fnOk111 : cFn (ktab Try.tab Try.sigs noGks) (hintsAt Try.hints 111) ((sigsAt Try.sigs 111).getD default) Try.f111 = true := by kernel_rfl
theorem Try.fnOk112 : cFn (ktab Try.tab Try.sigs noGks) (hintsAt Try.hints 112) ((sigsAt Try.sigs 112).getD default) Try.f112 = true := by kernel_rfl
theorem Try.fnOk113 : cFn (ktab Try.tab Try.sigs noGks) (hintsAt Try.hints 113) ((sigsAt Try.sigs 113).getD default) Try.f113 = true := by kernel_rfl
theorem Try.fnOk114 : cFn (ktab Try.tab Try.sigs noGks) (hintsAt Try.hints 114) ((sigsAt Try.sigs 114).getD default) Try.f114 = true := by kernel_rfl
theorem Try.fnOk115 : cFn (ktab Try.tab Try.sigs noGks) (hintsAt Try.hints 115) ((sigsAt Try.sigs 115).getD default) Try.f115 = true := by kernel_rfl
theorem Try.fnOk116 : cFn (ktab Try.tab Try.sigs noGks) (hintsAt Try.hints 116) ((sigsAt Try.sigs 116).getD default) Try.f116 = true := by kernel_rfl
theorem Try.fnOk123 : cFn (ktab Try.tab Try.sigs noGks) (hintsAt Try.hints 123) ((sigsAt Try.sigs 123).getD default) Try.f123 = true := by kernel_rfl
theorem Try.fnOk124 : cFn (ktab Try.tab Try.sigs noGks) (hintsAt Try.hints 124) ((sigsAt Try.sigs 124).getD default) Try.f124 = true := by kernel_rfl
theorem Try.fnOk125 : cFn (ktab Try.tab Try.sigs noGks) (hintsAt Try.hints 125) ((sigsAt Try.sigs 125).getD default) Try.f125 = true := by kernel_rfl
theorem Try.fnOk126 : cFn (ktab Try.tab Try.sigs noGks) (hintsAt Try.hints 126) ((sigsAt Try.sigs 126).getD default) Try.f126 = true := by kernel_rfl
theorem Try.fnOk127 : cFn (ktab Try.tab Try.sigs noGks) (hintsAt Try.hints 127) ((sigsAt Try.sigs 127).getD default) Try.f127 = true := by kernel_rfl
theorem Try.fnOk128 : cFn (ktab Try.tab Try.sigs noGks) (hintsAt Try.hints 128) ((sigsAt Try.sigs 128).getD default) Try.f128 = true := by kernel_rfl
theorem Try.fnOk129 : cFn (ktab Try.tab Try.sigs noGks) (hintsAt Try.hints 129) ((sigsAt Try.sigs 129).getD default) Try.f129 = true := by kernel_rfl
theorem Try.fnOk132 : cFn (ktab Try.tab Try.sigs noGks) (hintsAt Try.hints 132) ((sigsAt Try.sigs 132).getD default) Try.f132 = true := by kernel_rfl
theorem Try.fnOk133 : cFn (ktab Try.tab Try.sigs noGks) (hintsAt Try.hints 133) ((sigsAt Try.sigs 133).getD default) Try.f133 = true := by kernel_rfl
theorem Try.fnOk134 : cFn (ktab Try.tab Try.sigs noGks) (hintsAt Try.hints 134) ((sigsAt Try.sigs 134).getD default) Try.f134 = true := by kernel_rfl
theorem Try.fnOk139 : cFn (ktab Try.tab Try.sigs noGks) (hintsAt Try.hints 139) ((sigsAt Try.sigs 139).getD default) Try.f139 = true := by kernel_rfl
theorem Try.fnOk141 : cFn (ktab Try.tab Try.sigs noGks) (hintsAt Try.hints 141) ((sigsAt Try.sigs 141).getD default) Try.f141 = true := by kernel_rfl
end Go.Proofs
