/- The names of the functions, the slots of the loops, the modes of the calls, by program. -/
import Derived.Test.YtahngpmkkhechaaGreatDoorMono2
import Derived.Test.YtahngpmkkhechaaGreatDoorProg
import Derived.Calls
import Derived.Calls
import Derived.Calls
import Derived.Lib.Repeat
import Derived.Lib.AtoiAll
import Derived.Lib.ItoaNum
import Derived.Lib.Bytealg
namespace Go.Proofs.YtahngpmkkhechaaGreatDoor.A
open Go
set_option maxRecDepth 100000
def liveT : List (Nat × List (Nat × List Nat × List Nat)) :=
  [(6, [(5, [0, 2, 4, 15, 16, 17], [])]),
   (16, [(4, [2, 3, 5], []), (9, [2, 3, 6], [])]),
   (17, [(4, [1, 28, 29, 30], [])]),
   (22, [(5, [0, 2, 3, 4, 5, 6], [])]),
   (24, [(9, [0, 4, 6, 36, 37, 38], [])]),
   (29, [(4, [0, 2, 3, 4, 6], [])]),
   (33, [(5, [1, 3, 4], []), (12, [1, 6], [])]),
   (35, [(4, [1, 2, 3, 4], [])]),
   (39, [(4, [0, 1, 5], [])]),
   (40, [(4, [2, 3, 5], [])]),
   (42, [(2, [0, 5, 6, 7], [])]),
   (43, [(4, [1, 23, 24, 25], [])]),
   (46, [(3, [0, 3, 4, 9, 10, 11], [])]),
   (49, [(3, [0, 1, 4, 5, 6, 7, 8], [])]),
   (54, [(11, [0, 1, 4, 6, 7], [])]),
   (60, [(4, [0, 1, 5], [])]),
   (61, [(4, [0, 1, 5], [])]),
   (63, [(4, [0, 1, 5], [])]),
   (64, [(2, [0, 1, 5], [])]),
   (65, [(2, [0, 1, 5], [])]),
   (67, [(2, [0, 1, 5], [])]),
   (68, [(2, [0, 1, 5], [])]),
   (69, [(2, [0, 1, 5], [])]),
   (71, [(2, [0, 1, 5], [])]),
   (73, [(3, [0, 1, 5, 6], [])]),
   (78, [(3, [2, 3, 19, 20, 21], [])]),
   (82, [(6, [0, 3], [])]),
   (83, [(4, [1, 3], [])]),
   (93, [(3, [3, 7, 8, 9], [])]),
   (103, [(4, [3, 4, 5, 6], []), (9, [7, 40, 41], [])]),
   (105, [(2, [0, 1, 8, 9], [])]),
   (111, [(2, [0, 7, 8], [])]),
   (113, [(3, [0, 6, 19, 20, 21], [])]),
   (121, [(4, [0, 1, 5], [])]),
   (123, [(4, [0, 3], [])]),
   (124, [(2, [0, 1, 5], [])]),
   (125, [(2, [0, 1, 5], [])]),
   (137, [(3, [0, 3, 4], []), (6, [0, 3, 4, 5], []), (11, [3, 4, 6, 7], []), (16, [3, 8, 9], [])]),
   (139, [(3, [0, 3, 4], []), (8, [3, 6], []), (11, [3, 6, 7], [])]),
   (142, [(5, [0, 3, 4], [])]),
   (149, [(2, [0, 1, 7, 8], [])]),
   (150, [(2, [0, 1, 7, 8], [])]),
   (152, [(38, [7, 8, 9], [])]),
   (153, [(3, [0, 5, 6], [])]),
   (156, [(2, [3, 4, 6, 7, 8], []), (3, [3, 4, 6, 7, 8, 22], []), (11, [3, 6, 7, 100], [])]),
   (157, [(1, [0, 1, 3], [])]),
   (158, [(3, [0, 1, 2, 8, 9, 10], [])]),
   (167, [(3, [0, 1, 5, 6], [])]),
   (173, [(2, [0, 1, 2, 6, 7], []), (6, [0, 2, 6, 8], []), (13, [0, 2, 6, 11, 12], []), (21, [0, 11, 17], [])]),
   (175, [(2, [0, 1, 5], [])]),
   (179, [(2, [0, 1, 2, 3, 4, 10, 11], [])]),
   (182, [(10, [5, 6, 47, 48, 49], [])]),
   (191, [(3, [0, 2, 3, 10], [])]),
   (193, [(4, [0, 3], [])]),
   (199, [(1, [0, 1, 2, 3, 8], []), (4, [0, 1, 2, 3, 8, 9], [])]),
   (200, [(4, [0, 3, 8, 9, 10, 11], []), (8, [0, 3, 8, 9, 12], [])]),
   (201, [(5, [0, 1, 8, 9, 10, 11], [])]),
   (203, [(2, [0, 8, 9], [])]),
   (204, [(3, [0, 1, 2, 3, 9, 10], []), (5, [0, 1, 2, 3, 9, 10], []), (14, [0, 1, 2, 3, 9, 10, 11], []), (20, [0, 1, 2, 3, 9, 10, 12], [])]),
   (205, [(3, [0, 1, 4, 11, 12], []), (5, [0, 1, 4, 11, 12], [])]),
   (206, [(3, [0, 1, 4, 12, 13], []), (5, [0, 1, 4, 12, 13], []), (13, [0, 1, 4, 12, 13], []), (15, [0, 1, 4, 12, 13], [])]),
   (225, [(1, [0, 2, 3, 4, 10], [])]),
   (230, [(36, [1, 8, 9, 10, 11, 12, 13, 99, 100, 101], [])]),
   (240, [(10, [0, 3, 4, 5], [])]),
   (243, [(1, [0, 1, 4], [])]),
   (244, [(11, [0, 1, 3, 4, 10, 11, 12, 13, 14, 15, 16], []), (18, [0, 1, 3, 4, 10, 11, 12, 13, 17], [])]),
   (250, [(1, [0, 2, 3], [])])]
def modeT : List (Nat × Mode) :=
  [(6, ⟨false, true, false, false, false, []⟩), (8, ⟨true, false, true, false, false, []⟩), (24, ⟨false, true, false, false, false, []⟩), (26, ⟨true, false, true, false, false, []⟩), (28, ⟨false, true, false, false, false, [.nils, .int .i64 0, .int .i64 0]⟩), (64, ⟨true, false, true, false, false, []⟩), (65, ⟨true, false, true, false, false, []⟩), (66, ⟨true, false, true, false, false, []⟩), (67, ⟨true, false, true, false, false, []⟩), (72, ⟨true, false, true, false, false, []⟩), (74, ⟨true, false, true, false, false, []⟩), (77, ⟨true, false, true, false, false, []⟩), (81, ⟨false, true, false, false, false, []⟩), (112, ⟨false, true, false, false, true, []⟩), (113, ⟨false, true, false, false, true, []⟩), (114, ⟨false, true, false, true, true, []⟩), (115, ⟨false, true, false, true, true, []⟩), (117, ⟨false, true, false, true, true, []⟩), (124, ⟨true, false, true, false, false, []⟩), (126, ⟨true, false, true, false, false, []⟩), (162, ⟨false, true, false, false, true, []⟩), (164, ⟨false, true, false, false, true, []⟩), (173, ⟨true, false, true, false, false, []⟩), (194, ⟨true, true, true, true, false, []⟩), (195, ⟨false, true, false, false, true, []⟩), (224, ⟨true, true, false, true, false, []⟩)]
def hofT : List Nat := [30, 113, 149, 150, 157, 158, 179, 199, 204, 205, 206, 225, 238]
def dynT : List Nat := [113]
def convT : List Nat := [87, 130]
def planT : List (Nat × List (Nat × Plan)) :=
  [(4, [(4, .step 0 (.step 1 (.fork (.step 2 (.fork (.step 3 (.step 4 (.step 5 (.step 6 (.step 7 (.step 8 (.step 9 (.done)))))))) (.step 7 (.step 3 (.step 4 (.step 5 (.step 6 (.step 8 (.step 9 (.done)))))))))) (.step 7 (.step 2 (.step 3 (.step 4 (.step 5 (.step 6 (.step 8 (.step 9 (.done)))))))))))), (5, .step 0 (.step 1 (.fork (.step 2 (.fork (.step 3 (.step 4 (.step 5 (.step 6 (.step 7 (.step 8 (.step 9 (.done)))))))) (.step 7 (.step 3 (.step 4 (.step 5 (.step 6 (.step 8 (.step 9 (.done)))))))))) (.step 7 (.step 2 (.step 3 (.step 4 (.step 5 (.step 6 (.step 8 (.step 9 (.done))))))))))))]),
   (6, [(11, .step 0 (.step 1 (.step 2 (.step 3 (.step 4 (.step 5 (.step 6 (.step 7 (.step 8 (.done))))))))))]),
   (12, [(5, .step 0 (.step 1 (.step 2 (.step 3 (.step 4 (.step 5 (.step 6 (.step 9 (.step 10 (.step 11 (.step 12 (.step 13 (.step 14 (.step 15 (.step 16 (.step 19 (.step 20 (.step 21 (.step 22 (.step 24 (.fork (.step 7 (.step 8 (.step 17 (.step 18 (.step 23 (.step 25 (.step 26 (.done)))))))) (.step 17 (.step 7 (.step 8 (.step 18 (.step 23 (.step 25 (.step 26 (.done)))))))))))))))))))))))))))))]),
   (16, [(6, .step 0 (.step 1 (.step 2 (.step 3 (.step 4 (.step 5 (.step 6 (.step 7 (.step 8 (.step 9 (.step 10 (.step 11 (.step 12 (.step 13 (.step 14 (.step 15 (.step 16 (.step 17 (.step 18 (.step 19 (.step 20 (.step 21 (.step 22 (.step 23 (.step 24 (.step 25 (.step 26 (.step 27 (.step 28 (.done)))))))))))))))))))))))))))))), (11, .step 0 (.step 1 (.step 2 (.step 3 (.step 4 (.step 5 (.step 6 (.step 7 (.step 8 (.step 9 (.step 10 (.done))))))))))))]),
   (17, [(9, .step 0 (.step 1 (.step 3 (.step 4 (.step 5 (.step 2 (.step 6 (.step 7 (.step 8 (.step 9 (.step 10 (.step 11 (.step 12 (.done))))))))))))))]),
   (19, [(7, .step 0 (.step 1 (.step 2 (.step 3 (.step 4 (.step 5 (.step 6 (.done))))))))]),
   (24, [(13, .step 0 (.step 1 (.step 2 (.step 3 (.step 4 (.step 6 (.step 7 (.step 5 (.step 8 (.step 9 (.step 10 (.step 11 (.step 12 (.step 13 (.done)))))))))))))))]),
   (29, [(9, .step 0 (.step 2 (.step 5 (.fork (.step 1 (.fork (.step 3 (.fork (.step 4 (.fork (.step 6 (.step 7 (.fork (.step 8 (.step 9 (.step 10 (.step 11 (.step 12 (.step 13 (.step 14 (.step 15 (.step 16 (.done)))))))))) (.step 13 (.step 8 (.step 9 (.step 10 (.step 11 (.step 12 (.step 14 (.step 15 (.step 16 (.done))))))))))))) (.step 13 (.step 6 (.step 7 (.step 8 (.step 9 (.step 10 (.step 11 (.step 12 (.step 14 (.step 15 (.step 16 (.done)))))))))))))) (.step 13 (.step 4 (.step 6 (.step 7 (.step 8 (.step 9 (.step 10 (.step 11 (.step 12 (.step 14 (.step 15 (.step 16 (.done))))))))))))))) (.step 13 (.step 3 (.step 4 (.step 6 (.step 7 (.step 8 (.step 9 (.step 10 (.step 11 (.step 12 (.step 14 (.step 15 (.step 16 (.done)))))))))))))))) (.fork (.step 3 (.fork (.step 1 (.fork (.step 4 (.fork (.step 6 (.step 7 (.fork (.step 8 (.step 9 (.step 10 (.step 11 (.step 12 (.step 13 (.step 14 (.step 15 (.step 16 (.done)))))))))) (.step 13 (.step 8 (.step 9 (.step 10 (.step 11 (.step 12 (.step 14 (.step 15 (.step 16 (.done))))))))))))) (.step 13 (.step 6 (.step 7 (.step 8 (.step 9 (.step 10 (.step 11 (.step 12 (.step 14 (.step 15 (.step 16 (.done)))))))))))))) (.step 13 (.step 4 (.step 6 (.step 7 (.step 8 (.step 9 (.step 10 (.step 11 (.step 12 (.step 14 (.step 15 (.step 16 (.done))))))))))))))) (.fork (.step 4 (.fork (.step 1 (.fork (.step 6 (.step 7 (.fork (.step 8 (.step 9 (.step 10 (.step 11 (.step 12 (.step 13 (.step 14 (.step 15 (.step 16 (.done)))))))))) (.step 13 (.step 8 (.step 9 (.step 10 (.step 11 (.step 12 (.step 14 (.step 15 (.step 16 (.done))))))))))))) (.step 13 (.step 6 (.step 7 (.step 8 (.step 9 (.step 10 (.step 11 (.step 12 (.step 14 (.step 15 (.step 16 (.done)))))))))))))) (.fork (.step 6 (.step 1 (.step 7 (.fork (.step 8 (.step 9 (.step 10 (.step 11 (.step 12 (.step 13 (.step 14 (.step 15 (.step 16 (.done)))))))))) (.step 13 (.step 8 (.step 9 (.step 10 (.step 11 (.step 12 (.step 14 (.step 15 (.step 16 (.done)))))))))))))) (.step 13 (.fork (.step 1 (.step 6 (.step 7 (.step 8 (.step 9 (.step 10 (.step 11 (.step 12 (.step 14 (.step 15 (.step 16 (.done)))))))))))) (.step 6 (.step 1 (.step 7 (.step 8 (.step 9 (.step 10 (.step 11 (.step 12 (.step 14 (.step 15 (.step 16 (.done))))))))))))))))) (.step 13 (.fork (.step 1 (.step 4 (.step 6 (.step 7 (.step 8 (.step 9 (.step 10 (.step 11 (.step 12 (.step 14 (.step 15 (.step 16 (.done))))))))))))) (.step 4 (.fork (.step 1 (.step 6 (.step 7 (.step 8 (.step 9 (.step 10 (.step 11 (.step 12 (.step 14 (.step 15 (.step 16 (.done)))))))))))) (.step 6 (.step 1 (.step 7 (.step 8 (.step 9 (.step 10 (.step 11 (.step 12 (.step 14 (.step 15 (.step 16 (.done))))))))))))))))))) (.step 13 (.fork (.step 1 (.step 3 (.step 4 (.step 6 (.step 7 (.step 8 (.step 9 (.step 10 (.step 11 (.step 12 (.step 14 (.step 15 (.step 16 (.done)))))))))))))) (.step 3 (.fork (.step 1 (.step 4 (.step 6 (.step 7 (.step 8 (.step 9 (.step 10 (.step 11 (.step 12 (.step 14 (.step 15 (.step 16 (.done))))))))))))) (.step 4 (.fork (.step 1 (.step 6 (.step 7 (.step 8 (.step 9 (.step 10 (.step 11 (.step 12 (.step 14 (.step 15 (.step 16 (.done)))))))))))) (.step 6 (.step 1 (.step 7 (.step 8 (.step 9 (.step 10 (.step 11 (.step 12 (.step 14 (.step 15 (.step 16 (.done))))))))))))))))))))))), (14, .step 0 (.step 2 (.step 4 (.step 6 (.step 7 (.fork (.step 1 (.step 3 (.step 5 (.step 8 (.step 9 (.step 10 (.step 11 (.step 12 (.step 13 (.step 14 (.step 15 (.done)))))))))))) (.step 3 (.fork (.step 1 (.step 5 (.step 8 (.step 9 (.step 10 (.step 11 (.step 12 (.step 13 (.step 14 (.step 15 (.done))))))))))) (.step 5 (.fork (.step 1 (.step 8 (.step 9 (.step 10 (.step 11 (.step 12 (.step 13 (.step 14 (.step 15 (.done)))))))))) (.step 8 (.step 1 (.step 9 (.step 10 (.step 11 (.step 12 (.step 13 (.step 14 (.step 15 (.done)))))))))))))))))))), (7, .step 1 (.fork (.step 0 (.step 2 (.step 3 (.step 4 (.step 5 (.step 6 (.step 7 (.done)))))))) (.step 2 (.step 0 (.step 3 (.step 4 (.step 5 (.step 6 (.step 7 (.done))))))))))]),
   (32, [(1, .step 0 (.step 1 (.step 2 (.step 3 (.step 4 (.step 5 (.step 6 (.step 7 (.step 8 (.step 9 (.fork (.step 10 (.fork (.step 11 (.fork (.step 12 (.step 13 (.step 14 (.step 15 (.done))))) (.step 13 (.step 12 (.step 14 (.step 15 (.done))))))) (.fork (.step 12 (.fork (.step 11 (.step 13 (.step 14 (.step 15 (.done))))) (.step 13 (.step 11 (.step 14 (.step 15 (.done))))))) (.step 13 (.fork (.step 11 (.step 12 (.step 14 (.step 15 (.done))))) (.step 12 (.step 11 (.step 14 (.step 15 (.done)))))))))) (.step 13 (.step 10 (.fork (.step 11 (.step 12 (.step 14 (.step 15 (.done))))) (.step 12 (.step 11 (.step 14 (.step 15 (.done))))))))))))))))))), (5, .step 0 (.step 1 (.step 3 (.step 5 (.fork (.step 2 (.step 4 (.step 6 (.step 7 (.step 8 (.done)))))) (.step 6 (.step 2 (.step 4 (.step 7 (.step 8 (.done))))))))))), (10, .step 0 (.step 1 (.step 2 (.step 3 (.step 4 (.step 5 (.step 6 (.step 7 (.step 8 (.step 9 (.step 10 (.step 11 (.step 12 (.step 13 (.step 14 (.step 15 (.step 16 (.done))))))))))))))))))]),
   (33, [(8, .step 0 (.step 1 (.step 2 (.step 3 (.step 4 (.step 5 (.step 6 (.step 7 (.step 8 (.step 9 (.step 10 (.step 11 (.step 12 (.step 13 (.step 14 (.step 15 (.step 16 (.step 17 (.step 18 (.step 19 (.step 20 (.step 21 (.step 22 (.step 23 (.step 24 (.step 25 (.step 26 (.step 27 (.step 28 (.step 29 (.step 30 (.step 31 (.step 32 (.step 33 (.step 34 (.step 35 (.step 36 (.step 37 (.step 38 (.step 39 (.step 40 (.step 41 (.step 42 (.step 43 (.step 44 (.step 45 (.step 46 (.step 47 (.step 48 (.step 49 (.step 50 (.step 51 (.done))))))))))))))))))))))))))))))))))))))))))))))))))))), (16, .step 0 (.step 1 (.step 3 (.step 4 (.step 5 (.step 2 (.step 6 (.step 7 (.done)))))))))]),
   (34, [(4, .step 0 (.step 1 (.step 2 (.step 4 (.step 5 (.fork (.step 3 (.fork (.step 6 (.fork (.step 7 (.step 8 (.step 9 (.done)))) (.step 8 (.step 7 (.step 9 (.done)))))) (.step 8 (.step 6 (.step 7 (.step 9 (.done))))))) (.step 8 (.step 3 (.step 6 (.step 7 (.step 9 (.done)))))))))))), (6, .step 0 (.step 1 (.step 2 (.step 3 (.step 4 (.step 5 (.step 6 (.step 7 (.step 8 (.step 9 (.step 10 (.step 11 (.step 12 (.done)))))))))))))), (10, .step 1 (.step 2 (.step 5 (.fork (.step 0 (.fork (.step 3 (.step 4 (.step 6 (.step 7 (.step 8 (.step 9 (.step 10 (.step 11 (.done))))))))) (.fork (.step 4 (.fork (.step 3 (.step 6 (.step 7 (.step 8 (.step 9 (.step 10 (.step 11 (.done)))))))) (.step 6 (.fork (.step 3 (.step 7 (.step 8 (.step 9 (.step 10 (.step 11 (.done))))))) (.step 7 (.fork (.step 3 (.step 8 (.step 9 (.step 10 (.step 11 (.done)))))) (.step 8 (.step 3 (.step 9 (.step 10 (.step 11 (.done)))))))))))) (.step 6 (.fork (.step 3 (.step 4 (.step 7 (.step 8 (.step 9 (.step 10 (.step 11 (.done)))))))) (.step 4 (.fork (.step 3 (.step 7 (.step 8 (.step 9 (.step 10 (.step 11 (.done))))))) (.step 7 (.fork (.step 3 (.step 8 (.step 9 (.step 10 (.step 11 (.done)))))) (.step 8 (.step 3 (.step 9 (.step 10 (.step 11 (.done))))))))))))))) (.fork (.step 4 (.fork (.step 0 (.fork (.step 3 (.step 6 (.step 7 (.step 8 (.step 9 (.step 10 (.step 11 (.done)))))))) (.step 6 (.fork (.step 3 (.step 7 (.step 8 (.step 9 (.step 10 (.step 11 (.done))))))) (.step 7 (.fork (.step 3 (.step 8 (.step 9 (.step 10 (.step 11 (.done)))))) (.step 8 (.step 3 (.step 9 (.step 10 (.step 11 (.done)))))))))))) (.step 6 (.fork (.step 0 (.fork (.step 3 (.step 7 (.step 8 (.step 9 (.step 10 (.step 11 (.done))))))) (.step 7 (.fork (.step 3 (.step 8 (.step 9 (.step 10 (.step 11 (.done)))))) (.step 8 (.step 3 (.step 9 (.step 10 (.step 11 (.done)))))))))) (.step 7 (.fork (.step 0 (.fork (.step 3 (.step 8 (.step 9 (.step 10 (.step 11 (.done)))))) (.step 8 (.step 3 (.step 9 (.step 10 (.step 11 (.done)))))))) (.step 8 (.step 0 (.step 3 (.step 9 (.step 10 (.step 11 (.done))))))))))))) (.step 6 (.fork (.step 0 (.fork (.step 3 (.step 4 (.step 7 (.step 8 (.step 9 (.step 10 (.step 11 (.done)))))))) (.step 4 (.fork (.step 3 (.step 7 (.step 8 (.step 9 (.step 10 (.step 11 (.done))))))) (.step 7 (.fork (.step 3 (.step 8 (.step 9 (.step 10 (.step 11 (.done)))))) (.step 8 (.step 3 (.step 9 (.step 10 (.step 11 (.done)))))))))))) (.step 4 (.fork (.step 0 (.fork (.step 3 (.step 7 (.step 8 (.step 9 (.step 10 (.step 11 (.done))))))) (.step 7 (.fork (.step 3 (.step 8 (.step 9 (.step 10 (.step 11 (.done)))))) (.step 8 (.step 3 (.step 9 (.step 10 (.step 11 (.done)))))))))) (.step 7 (.fork (.step 0 (.fork (.step 3 (.step 8 (.step 9 (.step 10 (.step 11 (.done)))))) (.step 8 (.step 3 (.step 9 (.step 10 (.step 11 (.done)))))))) (.step 8 (.step 0 (.step 3 (.step 9 (.step 10 (.step 11 (.done))))))))))))))))))]),
   (35, [(6, .step 0 (.step 1 (.step 3 (.step 8 (.step 9 (.step 10 (.step 11 (.step 12 (.step 13 (.fork (.step 2 (.step 4 (.step 5 (.fork (.step 6 (.step 7 (.step 14 (.step 15 (.step 16 (.step 17 (.step 18 (.done)))))))) (.step 7 (.fork (.step 6 (.step 14 (.step 15 (.step 16 (.step 17 (.step 18 (.done))))))) (.step 14 (.step 6 (.step 15 (.step 16 (.step 17 (.step 18 (.done))))))))))))) (.step 7 (.fork (.step 2 (.step 4 (.step 5 (.fork (.step 6 (.step 14 (.step 15 (.step 16 (.step 17 (.step 18 (.done))))))) (.step 14 (.step 6 (.step 15 (.step 16 (.step 17 (.step 18 (.done))))))))))) (.step 14 (.step 2 (.step 4 (.step 5 (.step 6 (.step 15 (.step 16 (.step 17 (.step 18 (.done))))))))))))))))))))))]),
   (36, [(3, .step 0 (.step 1 (.step 2 (.step 3 (.step 4 (.step 5 (.step 6 (.step 7 (.step 8 (.step 9 (.step 10 (.step 11 (.step 12 (.step 13 (.step 14 (.done))))))))))))))))]),
   (39, [(6, .step 0 (.step 1 (.step 2 (.step 3 (.step 4 (.step 5 (.step 6 (.step 7 (.step 8 (.done))))))))))]),
   (40, [(6, .step 0 (.step 1 (.step 2 (.step 3 (.step 4 (.step 5 (.step 6 (.step 7 (.step 8 (.step 9 (.step 10 (.done))))))))))))]),
   (42, [(4, .step 0 (.step 1 (.step 2 (.step 3 (.step 4 (.step 5 (.step 6 (.step 7 (.step 8 (.step 9 (.step 10 (.step 11 (.step 12 (.step 13 (.step 14 (.step 15 (.step 16 (.step 17 (.step 18 (.step 19 (.step 20 (.step 21 (.step 22 (.step 23 (.step 24 (.done))))))))))))))))))))))))))]),
   (43, [(1, .step 0 (.step 1 (.step 2 (.step 3 (.step 4 (.step 5 (.step 6 (.step 7 (.step 8 (.step 9 (.step 10 (.step 11 (.step 12 (.step 13 (.step 14 (.step 15 (.step 16 (.done)))))))))))))))))), (6, .step 0 (.step 1 (.step 2 (.step 3 (.step 4 (.step 5 (.step 6 (.step 7 (.step 8 (.step 9 (.step 10 (.step 11 (.step 12 (.step 13 (.step 14 (.step 15 (.step 16 (.step 17 (.step 18 (.step 19 (.step 20 (.step 21 (.step 22 (.step 23 (.step 24 (.step 25 (.step 26 (.done))))))))))))))))))))))))))))]),
   (46, [(6, .step 0 (.step 1 (.step 2 (.step 3 (.step 4 (.step 5 (.step 6 (.step 7 (.step 8 (.step 9 (.step 10 (.step 11 (.step 12 (.step 13 (.step 14 (.step 15 (.step 16 (.step 17 (.step 18 (.step 19 (.step 20 (.step 21 (.step 22 (.step 23 (.step 24 (.step 25 (.step 26 (.step 27 (.step 28 (.step 29 (.step 30 (.step 31 (.step 32 (.step 33 (.step 34 (.step 35 (.done))))))))))))))))))))))))))))))))))))), (8, .step 0 (.step 2 (.step 3 (.step 1 (.step 4 (.step 5 (.done)))))))]),
   (49, [(9, .step 0 (.step 1 (.step 2 (.step 3 (.step 4 (.step 5 (.step 6 (.step 7 (.step 8 (.step 9 (.done))))))))))), (10, .step 0 (.step 1 (.step 2 (.step 3 (.step 4 (.step 5 (.step 6 (.step 7 (.step 8 (.step 9 (.step 10 (.done))))))))))))]),
   (52, [(3, .step 0 (.step 1 (.step 2 (.step 3 (.step 4 (.step 5 (.step 6 (.step 7 (.done)))))))))]),
   (54, [(15, .step 0 (.step 1 (.step 2 (.step 3 (.step 4 (.step 5 (.step 6 (.step 7 (.step 8 (.step 9 (.step 10 (.step 11 (.step 12 (.step 13 (.step 14 (.step 15 (.step 16 (.step 17 (.step 18 (.done))))))))))))))))))))]),
   (60, [(6, .step 0 (.step 1 (.step 2 (.step 3 (.step 4 (.step 5 (.step 6 (.step 7 (.step 8 (.step 9 (.done)))))))))))]),
   (61, [(6, .step 0 (.step 1 (.step 2 (.step 3 (.step 4 (.step 5 (.step 6 (.step 7 (.step 8 (.step 9 (.done)))))))))))]),
   (63, [(6, .step 0 (.step 1 (.step 2 (.step 3 (.step 4 (.step 5 (.step 6 (.step 7 (.step 8 (.step 9 (.done)))))))))))]),
   (68, [(4, .step 0 (.step 1 (.step 2 (.step 3 (.step 4 (.step 5 (.step 6 (.step 7 (.done))))))))), (7, .step 0 (.step 1 (.step 2 (.step 3 (.step 4 (.step 5 (.step 6 (.step 7 (.done)))))))))]),
   (69, [(10, .step 0 (.step 1 (.step 2 (.step 3 (.step 4 (.step 5 (.step 6 (.step 7 (.step 8 (.done)))))))))), (13, .step 0 (.step 1 (.step 2 (.step 3 (.step 4 (.step 5 (.step 6 (.step 7 (.step 8 (.done))))))))))]),
   (71, [(10, .step 0 (.step 1 (.step 2 (.step 3 (.step 4 (.step 5 (.step 6 (.step 7 (.done)))))))))]),
   (75, [(7, .step 0 (.step 1 (.step 2 (.step 4 (.step 3 (.step 5 (.step 6 (.step 7 (.step 8 (.step 9 (.step 10 (.step 11 (.done))))))))))))), (10, .step 0 (.step 1 (.step 2 (.step 3 (.step 4 (.done))))))]),
   (78, [(1, .step 0 (.step 1 (.step 2 (.step 3 (.step 5 (.step 6 (.step 8 (.step 9 (.fork (.step 4 (.fork (.step 7 (.fork (.step 10 (.fork (.step 11 (.step 12 (.step 13 (.done)))) (.step 12 (.step 11 (.step 13 (.done)))))) (.step 12 (.step 10 (.step 11 (.step 13 (.done))))))) (.step 12 (.step 7 (.step 10 (.step 11 (.step 13 (.done)))))))) (.step 12 (.step 4 (.step 7 (.step 10 (.step 11 (.step 13 (.done)))))))))))))))), (5, .step 0 (.step 1 (.step 2 (.step 3 (.step 4 (.step 5 (.step 6 (.step 7 (.step 8 (.step 9 (.step 10 (.step 11 (.done)))))))))))))]),
   (82, [(8, .step 0 (.step 1 (.step 2 (.step 3 (.step 4 (.step 5 (.step 6 (.step 7 (.step 8 (.step 9 (.step 10 (.step 11 (.step 12 (.step 13 (.step 14 (.step 15 (.step 16 (.step 17 (.step 18 (.step 19 (.step 20 (.step 21 (.step 22 (.step 23 (.done)))))))))))))))))))))))))]),
   (83, [(1, .step 0 (.step 1 (.step 2 (.step 3 (.step 4 (.step 5 (.step 6 (.step 7 (.step 8 (.step 9 (.step 10 (.step 11 (.step 12 (.step 13 (.step 14 (.step 15 (.step 16 (.step 17 (.step 18 (.step 19 (.step 20 (.step 21 (.done))))))))))))))))))))))), (7, .step 0 (.step 1 (.step 2 (.step 3 (.step 4 (.step 5 (.step 6 (.step 7 (.step 8 (.step 9 (.step 10 (.step 11 (.step 12 (.step 13 (.step 14 (.step 15 (.step 16 (.step 17 (.step 18 (.step 19 (.step 20 (.step 21 (.step 22 (.step 23 (.step 24 (.step 25 (.done)))))))))))))))))))))))))))]),
   (92, [(5, .step 0 (.step 1 (.step 2 (.step 3 (.step 4 (.step 5 (.step 6 (.step 7 (.step 8 (.step 9 (.step 10 (.step 11 (.done)))))))))))))]),
   (93, [(5, .step 0 (.step 1 (.step 2 (.step 4 (.step 5 (.step 3 (.step 6 (.step 7 (.step 8 (.step 9 (.step 10 (.done))))))))))))]),
   (100, [(4, .step 0 (.step 1 (.step 2 (.step 3 (.step 4 (.step 5 (.step 6 (.step 7 (.done)))))))))]),
   (103, [(6, .step 0 (.step 1 (.step 2 (.step 3 (.step 4 (.step 5 (.step 6 (.step 7 (.step 8 (.done))))))))))]),
   (114, [(1, .step 0 (.step 1 (.step 3 (.step 2 (.step 4 (.step 5 (.step 6 (.step 7 (.step 8 (.done))))))))))]),
   (117, [(1, .step 0 (.step 1 (.step 2 (.step 4 (.step 3 (.step 5 (.step 6 (.step 7 (.step 8 (.step 9 (.done)))))))))))]),
   (121, [(6, .step 0 (.step 1 (.step 2 (.step 3 (.step 4 (.step 5 (.step 6 (.step 7 (.step 8 (.step 9 (.done)))))))))))]),
   (125, [(7, .step 0 (.step 1 (.step 2 (.step 3 (.step 4 (.step 5 (.step 6 (.step 7 (.done)))))))))]),
   (126, [(2, .step 0 (.step 1 (.step 2 (.step 3 (.step 4 (.step 5 (.step 6 (.step 7 (.step 8 (.step 9 (.done))))))))))), (3, .step 0 (.step 1 (.step 2 (.step 3 (.step 4 (.step 5 (.step 6 (.step 7 (.step 8 (.step 9 (.step 10 (.step 11 (.step 12 (.step 13 (.step 14 (.step 15 (.step 16 (.step 17 (.step 18 (.step 19 (.step 20 (.step 21 (.step 22 (.step 23 (.done))))))))))))))))))))))))), (4, .step 0 (.step 1 (.step 2 (.step 3 (.step 4 (.step 5 (.step 6 (.step 7 (.step 8 (.step 9 (.step 10 (.step 11 (.step 12 (.done))))))))))))))]),
   (127, [(8, .step 1 (.step 2 (.step 3 (.step 5 (.step 6 (.step 10 (.step 11 (.step 12 (.fork (.step 0 (.fork (.step 4 (.step 7 (.step 8 (.step 9 (.step 13 (.step 14 (.step 15 (.done)))))))) (.step 7 (.fork (.step 4 (.step 8 (.step 9 (.step 13 (.step 14 (.step 15 (.done))))))) (.step 8 (.step 4 (.step 9 (.step 13 (.step 14 (.step 15 (.done))))))))))) (.step 7 (.fork (.step 0 (.fork (.step 4 (.step 8 (.step 9 (.step 13 (.step 14 (.step 15 (.done))))))) (.step 8 (.step 4 (.step 9 (.step 13 (.step 14 (.step 15 (.done))))))))) (.step 8 (.step 0 (.step 4 (.step 9 (.step 13 (.step 14 (.step 15 (.done)))))))))))))))))))]),
   (128, [(7, .step 0 (.step 1 (.step 3 (.step 4 (.step 5 (.fork (.step 2 (.step 6 (.step 7 (.step 8 (.step 9 (.step 10 (.done))))))) (.step 6 (.fork (.step 2 (.step 7 (.step 8 (.step 9 (.step 10 (.done)))))) (.step 7 (.fork (.step 2 (.step 8 (.step 9 (.step 10 (.done))))) (.step 8 (.step 2 (.step 9 (.step 10 (.done)))))))))))))))]),
   (133, [(1, .step 0 (.step 1 (.step 2 (.step 3 (.step 4 (.step 5 (.step 6 (.done))))))))]),
   (135, [(1, .step 0 (.step 1 (.step 3 (.step 4 (.step 7 (.step 8 (.step 10 (.step 11 (.step 2 (.step 5 (.step 6 (.step 9 (.step 12 (.step 13 (.done)))))))))))))))]),
   (137, [(18, .step 0 (.step 1 (.step 2 (.step 3 (.step 4 (.step 5 (.step 7 (.step 8 (.step 9 (.step 10 (.step 11 (.step 13 (.step 14 (.step 15 (.step 16 (.step 17 (.step 19 (.step 20 (.step 21 (.step 22 (.fork (.step 6 (.fork (.step 12 (.fork (.step 18 (.step 23 (.step 24 (.step 25 (.step 26 (.done)))))) (.step 23 (.step 18 (.step 24 (.step 25 (.step 26 (.done)))))))) (.fork (.step 18 (.fork (.step 12 (.step 23 (.step 24 (.step 25 (.step 26 (.done)))))) (.step 23 (.step 12 (.step 24 (.step 25 (.step 26 (.done)))))))) (.step 23 (.fork (.step 12 (.step 18 (.step 24 (.step 25 (.step 26 (.done)))))) (.step 18 (.step 12 (.step 24 (.step 25 (.step 26 (.done))))))))))) (.fork (.step 12 (.fork (.step 6 (.fork (.step 18 (.step 23 (.step 24 (.step 25 (.step 26 (.done)))))) (.step 23 (.step 18 (.step 24 (.step 25 (.step 26 (.done)))))))) (.fork (.step 18 (.fork (.step 6 (.step 23 (.step 24 (.step 25 (.step 26 (.done)))))) (.step 23 (.step 6 (.step 24 (.step 25 (.step 26 (.done)))))))) (.step 23 (.fork (.step 6 (.step 18 (.step 24 (.step 25 (.step 26 (.done)))))) (.step 18 (.step 6 (.step 24 (.step 25 (.step 26 (.done))))))))))) (.fork (.step 18 (.fork (.step 6 (.fork (.step 12 (.step 23 (.step 24 (.step 25 (.step 26 (.done)))))) (.step 23 (.step 12 (.step 24 (.step 25 (.step 26 (.done)))))))) (.fork (.step 12 (.fork (.step 6 (.step 23 (.step 24 (.step 25 (.step 26 (.done)))))) (.step 23 (.step 6 (.step 24 (.step 25 (.step 26 (.done)))))))) (.step 23 (.fork (.step 6 (.step 12 (.step 24 (.step 25 (.step 26 (.done)))))) (.step 12 (.step 6 (.step 24 (.step 25 (.step 26 (.done))))))))))) (.step 23 (.fork (.step 6 (.fork (.step 12 (.step 18 (.step 24 (.step 25 (.step 26 (.done)))))) (.step 18 (.step 12 (.step 24 (.step 25 (.step 26 (.done)))))))) (.fork (.step 12 (.fork (.step 6 (.step 18 (.step 24 (.step 25 (.step 26 (.done)))))) (.step 18 (.step 6 (.step 24 (.step 25 (.step 26 (.done)))))))) (.step 18 (.fork (.step 6 (.step 12 (.step 24 (.step 25 (.step 26 (.done)))))) (.step 12 (.step 6 (.step 24 (.step 25 (.step 26 (.done))))))))))))))))))))))))))))))))))]),
   (138, [(7, .step 0 (.step 1 (.step 2 (.step 3 (.step 4 (.step 6 (.step 7 (.step 8 (.step 9 (.step 10 (.step 5 (.step 11 (.step 12 (.step 13 (.done)))))))))))))))]),
   (139, [(11, .step 0 (.step 1 (.step 2 (.step 3 (.step 4 (.step 5 (.step 6 (.step 7 (.step 8 (.step 9 (.step 10 (.step 11 (.step 12 (.step 13 (.step 14 (.step 15 (.done)))))))))))))))))]),
   (140, [(2, .step 0 (.step 1 (.step 2 (.step 4 (.fork (.step 3 (.step 5 (.step 6 (.step 7 (.done))))) (.step 5 (.step 3 (.step 6 (.step 7 (.done))))))))))]),
   (156, [(1, .step 0 (.step 1 (.fork (.step 2 (.fork (.step 3 (.step 4 (.step 5 (.step 6 (.done))))) (.step 4 (.step 3 (.step 5 (.step 6 (.done))))))) (.fork (.step 3 (.fork (.step 2 (.step 4 (.step 5 (.step 6 (.done))))) (.step 4 (.step 2 (.step 5 (.step 6 (.done))))))) (.step 4 (.fork (.step 2 (.step 3 (.step 5 (.step 6 (.done))))) (.step 3 (.step 2 (.step 5 (.step 6 (.done))))))))))), (5, .step 0 (.step 1 (.step 2 (.step 3 (.step 4 (.step 5 (.step 6 (.step 7 (.step 8 (.step 9 (.step 10 (.step 11 (.step 12 (.step 13 (.step 14 (.step 15 (.step 16 (.step 17 (.done))))))))))))))))))), (6, .step 0 (.step 1 (.step 2 (.step 4 (.step 7 (.step 11 (.step 12 (.step 13 (.step 14 (.step 15 (.step 16 (.step 17 (.step 18 (.step 20 (.step 21 (.step 22 (.step 24 (.step 25 (.step 26 (.step 3 (.step 5 (.step 6 (.step 8 (.step 9 (.step 10 (.step 19 (.step 23 (.step 27 (.step 28 (.done)))))))))))))))))))))))))))))), (13, .step 0 (.step 1 (.step 2 (.step 3 (.step 4 (.step 5 (.step 6 (.step 7 (.step 8 (.done))))))))))]),
   (173, [(4, .step 0 (.step 1 (.step 2 (.step 3 (.step 4 (.step 5 (.step 6 (.step 9 (.step 10 (.step 11 (.step 12 (.step 13 (.step 14 (.step 18 (.step 19 (.step 20 (.step 21 (.step 22 (.step 23 (.step 27 (.step 28 (.step 29 (.step 30 (.step 31 (.step 32 (.fork (.step 7 (.step 8 (.fork (.step 15 (.step 16 (.step 17 (.fork (.step 24 (.step 25 (.step 26 (.step 33 (.step 34 (.step 35 (.step 36 (.done)))))))) (.step 33 (.step 24 (.step 25 (.step 26 (.step 34 (.step 35 (.step 36 (.done)))))))))))) (.fork (.step 24 (.step 25 (.fork (.step 15 (.step 16 (.step 17 (.step 26 (.step 33 (.step 34 (.step 35 (.step 36 (.done))))))))) (.step 33 (.step 15 (.step 16 (.step 17 (.step 26 (.step 34 (.step 35 (.step 36 (.done)))))))))))) (.step 33 (.fork (.step 15 (.step 16 (.step 17 (.step 24 (.step 25 (.step 26 (.step 34 (.step 35 (.step 36 (.done)))))))))) (.step 24 (.step 25 (.step 15 (.step 16 (.step 17 (.step 26 (.step 34 (.step 35 (.step 36 (.done)))))))))))))))) (.fork (.step 15 (.step 16 (.fork (.step 7 (.step 8 (.step 17 (.fork (.step 24 (.step 25 (.step 26 (.step 33 (.step 34 (.step 35 (.step 36 (.done)))))))) (.step 33 (.step 24 (.step 25 (.step 26 (.step 34 (.step 35 (.step 36 (.done)))))))))))) (.fork (.step 24 (.step 25 (.fork (.step 7 (.step 8 (.step 17 (.step 26 (.step 33 (.step 34 (.step 35 (.step 36 (.done))))))))) (.step 33 (.step 7 (.step 8 (.step 17 (.step 26 (.step 34 (.step 35 (.step 36 (.done)))))))))))) (.step 33 (.fork (.step 7 (.step 8 (.step 17 (.step 24 (.step 25 (.step 26 (.step 34 (.step 35 (.step 36 (.done)))))))))) (.step 24 (.step 25 (.step 7 (.step 8 (.step 17 (.step 26 (.step 34 (.step 35 (.step 36 (.done)))))))))))))))) (.fork (.step 24 (.step 25 (.fork (.step 7 (.step 8 (.fork (.step 15 (.step 16 (.step 17 (.step 26 (.step 33 (.step 34 (.step 35 (.step 36 (.done))))))))) (.step 33 (.step 15 (.step 16 (.step 17 (.step 26 (.step 34 (.step 35 (.step 36 (.done)))))))))))) (.fork (.step 15 (.step 16 (.fork (.step 7 (.step 8 (.step 17 (.step 26 (.step 33 (.step 34 (.step 35 (.step 36 (.done))))))))) (.step 33 (.step 7 (.step 8 (.step 17 (.step 26 (.step 34 (.step 35 (.step 36 (.done)))))))))))) (.step 33 (.fork (.step 7 (.step 8 (.step 15 (.step 16 (.step 17 (.step 26 (.step 34 (.step 35 (.step 36 (.done)))))))))) (.step 15 (.step 16 (.step 7 (.step 8 (.step 17 (.step 26 (.step 34 (.step 35 (.step 36 (.done)))))))))))))))) (.step 33 (.fork (.step 7 (.step 8 (.fork (.step 15 (.step 16 (.step 17 (.step 24 (.step 25 (.step 26 (.step 34 (.step 35 (.step 36 (.done)))))))))) (.step 24 (.step 25 (.step 15 (.step 16 (.step 17 (.step 26 (.step 34 (.step 35 (.step 36 (.done))))))))))))) (.fork (.step 15 (.step 16 (.fork (.step 7 (.step 8 (.step 17 (.step 24 (.step 25 (.step 26 (.step 34 (.step 35 (.step 36 (.done)))))))))) (.step 24 (.step 25 (.step 7 (.step 8 (.step 17 (.step 26 (.step 34 (.step 35 (.step 36 (.done))))))))))))) (.step 24 (.step 25 (.fork (.step 7 (.step 8 (.step 15 (.step 16 (.step 17 (.step 26 (.step 34 (.step 35 (.step 36 (.done)))))))))) (.step 15 (.step 16 (.step 7 (.step 8 (.step 17 (.step 26 (.step 34 (.step 35 (.step 36 (.done)))))))))))))))))))))))))))))))))))))))))))), (10, .step 0 (.step 1 (.step 2 (.step 3 (.step 4 (.step 5 (.step 6 (.step 7 (.step 9 (.step 12 (.step 13 (.step 16 (.step 17 (.step 18 (.step 19 (.step 20 (.step 22 (.step 24 (.step 27 (.step 28 (.step 8 (.step 10 (.step 11 (.step 14 (.step 15 (.step 21 (.step 23 (.step 25 (.step 26 (.step 29 (.step 30 (.step 31 (.step 32 (.done)))))))))))))))))))))))))))))))))), (17, .step 0 (.step 1 (.step 2 (.step 3 (.step 5 (.step 8 (.step 12 (.step 13 (.step 14 (.step 15 (.step 16 (.step 17 (.step 18 (.step 19 (.step 20 (.step 21 (.step 22 (.step 23 (.step 25 (.step 26 (.step 27 (.step 28 (.step 30 (.step 31 (.step 32 (.step 33 (.step 4 (.step 6 (.step 7 (.step 9 (.step 10 (.step 11 (.step 24 (.step 29 (.step 34 (.step 35 (.done))))))))))))))))))))))))))))))))))))), (18, .step 0 (.step 2 (.step 5 (.step 8 (.step 9 (.step 10 (.step 11 (.step 12 (.step 13 (.step 14 (.step 15 (.step 16 (.step 17 (.step 18 (.step 19 (.step 20 (.step 21 (.step 22 (.step 23 (.step 24 (.step 25 (.step 26 (.step 1 (.step 3 (.step 4 (.step 6 (.step 7 (.step 27 (.step 28 (.done)))))))))))))))))))))))))))))), (19, .step 0 (.step 1 (.step 2 (.step 3 (.step 4 (.step 5 (.step 6 (.step 7 (.step 8 (.step 9 (.step 10 (.step 11 (.step 12 (.step 13 (.step 14 (.step 15 (.step 16 (.step 17 (.step 18 (.step 19 (.step 20 (.step 21 (.step 22 (.step 23 (.step 24 (.step 25 (.step 26 (.step 27 (.done))))))))))))))))))))))))))))), (23, .step 0 (.step 1 (.step 2 (.step 3 (.step 4 (.step 5 (.step 6 (.step 7 (.step 8 (.step 9 (.step 10 (.done))))))))))))]),
   (179, [(17, .step 0 (.step 1 (.step 2 (.step 3 (.step 4 (.step 5 (.step 6 (.step 7 (.step 8 (.step 9 (.step 10 (.step 11 (.step 12 (.step 13 (.step 14 (.step 15 (.step 16 (.done))))))))))))))))))]),
   (187, [(3, .step 0 (.step 1 (.step 2 (.step 3 (.step 5 (.step 6 (.step 7 (.step 8 (.step 9 (.step 11 (.step 4 (.step 10 (.step 12 (.done))))))))))))))]),
   (190, [(1, .step 0 (.step 1 (.step 2 (.step 3 (.step 5 (.step 6 (.step 7 (.step 8 (.step 9 (.step 4 (.step 10 (.step 11 (.done)))))))))))))]),
   (191, [(6, .step 0 (.step 1 (.step 2 (.step 3 (.step 4 (.step 7 (.step 8 (.step 9 (.step 10 (.step 11 (.step 15 (.step 16 (.step 17 (.step 18 (.step 19 (.step 23 (.step 24 (.step 25 (.step 26 (.step 27 (.fork (.step 5 (.step 6 (.fork (.step 12 (.step 13 (.step 14 (.fork (.step 20 (.step 21 (.step 22 (.step 28 (.step 29 (.step 30 (.step 31 (.done)))))))) (.step 28 (.step 20 (.step 21 (.step 22 (.step 29 (.step 30 (.step 31 (.done)))))))))))) (.fork (.step 20 (.step 21 (.fork (.step 12 (.step 13 (.step 14 (.step 22 (.step 28 (.step 29 (.step 30 (.step 31 (.done))))))))) (.step 28 (.step 12 (.step 13 (.step 14 (.step 22 (.step 29 (.step 30 (.step 31 (.done)))))))))))) (.step 28 (.fork (.step 12 (.step 13 (.step 14 (.step 20 (.step 21 (.step 22 (.step 29 (.step 30 (.step 31 (.done)))))))))) (.step 20 (.step 21 (.step 12 (.step 13 (.step 14 (.step 22 (.step 29 (.step 30 (.step 31 (.done)))))))))))))))) (.fork (.step 12 (.step 13 (.fork (.step 5 (.step 6 (.step 14 (.fork (.step 20 (.step 21 (.step 22 (.step 28 (.step 29 (.step 30 (.step 31 (.done)))))))) (.step 28 (.step 20 (.step 21 (.step 22 (.step 29 (.step 30 (.step 31 (.done)))))))))))) (.fork (.step 20 (.step 21 (.fork (.step 5 (.step 6 (.step 14 (.step 22 (.step 28 (.step 29 (.step 30 (.step 31 (.done))))))))) (.step 28 (.step 5 (.step 6 (.step 14 (.step 22 (.step 29 (.step 30 (.step 31 (.done)))))))))))) (.step 28 (.fork (.step 5 (.step 6 (.step 14 (.step 20 (.step 21 (.step 22 (.step 29 (.step 30 (.step 31 (.done)))))))))) (.step 20 (.step 21 (.step 5 (.step 6 (.step 14 (.step 22 (.step 29 (.step 30 (.step 31 (.done)))))))))))))))) (.fork (.step 20 (.step 21 (.fork (.step 5 (.step 6 (.fork (.step 12 (.step 13 (.step 14 (.step 22 (.step 28 (.step 29 (.step 30 (.step 31 (.done))))))))) (.step 28 (.step 12 (.step 13 (.step 14 (.step 22 (.step 29 (.step 30 (.step 31 (.done)))))))))))) (.fork (.step 12 (.step 13 (.fork (.step 5 (.step 6 (.step 14 (.step 22 (.step 28 (.step 29 (.step 30 (.step 31 (.done))))))))) (.step 28 (.step 5 (.step 6 (.step 14 (.step 22 (.step 29 (.step 30 (.step 31 (.done)))))))))))) (.step 28 (.fork (.step 5 (.step 6 (.step 12 (.step 13 (.step 14 (.step 22 (.step 29 (.step 30 (.step 31 (.done)))))))))) (.step 12 (.step 13 (.step 5 (.step 6 (.step 14 (.step 22 (.step 29 (.step 30 (.step 31 (.done)))))))))))))))) (.step 28 (.fork (.step 5 (.step 6 (.fork (.step 12 (.step 13 (.step 14 (.step 20 (.step 21 (.step 22 (.step 29 (.step 30 (.step 31 (.done)))))))))) (.step 20 (.step 21 (.step 12 (.step 13 (.step 14 (.step 22 (.step 29 (.step 30 (.step 31 (.done))))))))))))) (.fork (.step 12 (.step 13 (.fork (.step 5 (.step 6 (.step 14 (.step 20 (.step 21 (.step 22 (.step 29 (.step 30 (.step 31 (.done)))))))))) (.step 20 (.step 21 (.step 5 (.step 6 (.step 14 (.step 22 (.step 29 (.step 30 (.step 31 (.done))))))))))))) (.step 20 (.step 21 (.fork (.step 5 (.step 6 (.step 12 (.step 13 (.step 14 (.step 22 (.step 29 (.step 30 (.step 31 (.done)))))))))) (.step 12 (.step 13 (.step 5 (.step 6 (.step 14 (.step 22 (.step 29 (.step 30 (.step 31 (.done))))))))))))))))))))))))))))))))))))))), (7, .step 0 (.step 1 (.step 2 (.step 3 (.step 4 (.step 5 (.step 6 (.step 7 (.step 8 (.step 9 (.done))))))))))), (10, .step 0 (.step 1 (.step 2 (.step 3 (.step 4 (.step 5 (.step 6 (.step 7 (.step 8 (.step 9 (.step 10 (.step 11 (.step 12 (.step 13 (.step 14 (.step 15 (.done)))))))))))))))))]),
   (194, [(5, .step 0 (.step 1 (.step 2 (.step 3 (.step 4 (.step 5 (.step 6 (.step 7 (.done)))))))))]),
   (196, [(4, .step 1 (.step 2 (.step 3 (.step 5 (.step 6 (.step 7 (.step 8 (.step 0 (.step 4 (.step 9 (.step 10 (.step 11 (.done)))))))))))))]),
   (199, [(4, .step 0 (.step 1 (.step 2 (.step 3 (.step 4 (.step 5 (.step 6 (.step 7 (.step 8 (.step 9 (.step 10 (.step 11 (.step 12 (.step 13 (.step 14 (.step 15 (.step 16 (.done)))))))))))))))))), (6, .step 0 (.step 1 (.step 2 (.step 3 (.step 4 (.step 5 (.step 6 (.step 7 (.step 8 (.step 9 (.step 10 (.step 11 (.step 12 (.step 13 (.step 14 (.step 15 (.step 16 (.step 17 (.done)))))))))))))))))))]),
   (200, [(10, .step 0 (.step 1 (.step 2 (.step 3 (.step 4 (.step 5 (.step 6 (.step 7 (.step 8 (.step 9 (.step 10 (.step 11 (.step 12 (.step 13 (.step 14 (.step 15 (.step 16 (.step 17 (.step 18 (.step 19 (.done)))))))))))))))))))))]),
   (201, [(10, .step 0 (.step 1 (.step 2 (.step 3 (.step 4 (.step 5 (.step 6 (.step 7 (.step 8 (.step 9 (.step 10 (.step 11 (.step 12 (.step 13 (.step 14 (.step 15 (.step 16 (.step 17 (.step 18 (.step 19 (.done)))))))))))))))))))))]),
   (203, [(3, .step 0 (.step 1 (.step 2 (.step 3 (.step 4 (.step 5 (.step 6 (.step 7 (.step 8 (.step 9 (.step 10 (.step 11 (.step 12 (.step 13 (.step 14 (.step 15 (.done)))))))))))))))))]),
   (204, [(5, .step 0 (.step 1 (.step 2 (.step 3 (.step 4 (.step 5 (.step 6 (.step 7 (.step 8 (.step 9 (.step 10 (.step 11 (.step 12 (.step 13 (.step 14 (.step 15 (.step 16 (.step 17 (.done))))))))))))))))))), (11, .step 0 (.step 1 (.step 2 (.step 3 (.step 4 (.step 5 (.step 6 (.step 7 (.step 8 (.step 9 (.step 10 (.step 11 (.step 12 (.step 13 (.step 14 (.step 15 (.step 16 (.step 17 (.done))))))))))))))))))), (16, .step 0 (.step 1 (.step 2 (.step 3 (.step 4 (.step 5 (.step 6 (.step 7 (.step 8 (.step 9 (.step 10 (.step 11 (.step 12 (.done)))))))))))))), (17, .step 0 (.step 1 (.step 2 (.step 3 (.step 4 (.step 5 (.step 6 (.step 7 (.step 8 (.step 9 (.step 10 (.step 11 (.step 12 (.step 13 (.step 14 (.step 15 (.step 16 (.step 17 (.done))))))))))))))))))), (22, .step 0 (.step 1 (.step 2 (.step 3 (.step 4 (.step 5 (.step 6 (.step 7 (.step 8 (.step 9 (.step 10 (.step 11 (.step 12 (.done)))))))))))))), (23, .step 0 (.step 1 (.step 2 (.step 3 (.step 4 (.step 5 (.step 6 (.step 7 (.step 8 (.step 9 (.step 10 (.step 11 (.step 12 (.step 13 (.step 14 (.step 15 (.step 16 (.step 17 (.done)))))))))))))))))))]),
   (205, [(1, .step 0 (.step 1 (.step 2 (.step 3 (.step 4 (.step 5 (.step 6 (.step 7 (.step 8 (.step 9 (.step 10 (.step 11 (.step 12 (.step 13 (.step 14 (.step 15 (.done))))))))))))))))), (3, .step 0 (.step 1 (.step 2 (.step 3 (.step 4 (.step 5 (.step 6 (.step 7 (.step 8 (.step 9 (.step 10 (.step 11 (.step 12 (.step 13 (.step 14 (.step 15 (.step 16 (.done)))))))))))))))))), (5, .step 0 (.step 1 (.step 2 (.step 3 (.step 4 (.step 5 (.step 6 (.step 7 (.step 8 (.step 9 (.step 10 (.step 11 (.step 12 (.step 13 (.step 14 (.step 15 (.done))))))))))))))))), (8, .step 0 (.step 1 (.step 2 (.step 3 (.step 4 (.step 5 (.step 6 (.step 7 (.step 8 (.step 9 (.step 10 (.step 11 (.step 12 (.step 13 (.step 14 (.step 15 (.done)))))))))))))))))]),
   (206, [(1, .step 0 (.step 1 (.step 2 (.step 3 (.step 4 (.step 5 (.step 6 (.step 7 (.step 8 (.step 9 (.step 10 (.step 11 (.step 12 (.step 13 (.step 14 (.step 15 (.done))))))))))))))))), (3, .step 0 (.step 1 (.step 2 (.step 3 (.step 4 (.step 5 (.step 6 (.step 7 (.step 8 (.step 9 (.step 10 (.step 11 (.step 12 (.step 13 (.step 14 (.step 15 (.done))))))))))))))))), (5, .step 0 (.step 1 (.step 2 (.step 3 (.step 4 (.step 5 (.step 6 (.step 7 (.step 8 (.step 9 (.step 10 (.step 11 (.step 12 (.step 13 (.step 14 (.step 15 (.step 16 (.done)))))))))))))))))), (8, .step 0 (.step 1 (.step 2 (.step 3 (.step 4 (.step 5 (.step 6 (.step 7 (.step 8 (.step 9 (.step 10 (.step 11 (.step 12 (.step 13 (.step 14 (.step 15 (.done))))))))))))))))), (10, .step 0 (.step 1 (.step 2 (.step 3 (.step 4 (.step 5 (.step 6 (.step 7 (.step 8 (.step 9 (.step 10 (.step 11 (.step 12 (.step 13 (.step 14 (.step 15 (.done))))))))))))))))), (13, .step 0 (.step 1 (.step 2 (.step 3 (.step 4 (.step 5 (.step 6 (.step 7 (.step 8 (.step 9 (.step 10 (.step 11 (.step 12 (.step 13 (.step 14 (.step 15 (.done))))))))))))))))), (15, .step 0 (.step 1 (.step 2 (.step 3 (.step 4 (.step 5 (.step 6 (.step 7 (.step 8 (.step 9 (.step 10 (.step 11 (.step 12 (.step 13 (.step 14 (.step 15 (.step 16 (.done)))))))))))))))))), (18, .step 0 (.step 1 (.step 2 (.step 3 (.step 4 (.step 5 (.step 6 (.step 7 (.step 8 (.step 9 (.step 10 (.step 11 (.step 12 (.step 13 (.step 14 (.step 15 (.done))))))))))))))))), (21, .step 0 (.step 1 (.step 2 (.step 3 (.step 4 (.step 5 (.step 6 (.step 7 (.step 8 (.step 9 (.step 10 (.step 11 (.step 12 (.step 13 (.step 14 (.step 15 (.done)))))))))))))))))]),
   (211, [(1, .step 0 (.step 1 (.step 3 (.step 2 (.step 4 (.step 5 (.step 6 (.done))))))))]),
   (212, [(1, .step 0 (.step 1 (.step 3 (.step 2 (.step 4 (.step 5 (.step 6 (.done))))))))]),
   (220, [(0, .step 0 (.step 1 (.step 2 (.step 3 (.step 6 (.step 9 (.step 10 (.step 11 (.step 12 (.step 13 (.step 4 (.step 5 (.step 7 (.step 8 (.step 14 (.step 15 (.done)))))))))))))))))]),
   (224, [(11, .step 0 (.step 1 (.step 2 (.step 3 (.step 4 (.step 5 (.step 6 (.step 7 (.step 8 (.done)))))))))), (15, .step 0 (.step 1 (.step 2 (.step 3 (.step 4 (.step 5 (.step 6 (.step 7 (.step 8 (.done))))))))))]),
   (225, [(3, .step 0 (.step 1 (.step 2 (.step 3 (.step 4 (.step 5 (.step 6 (.step 7 (.step 8 (.step 9 (.step 10 (.step 11 (.step 12 (.step 13 (.step 14 (.step 15 (.step 16 (.step 17 (.step 18 (.step 19 (.step 20 (.step 21 (.done))))))))))))))))))))))), (5, .step 0 (.step 1 (.step 2 (.step 3 (.step 4 (.step 5 (.step 6 (.step 7 (.step 8 (.step 9 (.step 10 (.step 11 (.step 12 (.step 13 (.step 14 (.step 15 (.done))))))))))))))))), (6, .step 0 (.step 1 (.step 2 (.step 3 (.step 4 (.step 5 (.step 6 (.step 7 (.step 8 (.step 9 (.step 10 (.step 11 (.step 12 (.step 13 (.step 14 (.step 15 (.step 16 (.step 17 (.step 18 (.step 19 (.step 20 (.step 21 (.step 22 (.step 23 (.done)))))))))))))))))))))))))]),
   (227, [(1, .step 0 (.step 1 (.step 2 (.step 3 (.step 4 (.step 5 (.step 6 (.step 7 (.step 8 (.step 9 (.done))))))))))), (2, .step 0 (.step 1 (.step 2 (.step 3 (.step 4 (.step 5 (.step 6 (.step 7 (.step 8 (.step 9 (.done))))))))))), (3, .step 0 (.step 1 (.step 2 (.step 3 (.step 4 (.step 5 (.step 6 (.step 7 (.step 8 (.step 9 (.done)))))))))))]),
   (238, [(1, .step 0 (.step 1 (.step 2 (.step 3 (.step 4 (.step 5 (.step 6 (.step 7 (.step 8 (.step 9 (.step 10 (.done))))))))))))]),
   (243, [(7, .step 0 (.step 1 (.step 2 (.step 3 (.step 4 (.step 5 (.step 6 (.step 7 (.step 8 (.step 9 (.step 10 (.step 11 (.step 12 (.step 13 (.step 14 (.done)))))))))))))))), (8, .step 0 (.step 1 (.step 2 (.step 3 (.step 4 (.step 5 (.step 6 (.step 7 (.step 8 (.step 9 (.step 10 (.step 11 (.step 12 (.step 13 (.step 14 (.done)))))))))))))))), (9, .step 0 (.step 1 (.step 2 (.step 3 (.step 4 (.step 5 (.step 6 (.step 7 (.step 8 (.step 9 (.step 10 (.step 11 (.step 12 (.step 13 (.step 14 (.done)))))))))))))))), (10, .step 0 (.step 1 (.step 2 (.step 3 (.step 4 (.step 5 (.step 6 (.step 7 (.step 8 (.step 9 (.step 10 (.step 11 (.step 12 (.step 13 (.step 14 (.done)))))))))))))))), (17, .step 0 (.step 1 (.step 2 (.step 3 (.step 4 (.step 5 (.step 6 (.step 7 (.step 8 (.step 9 (.step 10 (.step 11 (.step 12 (.step 13 (.step 14 (.done)))))))))))))))), (18, .step 0 (.step 1 (.step 2 (.step 3 (.step 4 (.step 5 (.step 6 (.step 7 (.step 8 (.step 9 (.step 10 (.step 11 (.step 12 (.step 13 (.step 14 (.done)))))))))))))))), (23, .step 0 (.step 1 (.step 2 (.step 3 (.step 4 (.step 5 (.step 6 (.step 7 (.step 8 (.step 9 (.step 10 (.step 11 (.step 12 (.step 13 (.step 14 (.done))))))))))))))))]),
   (250, [(3, .step 0 (.step 1 (.step 2 (.step 3 (.step 4 (.step 5 (.step 6 (.step 7 (.step 8 (.step 9 (.step 10 (.step 11 (.step 12 (.step 13 (.step 14 (.step 15 (.done)))))))))))))))))])]
def joinT : List (Nat × List (Nat × List (Nat × Nat))) :=
  [(3, [(3, [(29, 4)]), (14, [(54, 4)])]),
   (4, [(1, [(29, 4)]), (8, [(92, 4)]), (14, [(4, 4)])]),
   (16, [(1, [(45, 4)]), (6, [(81, 4)])]),
   (17, [(1, [(26, 4)]), (6, [(44, 4)]), (9, [(2, 4)])]),
   (19, [(3, [(15, 4)])]),
   (21, [(1, [(6, 4)])]),
   (23, [(1, [(6, 4)])]),
   (24, [(1, [(11, 4)]), (11, [(57, 4)])]),
   (33, [(1, [(38, 4)]), (8, [(103, 4)]), (14, [(131, 4)])]),
   (37, [(1, [(5, 4)])]),
   (40, [(1, [(19, 4)])]),
   (41, [(1, [(2, 4)])]),
   (42, [(4, [(36, 4)])]),
   (43, [(1, [(21, 4)]), (6, [(56, 4)])]),
   (44, [(1, [(2, 4)])]),
   (46, [(6, [(53, 4)])]),
   (51, [(1, [(18, 4)]), (5, [(2, 4)])]),
   (52, [(7, [(47, 4)])]),
   (54, [(5, [(23, 4)]), (13, [(65, 4)])]),
   (57, [(1, [(2, 4)])]),
   (82, [(8, [(39, 4)])]),
   (83, [(1, [(26, 4)]), (7, [(64, 4)])]),
   (85, [(1, [(2, 4)])]),
   (88, [(1, [(2, 4)])]),
   (95, [(2, [(23, 4)])]),
   (96, [(1, [(2, 4)])]),
   (109, [(1, [(2, 4)])]),
   (111, [(5, [(5, 4)]), (6, [(45, 4)])]),
   (127, [(2, [(25, 4)])]),
   (136, [(1, [(2, 4)])]),
   (139, [(11, [(56, 4)])]),
   (141, [(2, [(22, 4)])]),
   (142, [(1, [(19, 4)]), (7, [(35, 4)])]),
   (152, [(9, [(34, 4)]), (20, [(49, 4)]), (22, [(58, 4)]), (24, [(67, 4)]), (26, [(76, 4)]), (28, [(85, 4)])]),
   (158, [(8, [(6, 3), (7, 4)])]),
   (163, [(1, [(6, 4)])]),
   (175, [(2, [(19, 4)])]),
   (179, [(15, [(75, 4)]), (17, [(97, 4)])]),
   (182, [(2, [(30, 4)]), (4, [(39, 4)])]),
   (193, [(1, [(17, 4)]), (6, [(35, 4)])]),
   (196, [(2, [(22, 4)])]),
   (199, [(4, [(34, 4)])]),
   (204, [(5, [(36, 4)])]),
   (205, [(3, [(47, 4)]), (5, [(65, 4)])]),
   (206, [(3, [(47, 4)]), (5, [(66, 4)]), (13, [(120, 4)]), (15, [(139, 4)])]),
   (210, [(12, [(38, 4)]), (17, [(52, 4)]), (19, [(62, 4)])]),
   (218, [(1, [(4, 4)])]),
   (222, [(1, [(2, 4)])]),
   (223, [(1, [(2, 4)])]),
   (225, [(3, [(40, 4)])]),
   (230, [(6, [(25, 4)]), (12, [(40, 4)]), (15, [(52, 4)]), (18, [(64, 4)]), (23, [(83, 4)]), (40, [(106, 4)]), (42, [(112, 4)]), (44, [(121, 4)]), (52, [(159, 4)]), (56, [(169, 4)])]),
   (233, [(2, [(17, 4)])]),
   (240, [(3, [(18, 4)]), (6, [(46, 4)]), (12, [(83, 4)])]),
   (244, [(1, [(28, 4)])])]
def cutT : List (Nat × List Nat) := [(156, [2])]
def cboxT : List (Nat × List Nat) := [(59, [3, 4, 5])]
def hrowT : List Nat := [6]
def unrollT : List (Nat × List (Nat × Nat)) := [(6, [(5, 3)]), (22, [(5, 4)]), (24, [(9, 4)]), (54, [(11, 4)]), (61, [(4, 1)]), (63, [(4, 1)]), (65, [(2, 1)]), (67, [(2, 1)]), (69, [(2, 1)]), (71, [(2, 1)]), (121, [(4, 1)]), (124, [(2, 1)]), (125, [(2, 1)])]
def okT : List Nat := [3, 5, 6, 7, 8, 9, 21, 22, 23, 24, 25, 26, 27, 41, 45, 47, 53, 54, 55, 56, 57, 58, 59, 60, 61, 62, 63, 64, 65, 66, 67, 68, 69, 70, 71, 81, 84, 89, 95, 97, 98, 103, 107, 108, 109, 110, 111, 112, 113, 114, 115, 116, 117, 118, 119, 120, 121, 122, 123, 124, 125, 127, 128, 131, 132, 137, 141, 142, 145, 146, 147, 148, 149, 152, 153, 154, 155, 156, 158, 159, 160, 161, 162, 163, 164, 165, 166, 167, 169, 172, 173, 181, 184, 191, 192, 193, 194, 195, 196, 197, 221, 222, 223, 224, 237, 245, 250]
/-- two texts held against each other -/
def cmpX : List D → Heap → Option (D × Heap)
  | [.str a, .str b], [] => some (.int .i64 (Lib.compareBytes a b), [])
  | _, _ => none
/-- a number's text -/
def itoaX : List D → Heap → Option (D × Heap)
  | [.int .i64 n], [] => if -9223372036854775808 ≤ n ∧ n ≤ 9223372036854775807 then some (.str (Lib.itoa n), []) else none
  | _, _ => none
/-- a text read as a number -/
def atoiX : List D → Heap → Option (D × Heap)
  | [.str s], [] => if s.length ≤ 281474976710656 then match Lib.atoiAll s with
    | .ok v => some (.tup [.int .i64 v, .nili], [])
    | .range => some (.tup [.int .i64 (Lib.atoiSat s), .iface 225 .undef], [])
    | _ => some (.tup [.int .i64 0, .iface 225 .undef], []) else none
  | _, _ => none
/-- a text so many times -/
def repX : List D → Heap → Option (D × Heap)
  | [.str s, .int .i64 n], [] => if 0 ≤ n ∧ n ≤ 4096 ∧ s.length ≤ 4096 then some (.str (Lib.repeatL s n.toNat), []) else none
  | _, _ => none
/-- a pair put in -/
def insX : List D → Heap → Option (D × Heap)
  | [.hsl 0 0 n, .int .i64 i, .hsl 1 0 1], [.rows rs, .rows [r]] => if n = rs.length ∧ 0 ≤ i ∧ i ≤ (rs.length : Int) ∧ rs.length ≤ 1048576 ∧ allSz 2 rs = true ∧ r.length = 2 then
      some (.hsl 0 0 (rs.length + 1), [.rows (rs.take i.toNat ++ r :: rs.drop i.toNat), .rows [r]]) else none
  | _, _ => none
/-- pairs, in a row of their own -/
def cloX : List D → Heap → Option (D × Heap)
  | [.sl rs], [] => if rs.length ≤ 1048576 ∧ allSz 2 rs = true then some (.hsl 0 0 rs.length, [.rows rs]) else none
  | _, _ => none
/-- a pair taken out -/
def cutX : List D → Heap → Option (D × Heap)
  | [.hsl 0 0 n, .int .i64 i, .int .i64 j], [.rows rs] => if n = rs.length ∧ 0 ≤ i ∧ i < (rs.length : Int) ∧ j = i + 1 ∧ rs.length ≤ 1048576 ∧ allSz 2 rs = true then
      some (.hsl 0 0 (rs.length - 1), [.rows ((rs.take i.toNat ++ rs.drop (i.toNat + 1)) ++ [[.str [], .str []]])]) else none
  | _, _ => none
noncomputable def E : Env where
  P := Tryz.prog
  mode := lk {} modeT
  live f i := lk ([], []) (lk [] liveT f) i
  ext f := if f = 181 then some cmpX else if f = 184 then some itoaX else if f = 146 then some atoiX else if f = 152 then some repX else if f = 224 then some insX else if f = 81 then some cloX else if f = 194 then some cutX else none
  hof f := hofT.contains f
  hrow f := hrowT.contains f
  unroll f i := lk 0 (lk [] unrollT f) i
  dyn f := dynT.contains f
  conv f := convT.contains f
  plan f i := lk .done (lk [] planT f) i
  ok f := okT.contains f
  cut f i := (lk [] cutT f).contains i
  cbox f i := (lk [] cboxT f).contains i
  join f i := (lk [] joinT f).lookup i
noncomputable def O : Req → Option Rep := sem E
theorem O_eq (r : Req) : O r = stepReq E O r := sem_eq E r
/-- the functions whose calls are looked into at once -/
def inlT : List Nat := [59]
noncomputable def O1 (q : Req) : Option Rep := match q with
  | .call f xs h => bif inlT.contains f then stepReq E O (.call f xs h) else O (.call f xs h)
  | q => O q
theorem O1_is : O1 = O := by
  funext q
  unfold O1
  split
  · rename_i f xs h
    cases inlT.contains f
    · rfl
    · exact (O_eq (.call f xs h)).symm
  · rfl
theorem O_eq1 (r : Req) : O r = stepReq E O1 r := by rw [O1_is]; exact O_eq r
noncomputable def tl (f id : Nat) : Code := tlOf Tryz.prog f id
noncomputable def lp (f id : Nat) : Code := lpOf Tryz.prog f id
end Go.Proofs.YtahngpmkkhechaaGreatDoor.A
