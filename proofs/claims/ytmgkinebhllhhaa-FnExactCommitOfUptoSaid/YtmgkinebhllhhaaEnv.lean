/- The names of the functions, the slots of the loops, the modes of the calls, by program. -/
import Derived.Test.YtmgkinebhllhhaaMono2
import Derived.Test.YtmgkinebhllhhaaProg
import Derived.Lib.Bytealg
namespace Go.Proofs.Ytmgkinebhllhhaa.A
open Go
set_option maxRecDepth 100000
def liveT : List (Nat × List (Nat × List Nat × List Nat)) :=
  [(5, [(11, [5, 6, 13, 14], [])]),
   (11, [(5, [0, 1, 5], [])]),
   (13, [(3, [0, 3, 4], [])]),
   (15, [(4, [0, 1, 5], [])]),
   (18, [(10, [8, 9, 28, 29, 30], [])]),
   (19, [(11, [1, 7, 8, 9, 10], [])]),
   (20, [(4, [0, 1, 5], [])]),
   (21, [(4, [0, 1, 5], [])]),
   (22, [(5, [0, 1, 5], [])]),
   (23, [(3, [0, 3, 4], [])]),
   (24, [(4, [0, 1, 5], [])]),
   (25, [(4, [0, 1, 5], [])]),
   (26, [(2, [0, 1, 5], [])]),
   (27, [(2, [0, 1, 5], [])]),
   (28, [(2, [0, 1, 5], [])]),
   (29, [(2, [0, 1, 5], [])]),
   (30, [(2, [0, 1, 5], [])]),
   (40, [(2, [5, 6, 7], [])]),
   (50, [(3, [0, 3, 4], [])]),
   (51, [(3, [0, 3, 4], [])]),
   (56, [(6, [0, 3], [])]),
   (63, [(4, [0, 3], [])]),
   (68, [(3, [0, 1, 5, 6], [])]),
   (77, [(2, [0, 5, 6, 7], [])]),
   (83, [(4, [0, 3], [])]),
   (84, [(2, [0, 1, 7, 8], [])]),
   (85, [(2, [0, 7, 8], [])]),
   (93, [(3, [0, 1, 2, 8, 9, 10], [])]),
   (101, [(1, [0, 2, 3], [])])]
def modeT : List (Nat × Mode) :=
  [(13, ⟨false, true, false⟩), (23, ⟨false, true, false⟩), (54, ⟨false, true, false⟩)]
def hofT : List Nat := [46, 84, 93]
def convT : List Nat := []
def planT : List (Nat × List (Nat × Plan)) :=
  [(10, [(3, .step 1 (.step 2 (.step 3 (.fork (.step 0 (.step 4 (.step 5 (.step 6 (.step 7 (.done)))))) (.step 6 (.step 0 (.step 4 (.step 5 (.step 7 (.done)))))))))), (5, .step 0 (.step 1 (.step 2 (.step 3 (.step 6 (.step 7 (.step 8 (.step 4 (.step 5 (.step 9 (.step 10 (.step 11 (.step 12 (.step 13 (.step 14 (.step 17 (.step 18 (.step 19 (.step 15 (.step 16 (.step 20 (.step 21 (.step 22 (.step 23 (.step 24 (.step 25 (.step 26 (.step 29 (.step 30 (.step 31 (.step 27 (.step 28 (.step 32 (.step 33 (.step 34 (.step 35 (.step 36 (.step 37 (.step 38 (.step 40 (.step 41 (.step 42 (.step 39 (.step 43 (.step 44 (.step 45 (.step 46 (.step 47 (.step 48 (.step 49 (.step 50 (.step 51 (.step 52 (.step 53 (.step 54 (.step 55 (.step 56 (.step 57 (.step 58 (.step 60 (.step 61 (.step 62 (.step 59 (.step 63 (.step 64 (.step 65 (.done)))))))))))))))))))))))))))))))))))))))))))))))))))))))))))))))))))]),
   (15, [(6, .step 0 (.step 1 (.step 2 (.step 3 (.step 4 (.step 5 (.step 6 (.step 7 (.step 8 (.step 9 (.done)))))))))))]),
   (20, [(6, .step 0 (.step 1 (.step 2 (.step 3 (.step 4 (.step 5 (.step 6 (.step 7 (.step 8 (.done))))))))))]),
   (21, [(6, .step 0 (.step 1 (.step 2 (.step 3 (.step 4 (.step 5 (.step 6 (.step 7 (.step 8 (.done))))))))))]),
   (24, [(6, .step 0 (.step 1 (.step 2 (.step 3 (.step 4 (.step 5 (.step 6 (.step 7 (.step 8 (.done))))))))))]),
   (25, [(6, .step 0 (.step 1 (.step 2 (.step 3 (.step 4 (.step 5 (.step 6 (.step 7 (.step 8 (.step 9 (.done)))))))))))]),
   (29, [(4, .step 0 (.step 1 (.step 2 (.step 3 (.step 4 (.step 5 (.step 6 (.step 7 (.done))))))))), (7, .step 0 (.step 1 (.step 2 (.step 3 (.step 4 (.step 5 (.step 6 (.step 7 (.done)))))))))]),
   (55, [(8, .step 0 (.step 1 (.step 2 (.step 3 (.step 4 (.step 5 (.step 6 (.step 7 (.step 8 (.step 9 (.step 10 (.step 11 (.step 12 (.step 13 (.step 14 (.step 15 (.step 16 (.done)))))))))))))))))), (10, .step 0 (.step 1 (.step 2 (.step 3 (.step 4 (.step 5 (.step 6 (.step 7 (.step 8 (.step 9 (.step 10 (.step 11 (.step 12 (.step 13 (.step 14 (.done)))))))))))))))), (14, .step 0 (.step 1 (.step 2 (.step 3 (.step 4 (.step 5 (.step 6 (.step 7 (.step 8 (.step 9 (.step 10 (.step 11 (.step 12 (.step 13 (.done)))))))))))))))]),
   (56, [(8, .step 0 (.step 1 (.step 2 (.step 3 (.step 4 (.step 5 (.step 6 (.step 7 (.step 8 (.step 9 (.step 10 (.step 11 (.step 12 (.step 13 (.step 14 (.step 15 (.step 16 (.step 17 (.step 18 (.step 19 (.step 20 (.step 21 (.step 22 (.step 23 (.done)))))))))))))))))))))))))]),
   (58, [(8, .step 1 (.step 2 (.step 3 (.step 5 (.step 6 (.step 10 (.step 11 (.step 12 (.fork (.step 0 (.fork (.step 4 (.step 7 (.step 8 (.step 9 (.step 13 (.step 14 (.step 15 (.done)))))))) (.step 7 (.fork (.step 4 (.step 8 (.step 9 (.step 13 (.step 14 (.step 15 (.done))))))) (.step 8 (.step 4 (.step 9 (.step 13 (.step 14 (.step 15 (.done))))))))))) (.step 7 (.fork (.step 0 (.fork (.step 4 (.step 8 (.step 9 (.step 13 (.step 14 (.step 15 (.done))))))) (.step 8 (.step 4 (.step 9 (.step 13 (.step 14 (.step 15 (.done))))))))) (.step 8 (.step 0 (.step 4 (.step 9 (.step 13 (.step 14 (.step 15 (.done)))))))))))))))))))]),
   (59, [(4, .step 1 (.step 2 (.step 3 (.step 5 (.step 6 (.step 7 (.step 8 (.step 0 (.step 4 (.step 9 (.step 10 (.step 11 (.done)))))))))))))]),
   (77, [(4, .step 0 (.step 1 (.step 2 (.step 3 (.step 4 (.step 5 (.step 6 (.step 7 (.step 8 (.step 9 (.step 10 (.step 11 (.step 12 (.step 13 (.step 14 (.step 15 (.step 16 (.step 17 (.step 18 (.step 19 (.step 20 (.step 21 (.step 22 (.step 23 (.step 24 (.done))))))))))))))))))))))))))]),
   (87, [(2, .step 0 (.step 1 (.step 2 (.step 3 (.step 4 (.step 5 (.step 6 (.step 7 (.step 8 (.step 9 (.done))))))))))), (3, .step 0 (.step 1 (.step 2 (.step 3 (.step 4 (.step 5 (.step 6 (.step 7 (.step 8 (.step 9 (.step 10 (.step 11 (.step 12 (.step 13 (.step 14 (.step 15 (.step 16 (.step 17 (.step 18 (.step 19 (.step 20 (.step 21 (.step 22 (.step 23 (.done))))))))))))))))))))))))), (4, .step 0 (.step 1 (.step 2 (.step 3 (.step 4 (.step 5 (.step 6 (.step 7 (.step 8 (.step 9 (.step 10 (.step 11 (.step 12 (.done))))))))))))))]),
   (89, [(11, .step 0 (.step 1 (.step 2 (.step 3 (.step 4 (.step 5 (.step 6 (.step 7 (.step 8 (.done)))))))))), (15, .step 0 (.step 1 (.step 2 (.step 3 (.step 4 (.step 5 (.step 6 (.step 7 (.step 8 (.done))))))))))]),
   (90, [(5, .step 0 (.step 1 (.step 2 (.step 3 (.step 4 (.step 5 (.step 6 (.step 7 (.done)))))))))]),
   (101, [(3, .step 0 (.step 1 (.step 2 (.step 3 (.step 4 (.step 5 (.step 6 (.step 7 (.step 8 (.step 9 (.step 10 (.step 11 (.step 12 (.step 13 (.step 14 (.step 15 (.done)))))))))))))))))])]
def joinT : List (Nat × List (Nat × List (Nat × Nat))) :=
  [(4, [(8, [(38, 4)])]),
   (5, [(1, [(35, 4)]), (7, [(67, 4)]), (13, [(88, 4)]), (22, [(4, 4)])]),
   (6, [(12, [(64, 4)]), (21, [(99, 4)]), (36, [(142, 4)])]),
   (8, [(1, [(16, 4)]), (3, [(3, 4)]), (4, [(4, 4)]), (5, [(5, 4)]), (6, [(6, 4)]), (7, [(125, 4)]), (10, [(2, 4)])]),
   (10, [(1, [(15, 4)]), (4, [(4, 4)]), (5, [(2, 4)])]),
   (19, [(1, [(20, 4)]), (19, [(62, 4)])]),
   (31, [(1, [(6, 4)])]),
   (32, [(1, [(2, 4)])]),
   (33, [(1, [(2, 4)])]),
   (35, [(1, [(6, 4)])]),
   (36, [(1, [(2, 4)])]),
   (39, [(1, [(6, 4)])]),
   (43, [(2, [(22, 4)])]),
   (53, [(1, [(5, 4)])]),
   (55, [(5, [(35, 4)]), (11, [(98, 4)])]),
   (56, [(8, [(39, 4)])]),
   (58, [(2, [(25, 4)])]),
   (59, [(2, [(22, 4)])]),
   (66, [(1, [(2, 4)])]),
   (67, [(1, [(2, 4)])]),
   (77, [(4, [(36, 4)])]),
   (82, [(1, [(2, 4)])]),
   (83, [(1, [(17, 4)]), (6, [(35, 4)])]),
   (85, [(5, [(5, 4)]), (6, [(45, 4)])]),
   (91, [(1, [(2, 4)])]),
   (92, [(1, [(2, 4)])]),
   (93, [(8, [(6, 3), (7, 4)])])]
def okT : List Nat := [4, 11, 12, 13, 14, 15, 31, 35, 41, 42, 43, 44, 45, 46, 47, 48, 53, 56, 57, 65, 68, 69, 70, 75, 76, 77, 78, 79, 82, 84, 86, 88, 93, 94, 95, 98]
/-- two texts held against each other -/
def cmpX : List D → Option D
  | [.str a, .str b] => some (.int .i64 (Lib.compareBytes a b))
  | _ => none
noncomputable def E : Env where
  P := Try.prog
  mode := lk ⟨false, false, false⟩ modeT
  live f i := lk ([], []) (lk [] liveT f) i
  ext f := bif f == 98 then some cmpX else none
  hof f := hofT.contains f
  conv f := convT.contains f
  plan f i := lk .done (lk [] planT f) i
  ok f := okT.contains f
  join f i := (lk [] joinT f).lookup i
noncomputable def O : Req → Option Rep := sem E
theorem O_eq (r : Req) : O r = stepReq E O r := sem_eq E r
noncomputable def lp (f id : Nat) : Code := lpOf Try.prog f id
end Go.Proofs.Ytmgkinebhllhhaa.A
