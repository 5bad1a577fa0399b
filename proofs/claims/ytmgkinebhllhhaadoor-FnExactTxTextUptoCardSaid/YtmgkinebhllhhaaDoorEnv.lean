/- The names of the functions, the slots of the loops, the modes of the calls, by program. -/
import Derived.Test.YtmgkinebhllhhaaDoorMono2
import Derived.Test.YtmgkinebhllhhaaDoorProg
import Derived.Lib.ItoaNum
import Derived.Lib.Join
namespace Go.Proofs.YtmgkinebhllhhaaDoor.A
open Go
set_option maxRecDepth 100000
def liveT : List (Nat × List (Nat × List Nat × List Nat)) :=
  [(9, [(4, [1, 3, 4, 5], [])]),
   (23, [(2, [5, 6, 7], [])]),
   (26, [(12, [0, 1, 5, 39, 40, 41], []), (22, [1, 63, 64, 65], [])]),
   (35, [(4, [0, 3], [])]),
   (36, [(2, [0, 1, 7, 8], [])]),
   (37, [(2, [0, 7, 8], [])]),
   (48, [(1, [0, 1, 4], [])]),
   (49, [(11, [0, 1, 3, 4, 10, 11, 12, 13, 14, 15, 16], []), (18, [0, 1, 3, 4, 10, 11, 12, 13, 17], [])])]
def modeT : List (Nat × Mode) :=
  [(24, ⟨true, false, false⟩)]
def hofT : List Nat := [36]
def convT : List Nat := []
def planT : List (Nat × List (Nat × Plan)) :=
  [(9, [(1, .step 1 (.step 2 (.step 6 (.step 7 (.step 0 (.step 3 (.step 4 (.step 5 (.step 8 (.step 9 (.done)))))))))))]),
   (10, [(3, .step 1 (.step 2 (.step 3 (.fork (.step 0 (.step 4 (.step 5 (.step 6 (.step 7 (.done)))))) (.step 6 (.step 0 (.step 4 (.step 5 (.step 7 (.done)))))))))), (5, .step 0 (.step 1 (.step 2 (.step 3 (.step 6 (.step 7 (.step 8 (.step 4 (.step 5 (.step 9 (.step 10 (.step 11 (.step 12 (.step 13 (.step 14 (.step 17 (.step 18 (.step 19 (.step 15 (.step 16 (.step 20 (.step 21 (.step 22 (.step 23 (.step 24 (.step 25 (.step 26 (.step 29 (.step 30 (.step 31 (.step 27 (.step 28 (.step 32 (.step 33 (.step 34 (.step 35 (.step 36 (.step 37 (.step 38 (.step 40 (.step 41 (.step 42 (.step 39 (.step 43 (.step 44 (.step 45 (.step 46 (.step 47 (.step 48 (.step 49 (.step 50 (.step 51 (.step 52 (.step 53 (.step 54 (.step 55 (.step 56 (.step 57 (.step 58 (.step 60 (.step 61 (.step 62 (.step 59 (.step 63 (.step 64 (.step 65 (.done)))))))))))))))))))))))))))))))))))))))))))))))))))))))))))))))))))]),
   (11, [(1, .step 1 (.step 2 (.step 3 (.fork (.step 0 (.step 4 (.step 5 (.step 6 (.step 7 (.done)))))) (.step 6 (.step 0 (.step 4 (.step 5 (.step 7 (.done)))))))))), (7, .step 0 (.step 1 (.step 2 (.step 3 (.step 4 (.step 5 (.step 6 (.done)))))))), (8, .step 0 (.step 1 (.step 2 (.step 3 (.step 4 (.step 5 (.step 6 (.done)))))))), (9, .step 0 (.step 1 (.step 2 (.step 3 (.step 4 (.step 5 (.step 6 (.done))))))))]),
   (17, [(7, .step 0 (.step 1 (.step 3 (.step 4 (.step 5 (.fork (.step 2 (.step 6 (.step 7 (.step 8 (.step 9 (.step 10 (.done))))))) (.step 6 (.fork (.step 2 (.step 7 (.step 8 (.step 9 (.step 10 (.done)))))) (.step 7 (.fork (.step 2 (.step 8 (.step 9 (.step 10 (.done))))) (.step 8 (.step 2 (.step 9 (.step 10 (.done)))))))))))))))]),
   (32, [(3, .step 0 (.step 1 (.step 2 (.step 3 (.step 5 (.step 6 (.step 7 (.step 8 (.step 9 (.step 11 (.step 4 (.step 10 (.step 12 (.done))))))))))))))]),
   (34, [(1, .step 0 (.step 1 (.step 2 (.step 3 (.step 5 (.step 6 (.step 7 (.step 8 (.step 9 (.step 4 (.step 10 (.step 11 (.done)))))))))))))]),
   (40, [(0, .step 0 (.step 1 (.step 2 (.step 3 (.step 6 (.step 9 (.step 10 (.step 11 (.step 12 (.step 13 (.step 4 (.step 5 (.step 7 (.step 8 (.step 14 (.step 15 (.done)))))))))))))))))]),
   (48, [(7, .step 0 (.step 1 (.step 2 (.step 3 (.step 4 (.step 5 (.step 6 (.step 7 (.step 8 (.step 9 (.step 10 (.step 11 (.step 12 (.step 13 (.step 14 (.done)))))))))))))))), (8, .step 0 (.step 1 (.step 2 (.step 3 (.step 4 (.step 5 (.step 6 (.step 7 (.step 8 (.step 9 (.step 10 (.step 11 (.step 12 (.step 13 (.step 14 (.done)))))))))))))))), (9, .step 0 (.step 1 (.step 2 (.step 3 (.step 4 (.step 5 (.step 6 (.step 7 (.step 8 (.step 9 (.step 10 (.step 11 (.step 12 (.step 13 (.step 14 (.done)))))))))))))))), (10, .step 0 (.step 1 (.step 2 (.step 3 (.step 4 (.step 5 (.step 6 (.step 7 (.step 8 (.step 9 (.step 10 (.step 11 (.step 12 (.step 13 (.step 14 (.done)))))))))))))))), (17, .step 0 (.step 1 (.step 2 (.step 3 (.step 4 (.step 5 (.step 6 (.step 7 (.step 8 (.step 9 (.step 10 (.step 11 (.step 12 (.step 13 (.step 14 (.done)))))))))))))))), (18, .step 0 (.step 1 (.step 2 (.step 3 (.step 4 (.step 5 (.step 6 (.step 7 (.step 8 (.step 9 (.step 10 (.step 11 (.step 12 (.step 13 (.step 14 (.done)))))))))))))))), (23, .step 0 (.step 1 (.step 2 (.step 3 (.step 4 (.step 5 (.step 6 (.step 7 (.step 8 (.step 9 (.step 10 (.step 11 (.step 12 (.step 13 (.step 14 (.done))))))))))))))))])]
def joinT : List (Nat × List (Nat × List (Nat × Nat))) :=
  [(3, [(7, [(32, 4)])]),
   (8, [(1, [(16, 4)]), (3, [(3, 4)]), (4, [(4, 4)]), (5, [(5, 4)]), (6, [(6, 4)]), (7, [(125, 4)]), (10, [(2, 4)])]),
   (9, [(10, [(61, 4)])]),
   (10, [(1, [(15, 4)]), (4, [(4, 4)]), (5, [(2, 4)])]),
   (12, [(1, [(6, 4)])]),
   (13, [(1, [(2, 4)])]),
   (14, [(1, [(2, 4)])]),
   (18, [(1, [(6, 4)])]),
   (19, [(1, [(2, 4)])]),
   (22, [(1, [(6, 4)])]),
   (29, [(1, [(2, 4)])]),
   (30, [(1, [(2, 4)])]),
   (35, [(1, [(17, 4)]), (6, [(35, 4)])]),
   (37, [(5, [(5, 4)]), (6, [(45, 4)])]),
   (41, [(1, [(2, 4)])]),
   (42, [(1, [(2, 4)])]),
   (43, [(2, [(17, 4)])]),
   (49, [(1, [(28, 4)])])]
def okT : List Nat := [3, 4, 5, 6, 7, 8, 9, 10, 11, 12, 13, 14, 15, 16, 17, 18, 19, 20, 21, 22, 23, 24, 25, 26, 27, 28, 29, 30, 31, 35, 36, 37, 41, 42]
def textsOf : List (List D) → Option (List (List UInt8))
  | [] => some []
  | [.str s] :: l => (textsOf l).map (s :: ·)
  | _ => none
/-- texts joined -/
def joinX : List D → Option D
  | [.sl rs, .str t] => (textsOf rs).bind fun l => if (Lib.join l t).length ≤ 140737488355328 ∧ l.length ≤ 140737488355328 then some (.str (Lib.join l t)) else none
  | _ => none
/-- a number's text -/
def itoaX : List D → Option D
  | [.int .i64 n] => if -9223372036854775808 ≤ n ∧ n ≤ 9223372036854775807 then some (.str (Lib.itoa n)) else none
  | _ => none
noncomputable def E : Env where
  P := Tryd.prog
  mode := lk ⟨false, false, false⟩ modeT
  live f i := lk ([], []) (lk [] liveT f) i
  ext f := if f = 26 then some joinX else if f = 31 then some itoaX else none
  hof f := hofT.contains f
  conv f := convT.contains f
  plan f i := lk .done (lk [] planT f) i
  ok f := okT.contains f
  join f i := (lk [] joinT f).lookup i
noncomputable def O : Req → Option Rep := sem E
theorem O_eq (r : Req) : O r = stepReq E O r := sem_eq E r
noncomputable def lp (f id : Nat) : Code := lpOf Tryd.prog f id
end Go.Proofs.YtmgkinebhllhhaaDoor.A
